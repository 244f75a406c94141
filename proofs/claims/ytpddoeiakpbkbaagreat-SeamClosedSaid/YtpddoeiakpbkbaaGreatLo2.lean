/- A part. -/
import Derived.Test.YtpddoeiakpbkbaaGreatLo1
import Derived.Sort.Grow
import Derived.Deep.Slices
import Derived.Deep.Fields
import Derived.ChangeSame
import Derived.OpenShut
import Derived.Test.YtpddoeiakpbkbaaGreatProg
import Derived.Sort.AssemblyPlain
import Derived.Lib.BitFns
import Derived.Shelf.GgSortFunc.InsertionK
import Derived.Shelf.Sort.Plain
import Derived.Ground.Names2Prog
import Derived.Shelf.Slices.CompactI
import Derived.Shelf.Slices.SearchI
import Derived.Shelf.Slices.Cells
import Derived.Shelf.Slices.In.SortNone
import Derived.Shelf.SlSortCmp.WholeK
import Derived.Ground.SlsfProg
set_option maxRecDepth 99999
set_option maxHeartbeats 0
set_option linter.unusedVariables false
set_option linter.unusedSimpArgs false
noncomputable section
namespace Go.Am
open IntKind (wrap)
structure DA where
 keep:List Nat
 frz:List Nat
 slots:List (Option (List Nat))
 lslots:List (Option (List Nat)):=[]
def G9 (b:Nat):List Nat->Nat->Option Nat
 | [],_=>none
 | x::l,i=>bif Nat.beq x b then some i else G9 b l (i+1)
def hasN (b:Nat):List Nat->Bool
 | []=>false
 | x::l=>bif Nat.beq x b then true else hasN b l
def Xt (cells:List B2) (off sz:Nat):Nat->List B2:=fun k=>(cells.drop (off+k*sz)).take sz
def Ir (P:Program) (blk:CG):B2->B2
 | .ptr _ o=>.dptr (blk.cells.drop o)
 | .sl _ off len _=>match P.info? blk.ty with
  | some i=>bif Nat.ble (off+len*i.size) blk.cells.length then .dat len (Xt blk.cells off i.size) else .undef
  | none=>.undef
 | .sla _ sz off len _=>match blk.arr with
  | some A=>bif Nat.beq A.sz sz&&Nat.ble (off+len) A.n then .dat len (fun k=>A.get (off+k)) else .undef
  | none=>.undef
 | _=>.undef
def Fq (P:Program) (mem:CD) (N:DA) (b:Nat) (v:B2) (f:Nat->B2):B2:=
 match G9 b N.keep 0 with
 | some b'=>f b'
 | none=>bif hasN b N.frz then match Yr mem b with
   | some blk=>Ir P blk v
   | none=>.undef
  else .undef
def Cw (P:Program) (mem:CD) (N:DA):Nat->B2->B2
 | 0,_=>.undef
 | d+1,v=>match v with
  | .ptr b o=>Fq P mem N b (.ptr b o) fun b'=>.ptr b' o
  | .sl b off len cap=>Fq P mem N b (.sl b off len cap) fun b'=>.sl b' off len cap
  | .sla b sz off len cap=>Fq P mem N b (.sla b sz off len cap) fun b'=>.sla b' sz off len cap
  | .epa b sz i fo=>Fq P mem N b (.epa b sz i fo) fun b'=>.epa b' sz i fo
  | .yld j=>match G9 j N.keep 0 with
   | some j'=>.yld j'
   | none=>.undef
  | .slv b sz off len=>match G9 b N.keep 0 with
   | some b'=>.slv b' sz off len
   | none=>.undef
  | .agg cs=>.agg (cs.map (Cw P mem N d))
  | .tup cs=>.tup (cs.map (Cw P mem N d))
  | .fn f cs=>.fn f (cs.map (Cw P mem N d))
  | .fnb f cs=>.fnb f (cs.map (Cw P mem N d))
  | .ifc t v=>.ifc t (Cw P mem N d v)
  | v=>v
def T.map (f:B2->B2) (t:T B2):T B2:=
 T.rec (motive:=fun _=>T B2) .leaf (fun v _ _ l r=>.node (f v) l r) t
def Nf (f:B2->B2) (env:T B2):List Nat->T B2
 | []=>.leaf
 | t::l=>T.set .undef (Nf f env l) t (f (T.get .undef env t))
def Ml (f:B2->B2) (env:T B2):Option (List Nat)->T B2
 | none=>T.map f env
 | some l=>Nf f env l
def Et (f:B2->B2):D3->D3
 | .flat g=>.flat g
 | .one r cs b=>.one r (cs.map f) (Et f b)
 | .alt c a b=>.alt c (Et f a) (Et f b)
def Sx (P:Program) (mem:CD) (N:DA):CG->CG
 | ⟨cells,ty,none⟩=>⟨cells.map (Cw P mem N 6),ty,none⟩
 | ⟨_,ty,some A⟩=>⟨Ya A.n (Et (Cw P mem N 6) A.rw).get,ty,some ⟨A.sz,A.n,Et (Cw P mem N 6) A.rw⟩⟩
def Su :D3->Bool
 | .flat g=>pd (∀i,(g i).all (pf 6)=true)
 | .one _ _ b=>Su b
 | .alt _ a b=>Su a&&Su b
def u9b (blk:CG):Bool:=match blk.arr with
 | none=>true
 | some A=>Su A.rw
def FC (P:Program) (mem:CD) (N:DA):List Nat->Nat->CD×Bool
 | [],_=>(.leaf,true)
 | b::l,i=>match FC P mem N l (i+1) with
  | (m,o)=>match Yr mem b with
   | none=>(m,o)
   | some blk=>(Wb m i (some (Sx P mem N blk)),u9b blk&&o)
def Ez (mem:CD):List Nat->Bool
 | []=>true
 | b::l=>match Yr mem b with
  | none=>Ez mem l
  | some blk=>(match blk.arr with
   | none=>blk.cells.all (pf 6)
   | some A=>pd (∀i,(A.get i).all (pf 6)=true))&&Ez mem l
def OC (f:B2->B2) (lps:CM):List Nat->Nat->List (Option (List Nat))->CM
 | [],_,_=>.leaf
 | b::l,i,sl=>match D9 lps b with
  | none=>OC f lps l (i+1) sl.tail
  | some ⟨st,pend,n,env,params,assign,body⟩=>GO (OC f lps l (i+1) sl.tail) i (some ⟨st,pend,n,Ml f env (sl.headD none),params,assign,body⟩)
def Se (keep:List Nat):Item->Option Item
 | .inRangeFunc j=>(G9 j keep 0).map .inRangeFunc
 | .endRangeFunc j=>(G9 j keep 0).map .endRangeFunc
 | x=>bif N6 x then some x else none
def SI (keep:List Nat):List Item->Option (List Item)
 | []=>some []
 | x::l=>match Se keep x,SI keep l with
  | some y,some m=>some (y::m)
  | _,_=>none
def UZ (keep:List Nat):Option Nat->Option (Option Nat)
 | none=>some none
 | some j=>(G9 j keep 0).map some
def TN (f:B2->B2) (keep:List Nat):List CV->List (Option (List Nat))->Option (List CV)
 | [],_=>some []
 | ⟨cx,ro,todo,rnd,rs,env⟩::cs,sl=>match SI keep todo,UZ keep rnd,TN f keep cs sl.tail with
  | some todo',some rnd',some cs'=>some (⟨cx,ro,todo',rnd',rs,Ml f env (sl.headD none)⟩::cs')
  | _,_,_=>none
def Gw :List Nat->List Nat->Bool
 | [],_=>true
 | b::l,frz=> !hasN b frz&&(!hasN b l&&Gw l frz)
def u7s (P:Program) (N:DA):CB->Option CB
 | ⟨cx,ro,todo,rnd,rs,⟨env,mem,next,orc,ob⟩,cs,lps⟩=>
  match SI N.keep todo,UZ N.keep rnd,TN (Cw P mem N 6) N.keep cs N.slots.tail with
  | some todo',some rnd',some cs'=>
   bif Gw N.keep N.frz then
    match FC P mem N N.keep 0 with
    | (mem',o)=>some ⟨cx,ro,todo',rnd',rs,⟨Ml (Cw P mem N 6) env (N.slots.headD none),mem',N.keep.length,[],o&&(Ez mem N.frz&&ob)⟩,cs',OC (Cw P mem N 6) lps N.keep 0 N.lslots⟩
   else none
  | _,_,_=>none
def Gy :Code->List Nat->List Item->Code×List Item
 | c,[],k=>(c,k)
 | .seq a b,0::p,k=>Gy a p (.code b::k)
 | .seq _ b,_::p,k=>Gy b p k
 | .block id c,_::p,k=>Gy c p (.inBlock id::k)
 | .loop c,_::p,k=>Gy c p (.inLoop c::k)
 | .scope c,_::p,k=>Gy c p (.inScope c::k)
 | .cond _ a _,0::p,k=>Gy a p k
 | .cond _ _ b,_::p,k=>Gy b p k
 | .rangeFunc _ _ a b,0::p,_=>Gy a p [.beginRound,.code b]
 | .rangeFunc _ _ _ b,_::p,_=>Gy b p []
 | c,_::_,k=>(c,k)
def Zg (P:Program) (f:FuncId) (p:List Nat) (j:Nat):List Item:=match Gy (j6n P f) p [] with
 | (c,k)=>(.code c::k).drop j
def Wc (P:Program) (f:FuncId) (p:List Nat):Code:=(Gy (j6n P f) p []).1
def Vm (P:Program) (f:FuncId) (p:List Nat) (i:Nat):Option CX:=match Wc P f p with
 | .region _ ops _=>some (ops,i,ops.toList.drop i)
 | _=>none
def u8q (P:Program) (S:B4) (Rc:CC) (n:Nat):CB->Option CB:=
 Nat.rec (motive:=fun _=>CB->Option CB) (fun C=>some C) (fun _ R C=>match TS P S Rc C with
  | some C'=>R C'
  | none=>none) n
section
variable {P:Program}
theorem Je {p:Prop} (h:pd p=true):p:= @Az p (Classical.propDecidable p) h
theorem Xj {p:Prop} (h:p):pd p=true:= @Al p (Classical.propDecidable p) h
theorem x2y {b:Nat}: ∀{l:List Nat} {i j:Nat},G9 b l i=some j->i<=j/\l[j - i]? =some b
 | [],i,j,h=>by cases h
 | x::l,i,j,h=>by
  unfold G9 at h;rcases Ky h with ⟨hx,h⟩ | ⟨_,h⟩
  .simp_all
  .obtain ⟨h1,h2⟩:=x2y h
   grind
theorem YL {b:Nat}: ∀{l:List Nat},hasN b l=true↔b∈l
 | []=>by simp [hasN]
 | x::l=>by
  unfold hasN;cases hx:Nat.beq x b with
  | true=>simp [Aj hx]
  | false=>
   have:x≠b:=fun e=>by rw [e,Nat.beq_refl] at hx;cases hx
   rw [Aa,YL,AH];exact ⟨.inr,fun h=>h.resolve_left fun e=>this e.symm⟩
theorem y9n : ∀{l frz:List Nat},Gw l frz=true->l.Nodup/\ ∀b∈l,b ∉ frz
 | [],_,_=>⟨List.nodup_nil,fun b hb=>by cases hb⟩
 | x::l,frz,h=>by
  unfold Gw at h;simp only [Ae,BI] at h;obtain ⟨h1,h2,h3⟩:=h;obtain ⟨i1,i2⟩:=y9n h3;have n1:x ∉ frz:=fun hm=>by rw [YL.2 hm] at h1;cases h1
  have n2:x ∉ l:=fun hm=>by rw [YL.2 hm] at h2;cases h2
  exact ⟨List.nodup_cons.2 ⟨n2,i1⟩,fun b hb=>by
   rcases AH.1 hb with rfl | hb
   .exact n1
   .exact i2 b hb⟩
def Fz (ρ:B6) (mem:CD) (N:DA) (k:Nat):Prop:= ∃b l,b∈N.frz/\ρ b=some l/\(Yr mem b).isSome =true/\l.blk=k
def Dh (ρ:B6) (mem:CD) (N:DA) (w:World):B6:=
 ⟨fun b'=>(N.keep[b']?).bind fun b=>ρ b,fun k=> @ite _ (Fz ρ mem N k) (Classical.propDecidable _) (w.heap[k]?) (ρ.fz k),fun j'=>(N.keep[j']?).bind fun j=>ρ.lp j⟩
theorem XQ {ρ:B6} {mem:CD} {next:Nat} {w:World} (h:B7 ρ mem next w) (N:DA) {k:Nat} {o:Obj} (e:ρ.fz k=some o):(Dh ρ mem N w).fz k=some o:=by
 show @ite _ (Fz ρ mem N k) (Classical.propDecidable _) (w.heap[k]?) (ρ.fz k)=some o;by_cases hf:Fz ρ mem N k
 .obtain ⟨b,l,_,hb,hm,rfl⟩:=hf;have:=h.sep b l hb hm
  grind
 grind
theorem w1y {ρ:B6} {mem:CD} {w:World} {N:DA} {b:Nat} {l:Ce} (hb:b∈N.frz) (hl:ρ b=some l) (hm:(Yr mem b).isSome =true):(Dh ρ mem N w).fz l.blk=w.heap[l.blk]? :=
 AG ⟨b,l,hb,hl,hm,rfl⟩
theorem Tl {ρ:B6} {mem:CD} {next:Nat} {w:World} (h:B7 ρ mem next w) (N:DA):ρ.bare.le (Dh ρ mem N w).bare :=⟨fun _ _ e=>(by cases e),fun _ _ e=>XQ h N e,fun _ _ e=>(by cases e)⟩
theorem Qj {ρ:B6} {mem:CD} {w:World} {N:DA} {b b':Nat} (h:G9 b N.keep 0=some b'):(Dh ρ mem N w) b'=ρ b/\(Dh ρ mem N w).lp b'=ρ.lp b:=by
 obtain ⟨_,h2⟩:=x2y h;rw [Nat.sub_zero] at h2;constructor
 .show (N.keep[b']?).bind _=_;rw [h2];rfl
 .show (N.keep[b']?).bind _=_;rw [h2];rfl
theorem y2r {mem:CD}: ∀{frz:List Nat},Ez mem frz=true-> ∀b∈frz,∀blk,Yr mem b=some blk->(match blk.arr with | none=>blk.cells.all (pf 6)=true | some A=> ∀i,(A.get i).all (pf 6)=true)
 | [],_,b,hb,_,_=>by cases hb
 | x::l,h,b,hb,blk,hm=>by
  unfold Ez at h;rcases AH.1 hb with rfl | hb
  .rw [hm] at h;simp only [Ae] at h;cases hA:blk.arr with
   | none=>have:=h.1;rw [hA] at this;exact this
   | some A=>have:=h.1;rw [hA] at this;exact Je this
  .cases hx:Yr mem x with
   | none=>rw [hx] at h;exact y2r h b hb blk hm
   | some blk'=>rw [hx] at h;simp only [Ae] at h;exact y2r h.2 b hb blk hm
theorem y9f {mem:CD} {next:Nat} {w:World} {ρ:B6} (h:B7 ρ mem next w) {N:DA} (ho:Ez mem N.frz=true) {b:Nat} (hb:b∈N.frz) {blk:CG} (hm:Yr mem b=some blk) {l:Ce} (hl:ρ b=some l):
  ∃val:Nat->Value,∀(i:Nat) (hi:i<blk.cells.length),VRel (Dh ρ mem N w).bare blk.cells[i] (val i)/\KK (Dh ρ mem N w).fz l.blk (l.base+i) (val i):=by
 obtain ⟨hn,ht,har,cs,el,h1,h2,h3⟩:=h.blk b l blk hl hm;refine ⟨fun i=>(cs[l.base+i]?).getD undef,fun i hi=> ?_⟩;obtain ⟨v,e1,e2⟩:=h3 i hi;have hpf:pf 6 blk.cells[i]=true:=by
  have:=y2r ho b hb blk hm;cases hA:blk.arr with
  | none=>grind
  | some A=>
   rw [hA] at this;obtain ⟨q1,_,_⟩:=har A hA;have hmem:blk.cells[i]∈Ya A.n A.get:=by grind
   grind [Ya]
 dsimp only;rw [e1];refine ⟨(Kv 6 _ _ hpf e2).mono (Tl h N),cs,el,(0,0),?_,e1⟩
 grind [w1y]
theorem v3o {mem:CD} {next:Nat} {w:World} {ρ:B6} (h:B7 ρ mem next w) {N:DA} (ho:Ez mem N.frz=true) {b:Nat} (hb:b∈N.frz) {blk:CG} (hm:Yr mem b=some blk) {v:B2} {u:Value} (hv:VRel ρ v u)
  (hvb:(∃o,v=.ptr b o)\/(∃off len cap,v=.sl b off len cap)\/(∃sz off len cap,v=.sla b sz off len cap)\/ ∃sz i fo,v=.epa b sz i fo):VRel (Dh ρ mem N w) (Ir P blk v) u:=by
 rcases hvb with ⟨o,rfl⟩ | ⟨off,len,cap,rfl⟩ | ⟨sz,off,len,cap,rfl⟩ | ⟨sz,i,fo,rfl⟩
 .cases hv with
  | ptr _ _ l hl=>
   obtain ⟨val,eP⟩:=y9f h ho hb hm hl;refine .dptr _ _ _ (fun j=>val (o+j)) (fun j hj=> ?_) (fun j hj=> ?_);all_goals grind
 .simp only [Ir];split
  .rename_i i hi;cases hc:Nat.ble (off+len*i.size) blk.cells.length with
   | false=>exact .undef _
   | true=>
    rw [Ab];have hle:=Ak hc;cases hv with
    | sl _ _ _ _ l c hl _ dV=>
     obtain ⟨val,eP⟩:=y9f h ho hb hm hl;have hin: ∀k,k<len->k*i.size+i.size<=len*i.size:=fun k hk=>by
      have:=AC i.size (show k+1<=len from hk)
      grind
     refine .dat len _ l.blk (l.base+off) i.size c (fun k j=>val (off+(k*i.size+j))) dV (fun k hk=> ?_) (fun k j hk hj=> ?_) (fun k j hk hj=> ?_);all_goals grind [Xt]
  .exact .undef _
 .simp only [Ir];split
  .rename_i A hA;cases hc:(Nat.beq A.sz sz&&Nat.ble (off+len) A.n) with
   | false=>exact .undef _
   | true=>
    rw [Ab];simp only [Ae] at hc;obtain rfl:=Aj hc.1;have hle:=Ak hc.2;cases hv with
    | slan=>exact .datn _
    | sla _ _ _ _ _ l c hl _ dV=>
     obtain ⟨val,eP⟩:=y9f h ho hb hm hl;obtain ⟨q1,q2,q3⟩:=(h.blk b l blk hl hm).arr A hA;have fP:=Ye A.n q3;have gE: ∀k j,k<len->j<A.sz-> ∃hi:(off+k)*A.sz+j<blk.cells.length,blk.cells[(off+k)*A.sz+j]? =(A.get (off+k))[j]? :=fun k j hk hj=>by
      grind [Vf]
     refine .dat len _ l.blk (l.base+off*A.sz) A.sz c (fun k j=>val ((off+k)*A.sz+j)) dV (fun k hk=>q3 _ (by omega)) (fun k j hk hj=> ?_) (fun k j hk hj=> ?_);all_goals grind
  .exact .undef _
 .exact .undef _
theorem Tp {mem:CD} {next:Nat} {w:World} {ρ:B6} (h:B7 ρ mem next w) {N:DA} (ho:Ez mem N.frz=true) {b:Nat} {v:B2} {u:Value} {f:Nat->B2} (hv:VRel ρ v u)
  (hvb:(∃o,v=.ptr b o)\/(∃off len cap,v=.sl b off len cap)\/(∃sz off len cap,v=.sla b sz off len cap)\/ ∃sz i fo,v=.epa b sz i fo)
  (hf: ∀b',G9 b N.keep 0=some b'->VRel (Dh ρ mem N w) (f b') u):VRel (Dh ρ mem N w) (Fq P mem N b v f) u:=by
 unfold Fq;split
 .grind
 .cases hc:hasN b N.frz with
  | false=>exact .undef _
  | true=>
   rw [Ab];split
   .grind [v3o,YL]
   .exact .undef _
theorem Ti {mem:CD} {next:Nat} {w:World} {ρ:B6} (h:B7 ρ mem next w) {N:DA} (ho:Ez mem N.frz=true): ∀(d:Nat) (v:B2) (u:Value),VRel ρ v u->VRel (Dh ρ mem N w) (Cw P mem N d v) u
 | 0,_,_,_=>.undef _
 | d+1,v,u,hv=>by
  have ih:=fun v u=>Ti h ho (N:=N) d v u;have list: ∀{cs:List B2} {vs:Array Value},cs.length=vs.size->(∀(i:Nat) (h1:i<cs.length) (h2:i<vs.size),VRel ρ cs[i] vs[i])->
    (cs.map (Cw P mem N d)).length =vs.size/\ ∀(i:Nat) (h1:i<(cs.map (Cw P mem N d)).length) (h2:i<vs.size),VRel (Dh ρ mem N w) (cs.map (Cw P mem N d))[i] vs[i]:=fun hl hh=>
   ⟨by simpa using hl,fun i h1 h2=>by simpa using ih _ _ (hh i (by simpa using h1) h2)⟩
  unfold Cw;cases hv with
  | undef=>exact .undef _
  | bool b=>exact .bool b
  | int k n=>exact .int k n
  | str s=>exact .str s
  | agg cs vs hl hh=>exact .agg _ _ (list hl hh).1 (list hl hh).2
  | tup cs vs hl hh=>exact .tup _ _ (list hl hh).1 (list hl hh).2
  | fn f cs vs hl hh=>exact .fn f _ _ (list hl hh).1 (list hl hh).2
  | fnb f cs vs hl hh=>exact .fnb f _ _ (list hl hh).1 (list hl hh).2
  | ptr b o l hl=>exact Tp h ho (.ptr b o l hl) (.inl ⟨o,rfl⟩) fun b' hb'=>.ptr b' o l (by rw [(Qj hb').1];exact hl)
  | nilp=>exact .nilp
  | sl b off len cap l c hl hc dV=>exact Tp h ho (.sl b off len cap l c hl hc dV) (.inr (.inl ⟨off,len,cap,rfl⟩)) fun b' hb'=>.sl b' off len cap l c (by rw [(Qj hb').1];exact hl) hc dV
  | nils=>exact .nils
  | sla b sz off len cap l c hl hc dV=>exact Tp h ho (.sla b sz off len cap l c hl hc dV) (.inr (.inr (.inl ⟨sz,off,len,cap,rfl⟩))) fun b' hb'=>.sla b' sz off len cap l c (by rw [(Qj hb').1];exact hl) hc dV
  | slan b sz off cap=>exact Tp h ho (.slan b sz off cap) (.inr (.inr (.inl ⟨sz,off,0,cap,rfl⟩))) fun b' hb'=>.slan b' sz off cap
  | epa b sz i fo l hl=>exact Tp h ho (.epa b sz i fo l hl) (.inr (.inr (.inr ⟨sz,i,fo,rfl⟩))) fun b' hb'=>.epa b' sz i fo l (by rw [(Qj hb').1];exact hl)
  | nilf=>exact .nilf
  | yld j l hl=>
   simp only;split
   .rename_i j' hj';exact .yld j' l (by rw [(Qj hj').2];exact hl)
   .exact .undef _
  | slv b sz off len l c hl dV=>
   simp only;split
   .rename_i j' hj';exact .slv j' sz off len l c (by rw [(Qj hj').1];exact hl) dV
   .exact .undef _
  | slve b sz off blk base c=>
   simp only;split
   .exact .slve _ sz off blk base c
   .exact .undef _
  | slvn b sz off=>
   simp only;split
   .exact .slvn _ sz off
   .exact .undef _
  | ifc t a v hv=>exact .ifc t _ _ (ih _ _ hv)
  | nili=>exact .nili
  | dat len get blk base sz cap val eC hsz hv hh=>refine .dat len get blk base sz cap val eC hsz (fun i j hi hj=>(hv i j hi hj).mono (Tl h N)) (fun i j hi hj=> ?_);obtain ⟨cs,el,fz,e1,e2⟩:=hh i j hi hj;exact ⟨cs,el,fz,XQ h N e1,e2⟩
  | datn get=>exact .datn get
  | datz get a c=>exact .datz get a c
  | nnl len get a c hd=>exact .nnl len get a c ((Kv 1 _ _ rfl hd).mono (B6.le_trans (Tl h N) (Tt _)))
  | dptr cs blk base val hv hh=>refine .dptr cs blk base val (fun j hj=>(hv j hj).mono (Tl h N)) (fun j hj=> ?_);obtain ⟨cs',el,fz,e1,e2⟩:=hh j hj;exact ⟨cs',el,fz,XQ h N e1,e2⟩
theorem T.get_map {f:B2->B2} (hf:f .undef =.undef): ∀(t:T B2) (i:Nat),T.get .undef (T.map f t) i=f (T.get .undef t i)
 | .leaf,i=>hf.symm
 | .node v l r,0=>rfl
 | .node v l r,i+1=>by
  show T.get .undef (.node (f v) (T.map f l) (T.map f r)) (i+1)=_;rw [T.get_succ,T.get_succ];split
  .exact T.get_map hf l _
  .exact T.get_map hf r _
theorem y2l {f:B2->B2} (env:T B2): ∀(L:List Nat) (t:Nat),T.get .undef (Nf f env L) t=if t∈L then f (T.get .undef env t) else .undef
 | [],t=>by simp [Nf]
 | x::L,t=>by
  unfold Nf;rw [T.get_set,y2l env L t];by_cases h:t=x
  .subst h;simp
  .simp [h]
theorem w7w {mem:CD} {next:Nat} {w:World} {ρ:B6} (h:B7 ρ mem next w) {N:DA} (ho:Ez mem N.frz=true) {env:T B2} {n:Nat} {tmps:Array Value} (he:Vz ρ env n tmps): ∀(L:Option (List Nat)),Vz (Dh ρ mem N w) (Ml (Cw P mem N 6) env L) n tmps
 | none=>by
  refine ⟨he.size,fun i=> ?_,fun i hi=> ?_⟩
  .show VRel _ (T.get .undef (T.map (Cw P mem N 6) env) i) _;rw [T.get_map rfl];exact Ti h ho 6 _ _ (he.get i)
  .show T.get .undef (T.map (Cw P mem N 6) env) i=_;rw [T.get_map rfl,he.out i hi];rfl
 | some L=>by
  refine ⟨he.size,fun i=> ?_,fun i hi=> ?_⟩
  .show VRel _ (T.get .undef (Nf (Cw P mem N 6) env L) i) _;rw [y2l];split
   .exact Ti h ho 6 _ _ (he.get i)
   .exact .undef _
  .show T.get .undef (Nf (Cw P mem N 6) env L) i=_;rw [y2l,he.out i hi];split <;> rfl
theorem x8b {mem:CD} {N:DA}: ∀(l:List Nat) (i j:Nat),Yr (FC P mem N l i).1 j=if i<=j then (l[j - i]?).bind fun b=>(Yr mem b).map (Sx P mem N) else none
 | [],i,j=>by simp [FC,Yr]
 | b::l,i,j=>by
  unfold FC;have ih:=x8b (mem:=mem) (N:=N) l (i+1);have tail:i<j->(b::l)[j - i]? =l[j - (i+1)]? :=fun h=>by rw [show j - i=(j - (i+1))+1 by omega];rfl
  cases hm:Yr mem b with
  | none=>
   show Yr (FC P mem N l (i+1)).1 j=_;rw [ih];rcases Bm i j with h | h | h
   .rw [AG (by omega),AG (by omega),tail h]
   .subst h;rw [Aw (by omega),AG (by omega)];simp [hm]
   .rw [Aw (by omega),Aw (by omega)]
  | some blk=>
   show Yr (Wb (FC P mem N l (i+1)).1 i (some (Sx P mem N blk))) j=_;rw [Uk,ih];rcases Bm i j with h | h | h
   .rw [Aw (by omega),AG (by omega),AG (by omega),tail h]
   .subst h;rw [AG rfl,AG (by omega)];simp [hm]
   .rw [Aw (by omega),Aw (by omega),Aw (by omega)]
theorem y2k {mem:CD} {N:DA}: ∀(l:List Nat) (i:Nat),(FC P mem N l i).2=true-> ∀b∈l,∀blk,Yr mem b=some blk->u9b blk=true
 | [],i,_,b,hb,_,_=>by cases hb
 | x::l,i,h,b,hb,blk,hm=>by
  unfold FC at h;cases hx:Yr mem x with
  | none=>
   rw [hx] at h;rcases AH.1 hb with rfl | hb
   .rw [hx] at hm;cases hm
   .exact y2k l (i+1) h b hb blk hm
  | some blk'=>
   rw [hx] at h;have h:(u9b blk'&&(FC P mem N l (i+1)).2)=true:=h;simp only [Ae] at h;rcases AH.1 hb with rfl | hb
   .rw [hx] at hm;obtain rfl:=Ag hm;exact h.1
   .exact y2k l (i+1) h.2 b hb blk hm
theorem Th {f:B2->B2} {lps:CM}: ∀(l:List Nat) (i:Nat) (sl:List (Option (List Nat))) (j:Nat) (L:DX),D9 (OC f lps l i sl) j=some L->i<=j/\ ∃b L0 x,l[j - i]? =some b/\D9 lps b=some L0/\L=⟨L0.st,L0.pend,L0.n,Ml f L0.env x,L0.params,L0.assign,L0.body⟩
 | [],i,sl,j,L,h=>by cases h
 | b::l,i,sl,j,L,h=>by
  unfold OC at h;split at h
  .obtain ⟨h1,b',L0,x,h2,h3,h4⟩:=Th l (i+1) _ j L h
   grind
  .rename_i st pend n env params assign body hb;rw [show D9 (GO (OC f lps l (i+1) sl.tail) i (some ⟨st,pend,n,Ml f env (sl.headD none),params,assign,body⟩)) j=if j=i then some ⟨st,pend,n,Ml f env (sl.headD none),params,assign,body⟩ else D9 (OC f lps l (i+1) sl.tail) j from T.get_set none _ i _ j] at h;by_cases hj:j=i
   .subst hj;rw [AG rfl] at h;obtain rfl:=Ag h;exact ⟨Aq _,b,_,_,by simp,hb,rfl⟩
   .rw [Aw hj] at h;obtain ⟨h1,b',L0,x,h2,h3,h4⟩:=Th l (i+1) _ j L h
    grind
theorem w2i {mem:CD} {w:World} {ρ:B6} {N:DA} {x x' y:Item} (h:Se N.keep x=some x') (hx:FF ρ x y):FF (Dh ρ mem N w) x' y:=by
 cases hx with
 | inR j l e=>simp only [Se,An] at h;obtain ⟨j',hj,rfl⟩:=h;exact .inR j' l (by rw [(Qj hj).2];exact e)
 | endR j l e=>simp only [Se,An] at h;obtain ⟨j',hj,rfl⟩:=h;exact .endR j' l (by rw [(Qj hj).2];exact e)
 | same x hp=>
  have:Se N.keep x=some x:=by
   unfold Se;split
   .cases hp
   .cases hp
   grind
  rw [this] at h;obtain rfl:=Ag h;exact .same _ hp
theorem y3q {mem:CD} {w:World} {ρ:B6} {N:DA}: ∀{l l' m:List Item},SI N.keep l=some l'->Dm ρ l m->Dm (Dh ρ mem N w) l' m
 | [],l',m,h,ht=>by cases ht;obtain rfl:=Ag h;exact .nil
 | x::l,l',m,h,ht=>by
  cases ht with
  | cons hx ht=>
   unfold SI at h;split at h
   .rename_i y k hy hk;obtain rfl:=Ag h;exact .cons (w2i hy hx) (y3q hk ht)
   .cases h
theorem w7v {mem:CD} {next:Nat} {w:World} {ρ:B6} (h:B7 ρ mem next w) {N:DA} (ho:Ez mem N.frz=true) {cx:CL} {ro:Option CX} {todo todo':List Item} {rnd rnd':Option Nat} {env:T B2} {b:Frame} {a:Act} {k:List Item} {ms:List Nat} (ht:SI N.keep todo=some todo') (hr:UZ N.keep rnd=some rnd')
  (hf:GL ρ cx ro todo rnd env b a k ms) (L:Option (List Nat)):GL (Dh ρ mem N w) cx ro todo' rnd' (Ml (Cw P mem N 6) env L) b a k ms/\(rnd'=none->rnd=none):=by
 refine ⟨⟨w7w h ho hf.env L,hf.defers,y3q ht hf.todo,hf.ro,?_⟩,fun e=> ?_⟩
 .have hrn:=hf.rnd;cases rnd with
  | none=>obtain rfl:=Ag hr;exact hrn
  | some j=>simp only [UZ,An] at hr;obtain ⟨j',hj,rfl⟩:=hr;obtain ⟨h0,l,h1,h2⟩:=hrn;exact ⟨h0,l,by rw [(Qj hj).2];exact h1,h2⟩
 .cases rnd with
  | none=>rfl
  | some j=>simp_all [UZ]
theorem x7f {mem:CD} {next:Nat} {w:World} {ρ:B6} (h:B7 ρ mem next w) {N:DA} (ho:Ez mem N.frz=true): ∀{cs cs':List CV} {sl:List (Option (List Nat))} {css:List Frame} {mss:List Nat},TN (Cw P mem N 6) N.keep cs sl=some cs'->GK P ρ cs css mss->GK P (Dh ρ mem N w) cs' css mss/\(cs'≠ []->cs≠ [])
 | [],cs',sl,css,mss,hc,hr=>by cases hr;obtain rfl:=Ag hc;exact ⟨.nil,id⟩
 | af::cs,cs',sl,css,mss,hc,hr=>by
  cases hr with
  | cons hf hl ht=>
   unfold TN at hc;split at hc
   .rename_i todo' rnd' cs'' h1 h2 h3;obtain rfl:=Ag hc;obtain ⟨i1,i2⟩:=x7f h ho h3 ht;obtain ⟨f1,f2⟩:=w7v (P:=P) h ho h1 h2 hf (sl.headD none);exact ⟨.cons f1 (fun hne=>⟨(hl (i2 hne)).1,fun e=>(hl (i2 hne)).2 (f2 e)⟩) i1,fun _=>by simp⟩
   .cases hc
def NB (ρ ρ':B6) (L L':List B2):Prop:=L'.length=L.length/\ ∀(j:Nat) (h1:j<L.length) (h2:j<L'.length) (v:Value),VRel ρ L[j] v->VRel ρ' L'[j] v
theorem XA {mem:CD} {next:Nat} {w:World} {ρ:B6} (h:B7 ρ mem next w) {N:DA} (ho:Ez mem N.frz=true): ∀(rw1:D3),Su rw1=true-> ∀k,NB ρ (Dh ρ mem N w) (rw1.get k) ((Et (Cw P mem N 6) rw1).get k)
 | .flat g,hf,k=>by refine ⟨rfl,fun j h1 h2 v hv=> ?_⟩;have fF: ∀i,(g i).all (pf 6)=true:=Je hf;exact ((Kv 6 _ _ (At.1 (fF k) _ (AV h1)) hv).mono (Tl h N)).mono (Tt _)
 | .one r cs b,hf,k=>by
  have ih:=XA h ho (N:=N) b hf k;have hc:NB ρ (Dh ρ mem N w) cs (cs.map (Cw P mem N 6)):=⟨by simp,fun j h1 h2 v hv=>by simpa using Ti h ho 6 _ _ hv⟩
  simp only [Et,D3.get];cases Nat.beq k r with
  | true=>exact hc
  | false=>exact ih
 | .alt c a b,hf,k=>by
  simp only [Su,Ae] at hf;have iha:=XA h ho (N:=N) a hf.1 k;have ihb:=XA h ho (N:=N) b hf.2 k;simp only [Et,D3.get];cases c k with
  | true=>exact iha
  | false=>exact ihb
theorem v2g {mem:CD} {next:Nat} {w:World} {ρ:B6} (h:B7 ρ mem next w) {N:DA} (ho:Ez mem N.frz=true) (hd:Gw N.keep N.frz=true) (hfl:(FC P mem N N.keep 0).2=true):B7 (Dh ρ mem N w) (FC P mem N N.keep 0).1 N.keep.length w:=by
 obtain ⟨hnd,hdj⟩:=y9n hd;have get: ∀j,Yr (FC P mem N N.keep 0).1 j=(N.keep[j]?).bind fun b=>(Yr mem b).map (Sx P mem N):=fun j=>by
  grind [x8b]
 have blk: ∀{b' l},(Dh ρ mem N w) b'=some l-> ∃b,N.keep[b']? =some b/\ρ b=some l:=fun {b' l} e=>by
  have e:(N.keep[b']?).bind (fun b=>ρ b)=some l:=e
  grind
 have live: ∀{b' b},N.keep[b']? =some b->(Yr (FC P mem N N.keep 0).1 b').isSome =true->(Yr mem b).isSome =true:=fun {b' b} e hs=>by
  grind
 refine ⟨fun b' l e=> ?_,fun b' b'' l l' e e' hbl hs hs'=> ?_,fun b' l ab e hm=> ?_,fun k o e=> ?_,fun b' l e hs=> ?_,fun b' l e=> ?_,fun b' hb=> ?_,fun j l e=> ?_⟩
 .grind
 .obtain ⟨b,e1,e2⟩:=blk e;obtain ⟨c,e3,e4⟩:=blk e';have:=h.inj b c l l' e2 e4 hbl (live e1 hs) (live e3 hs');subst this;exact (List.getElem?_inj (Bg.1 e1).1 hnd).1 (e1.trans e3.symm)
 .obtain ⟨b,e1,e2⟩:=blk e;rw [get,e1] at hm;simp only [Option.bind_some,An] at hm;obtain ⟨ab0,hm0,rfl⟩:=hm;obtain ⟨hn,ht,har,cs,el,g1,g2,g3⟩:=h.blk b l ab0 e2 hm0;obtain ⟨cells,ty,arr⟩:=ab0;cases arr with
  | none=>
   refine ⟨by simpa [Sx] using hn,ht,(fun A hA=>by cases hA),cs,el,g1,g2,fun i hi=> ?_⟩
   grind [Sx,Ti]
  | some A=>
   obtain ⟨a1,a2,a3⟩:=har A rfl;simp only at a1;have hfb:u9b ⟨cells,ty,some A⟩=true:=y2k N.keep 0 hfl b (List.mem_of_getElem? e1) _ hm0;have gE:=XA (P:=P) h ho (N:=N) A.rw hfb;have hl': ∀i,i<A.n->((Et (Cw P mem N 6) A.rw).get i).length =A.sz:=fun i hi=>by rw [(gE i).1];exact a3 i hi
   have k1:=Ye A.n a3;have k2:=Ye A.n hl';refine ⟨by show l.n=(Ya A.n _).length;grind,ht,(fun B hB=>by obtain rfl:=Ag hB;exact ⟨rfl,a2,hl'⟩),cs,el,g1,g2,fun i hi=> ?_⟩;have hi':i<A.n*A.sz:=by rw [<-k2];exact hi
   have hj:i %A.sz<A.sz:=Bq _ a2;have hq:i / A.sz<A.n:=A9 (by grind);have e:i / A.sz*A.sz+i %A.sz=i:=by rw [BC];exact Bt i A.sz
   have hic:i<cells.length:=by grind
   have r1:=Vf A.n a3 (i / A.sz) (i %A.sz) hq hj;have r2:=Vf A.n hl' (i / A.sz) (i %A.sz) hq hj;rw [e] at r1 r2;have hi2:i<(Ya A.n (Et (Cw P mem N 6) A.rw).get).length :=hi;have j1:i %A.sz<(A.rw.get (i / A.sz)).length :=by rw [show A.rw.get=A.get from rfl,a3 _ hq];exact hj
   have j2:i %A.sz<((Et (Cw P mem N 6) A.rw).get (i / A.sz)).length :=by grind
   obtain ⟨v,q1,q2⟩:=g3 i hic;have s1:cells[i]=(A.rw.get (i / A.sz))[i %A.sz]:=by
    have:cells[i]? =some (A.rw.get (i / A.sz))[i %A.sz]:=by rw [a1,r1,show A.get=A.rw.get from rfl,Au j1]
    grind
   have s2:(Ya A.n (Et (Cw P mem N 6) A.rw).get)[i]'hi2=((Et (Cw P mem N 6) A.rw).get (i / A.sz))[i %A.sz]:=by
    grind
   refine ⟨v,q1,?_⟩;show VRel _ ((Ya A.n (Et (Cw P mem N 6) A.rw).get)[i]'hi2) v;rw [s2];refine (gE _).2 _ j1 j2 v ?_
   grind
 .have e: @ite _ (Fz ρ mem N k) (Classical.propDecidable _) (w.heap[k]?) (ρ.fz k)=some o:=e;by_cases hf:Fz ρ mem N k
  .grind
  .rw [Aw hf] at e;exact h.old k o e
 .obtain ⟨b,e1,e2⟩:=blk e;have hs0:=live e1 hs;have hnf: ¬Fz ρ mem N l.blk:=fun ⟨c,l',c1,c2,c3,c4⟩=>by
   have:=h.inj c b l' l c2 e2 c4 c3 hs0
   grind
  show @ite _ (Fz ρ mem N l.blk) (Classical.propDecidable _) (w.heap[l.blk]?) (ρ.fz l.blk)=none;rw [Aw hnf];exact h.sep b l e2 hs0
 .obtain ⟨b,_,e2⟩:=blk e;exact h.real b l e2
 .grind
 .have e:(N.keep[j]?).bind (fun b=>ρ.lp b)=some l:=e
  grind
theorem VU {H:GA} {mem:CD} {next:Nat} {w0 w:World} {ρ:B6} (h:B7 ρ mem next w) {N:DA} (he:Ev (rhoOf H) ρ 0 .leaf 0 mem next w0 w) (mem':CD) (next':Nat):Ev (rhoOf H) (Dh ρ mem N w) 0 .leaf 0 mem' next' w0 w:=
 ⟨⟨fun b l e=>(by cases e),fun k o e=>XQ h N (he.ext.2.1 k o e),fun j l e=>(by cases e)⟩,fun b hb=>absurd hb (AL _),AA _,fun b hb=>absurd hb (AL _),he.frame,fun b l _ e=>by
   have e:(N.keep[b]?).bind (fun b=>ρ b)=some l:=e;rw [Option.bind_eq_some_iff] at e;obtain ⟨c,_,e2⟩:=e;exact he.fresh c l (AA _) e2,he.size,he.os,he.tape,he.output,fun k hk=>by
   have hnf: ¬Fz ρ mem N k:=fun ⟨b,l,_,e2,_,e4⟩=>by
    rcases he.fresh b l (AA _) e2 with h1 | ⟨b0,l0,e0,_⟩
    .omega
    .cases e0
   show @ite _ (Fz ρ mem N k) (Classical.propDecidable _) (w.heap[k]?) (ρ.fz k)=_;rw [Aw hnf];exact he.still k hk⟩
def DY (P:Program) (C C':CB):Prop:=
 ∀(H:GA) (w0:World) (ρ:B6) (b:Frame) (a:Act) (k:List Item) (css:List Frame) (w:World) (ma mb:List Nat),OP P w0.heap.size C ρ b a k css w ma mb->Ev (rhoOf H) ρ 0 .leaf 0 C.st.mem C.st.next w0 w-> ∀cs0:List Frame,
  ∃ρ' b' a' k' css' w' ma' mb',Steps P (lone (b.atR a (Vd C.ro k)) (css++cs0) w) (lone (b'.atR a' (Vd C'.ro k')) (css'++cs0) w')/\OP P w0.heap.size C' ρ' b' a' k' css' w' ma' mb'/\Ev (rhoOf H) ρ' 0 .leaf 0 C'.st.mem C'.st.next w0 w'/\Nw b' css'=Nw b css/\w.heap.size<=w'.heap.size
theorem DY.refl (C:CB):DY P C C:=fun H w0 ρ b a k css w ma mb hs he cs0=>⟨ρ,b,a,k,css,w,ma,mb,Steps.refl _ _,hs,he,rfl,Aq _⟩
theorem DY.trans {A B C:CB} (h:DY P A B) (k:DY P B C):DY P A C:=by intro H w0 ρ b a t css w ma mb hs he cs0;obtain ⟨ρ1,b1,a1,t1,css1,w1,ma1,mb1,s1,r1,e1,q1,z1⟩:=h H w0 ρ b a t css w ma mb hs he cs0;obtain ⟨ρ2,b2,a2,t2,css2,w2,ma2,mb2,s2,r2,e2,q2,z2⟩:=k H w0 ρ1 b1 a1 t1 css1 w1 ma1 mb1 r1 e1 cs0;exact ⟨ρ2,b2,a2,t2,css2,w2,ma2,mb2,s1.trans s2,r2,e2,q2.trans q1,AF z1 z2⟩
theorem F8.goes {C C':CB} (h:F8 P 0 C C'):DY P C C':=fun H w0 ρ b a k css w ma mb hs he cs0=>h .leaf 0 (rhoOf H) w0 ρ b a k css w ma mb hs he cs0
def WG (C:CB):Bool:=Nat.beq C.cx.floor 0&&C.cs.all fun af=>Nat.beq af.cx.floor 0
theorem u9c {C:CB} (h:WG C=true):Fl 0 C:=by unfold WG at h;simp only [Ae] at h;exact ⟨Aj h.1,fun af haf=>Aj (At.1 h.2 af haf),AA _⟩
theorem y7y {f:B2->B2} {keep:List Nat} {fl:Nat}: ∀{cs cs':List CV} {sl:List (Option (List Nat))},TN f keep cs sl=some cs'->(∀af∈cs,af.cx.floor=fl)-> ∀af∈cs',af.cx.floor=fl
 | [],cs',sl,h,_,af,haf=>by obtain rfl:=Ag h;cases haf
 | a0::cs,cs',sl,h,hcs,af,haf=>by
  unfold TN at h;split at h
  .rename_i t1 r1 c1 g1 g2 g3;obtain rfl:=Ag h;rcases AH.1 haf with rfl | haf
   .grind
   .exact y7y g3 (fun x hx=>hcs x (List.mem_cons_of_mem _ hx)) af haf
  .cases h
theorem v2s {N:DA} {C C':CB} (h:u7s P N C=some C') (ho:C'.st.ob=true):C.st.ob=true/\DY P C C'/\(Fl 0 C->Fl 0 C'):=by
 obtain ⟨cx,ro,todo,rnd,rs,⟨env,mem,next,orc,ob⟩,cs,lps⟩:=C;simp only [u7s] at h;split at h
 .rename_i todo' rnd' cs' h1 h2 h3;obtain ⟨hd,h⟩:=Yw h;obtain rfl:=Ag h;simp only [Ae] at ho;obtain ⟨hkm,ho2,ho3⟩:=ho;refine ⟨ho3,fun H w0 ρ b a k css w ma mb hs he cs0=> ?_,fun hfl=>⟨hfl.cx,fun af haf=> ?_,AA _⟩⟩
  .have dU:=hs.rel;simp only at dU he;obtain ⟨f1,f2⟩:=w7v (P:=P) dU ho2 h1 h2 hs.top (N.slots.headD none);obtain ⟨c1,c2⟩:=x7f (P:=P) dU ho2 h3 hs.rest.cs;refine ⟨Dh ρ mem N w,b,a,k,css,w,ma,mb,Steps.refl _ _,⟨f1,fun hne=>⟨(hs.lv (c2 hne)).1,fun e=>(hs.lv (c2 hne)).2 (f2 e)⟩,⟨c1,hs.rest.nodup,fun r hr=> ?_,fun j L hL=> ?_,fun j j' L L' l hL hL' e e'=> ?_⟩,?_⟩,VU dU he _ _,rfl,Aq _⟩
   .obtain ⟨q1,⟨q2,q3,q4⟩,q5⟩:=hs.rest.marks r hr;refine ⟨q1,⟨q2,?_,fun b' l e=> ?_⟩,q5⟩
    .show @ite _ (Fz ρ mem N r) (Classical.propDecidable _) (w.heap[r]?) (ρ.fz r)=none;rw [Aw fun ⟨c,l,_,e2,_,e4⟩=>q4 c l e2 e4];exact q3
    .have e:(N.keep[b']?).bind (fun b=>ρ b)=some l:=e
     grind
   .obtain ⟨_,c,L0,x,e1,e2,rfl⟩:=Th N.keep 0 _ j L hL;rw [Nat.sub_zero] at e1;obtain ⟨l,q1,q2,⟨q3,q4,q5⟩,tm,fn',d,q6,q7⟩:=hs.rest.loops c L0 e2;refine ⟨l,?_,q2,⟨q3,?_,fun b' l' e=> ?_⟩,tm,fn',d,q6,w7w (P:=P) dU ho2 q7 x⟩
    .show (N.keep[j]?).bind (fun b=>ρ.lp b)=some l
     grind
    .show @ite _ (Fz ρ mem N l) (Classical.propDecidable _) (w.heap[l]?) (ρ.fz l)=none;rw [Aw fun ⟨c,l,_,e2,_,e4⟩=>q5 c l e2 e4];exact q4
    .have e:(N.keep[b']?).bind (fun b=>ρ b)=some l':=e
     grind
   .obtain ⟨_,c,L0,x,e1,e2,rfl⟩:=Th N.keep 0 _ j L hL;obtain ⟨_,c',L0',x',e1',e2',rfl⟩:=Th N.keep 0 _ j' L' hL';rw [Nat.sub_zero] at e1 e1';have e:(N.keep[j]?).bind (fun b=>ρ.lp b)=some l:=e;have e':(N.keep[j']?).bind (fun b=>ρ.lp b)=some l:=e';rw [e1] at e;rw [e1'] at e';have:=hs.rest.inj c c' L0 L0' l e2 e2' e e';subst this;exact (List.getElem?_inj (Bg.1 e1).1 (y9n hd).1).1 (e1.trans e1'.symm)
   .exact v2g dU ho2 hd hkm
  .exact y7y h3 hfl.cs af haf
 .cases h
theorem x8d {S:B4} {Rc:CC} (hN:Ex P) (hmx:P.follows .mixedOrders =true) (hS:Zv P S) (hCI:FG Rc) (hC:Gz P Rc) {fl:Nat}: ∀(n:Nat) (C C':CB),Fl fl C->u8q P S Rc n C=some C'->Fl fl C'/\Wx fl C.st C'.st/\(C'.st.ob=true->F8 P fl C C')
 | 0,C,C',hfl,h=>by
  obtain rfl:=Ag h
  grind [Wx.refl,F8.refl]
 | n+1,C,C',hfl,h=>by
  have h:(match TS P S Rc C with
   | some C'=>u8q P S Rc n C'
   | none=>none)=some C':=h
  split at h
  .rename_i C1 h1;have s1:=x6q hN hmx hS hCI hC hfl h1;obtain ⟨f1,f4,f5⟩:=x8d hN hmx hS hCI hC n C1 C' s1.fls h;exact ⟨f1,s1.inv.trans f4,fun ho=>(s1.leads (f4.ob ho)).trans (f5 ho)⟩
  .cases h
def Zm (P:Program) (f:FuncId) (args:List B2) (sym:Bool) (orc:List Bool):CB:=
 match P.funcs[f]? with
 | some fn=>⟨⟨Nat.max fn.ntmps args.length,0,sym⟩,none,[.code (fn.body.getD .ret)],none,fn.results.toList,⟨Fb args 0 .leaf,.leaf,0,orc,true⟩,[],.leaf⟩
 | none=>⟨⟨0,0,sym⟩,none,[],none,[],⟨.leaf,.leaf,0,[],true⟩,[],.leaf⟩
theorem goes_call {f:FuncId} {args:List B2} {sym:Bool} {orc:List Bool} {C':CB} {vs:List B2} {H:GA} (hf:(P.funcs[f]?).any (fun fn=>fn.body.isSome)=true) (h:DY P (Zm P f args sym orc) C') (hfin:HD C'=true) (hob:(Qb P C'.st (Zm P f args sym orc).rs)=some vs)
  {vals:Array Value} {w:World} (dX:Vi (VRel (rhoOf H)) args vals.toList) (hH: ∀k o,H k=some o->w.heap[k]? =some o):
  Calls P f vals w fun e w'=> ∃ρ u,e=.returned u/\Out H w ρ (Ut vs) u w':=by
 cases hfn:P.funcs[f]? with
 | none=>grind
 | some fn=>
  rw [hfn] at hf;have hf:fn.body.isSome=true:=hf;obtain ⟨body,hb⟩:=Option.isSome_iff_exists.1 hf;have hstart:Zm P f args sym orc=⟨⟨Nat.max fn.ntmps args.length,0,sym⟩,none,[.code body],none,fn.results.toList,⟨Fb args 0 .leaf,.leaf,0,orc,true⟩,[],.leaf⟩:=by unfold Zm;grind
  rw [hstart] at h hob;simp only at hob;intro cs;obtain ⟨ρ',b',a',k',css',w',ma',mb',s1,r1,v1,q1,_⟩:=h H w (rhoOf H) ⟨f, #[],[],[],.run,.normal,none⟩ {tmps:=vals++Array.replicate (fn.ntmps - vals.size) undef,defers:=[]} [.code body] [] w [] []
   ⟨⟨y9i dX fn.ntmps,rfl,.cons (.same _ rfl) .nil,trivial,rfl⟩,fun h=>absurd rfl h,x2e _ _ _,x7g hH⟩ (Ev.refl _ _ _ _ _ (x7g hH).dom) cs
  obtain ⟨e1,e2,e3,e4⟩:=y9h hfin;have hcs:=r1.rest.cs;rw [e3] at hcs;cases hcs;obtain ⟨w2,s2,henv',eV,fU,_,_⟩:=y9l r1 e1 e2 e4 rfl v1 cs;obtain ⟨u,hu,fX⟩:=z4p (fn:=fn) henv' eV hob;have q:(b'.fn,b'.kind,b'.roundOf)=(f,CallKind.normal,none):=q1;simp only [Ac] at q;have hen:Frame.enter P f vals .normal =Frame.atR ⟨f, #[],[],[],.run,.normal,none⟩ {tmps:=vals++Array.replicate (fn.ntmps - vals.size) undef,defers:=[]} (Vd none [.code body]):=by
   grind [Frame.enter,Frame.atR,Vd]
  refine ⟨.returned u,w2,{b'.atR {a' with defers:=[]} k' with mode:=.returning},⟨ρ',u,rfl,PX hu eV fU⟩,?_,q.1,rfl,rfl,q.2.1,fn,by show P.funcs[b'.fn]? =_;grind,fX⟩;rw [hen];exact s1.trans s2
end
def Vk :List CG->Nat->CD
 | [],_=>.leaf
 | b::l,i=>Wb (Vk l (i+1)) i (some b)
def Dx (c:Nat->Int):Nat->List B2:=fun i=>[.int .i64 (c i)]
def CB.withO :CB->List Bool->CB
 | ⟨cx,ro,todo,rnd,rs,⟨env,mem,next,_,_⟩,cs,lps⟩,o=>⟨cx,ro,todo,rnd,rs,⟨env,mem,next,o,true⟩,cs,lps⟩
def CB.withB :CB->Bool->CB
 | ⟨cx,ro,todo,rnd,rs,⟨env,mem,next,_,_⟩,cs,lps⟩,b=>⟨cx,ro,todo,rnd,rs,⟨env,mem,next,[],b⟩,cs,lps⟩
inductive Xz (σ:Type) where
 | stuck
 | ret (vs:List B2)
 | to (s:σ)
def Uj (P:Program) (rs:List ResultVar) (C:CB) (vs:List B2):Prop:= ∃C',DY P C C'/\HD C'=true/\Qb P C'.st rs=some vs
def Xw (P:Program) (rs:List ResultVar) {σ:Type} (cfg:σ->CB) (C:CB):Xz σ->Prop
 | .stuck =>True
 | .ret vs=>Uj P rs C vs
 | .to s=>DY P C (cfg s)
section
variable {P:Program} {rs:List ResultVar} {σ:Type} {cfg:σ->CB} {C:CB}
theorem w8w {c:Bool} {a b:Xz σ} (ha:c=true->Xw P rs cfg C a) (hb:c=false->Xw P rs cfg C b):Xw P rs cfg C (bif c then a else b):=by grind
theorem u8n {c:Bool} {a:Xz σ} (ha:c=true->Xw P rs cfg C a):Xw P rs cfg C (bif c then a else .stuck):=w8w ha fun _=>trivial
theorem Un {vs:List B2} (C':CB) (h:DY P C C') (hf:HD C'=true) (hr:Qb P C'.st rs=some vs):Xw P rs cfg C (.ret vs):=⟨C',h,hf,hr⟩
end
def Zo {σ:Type} (step:σ->Xz σ):Nat->Xz σ->Xz σ
 | 0,o=>o
 | n+1,.to s=>Zo step n (step s)
 | _+1,o=>o
theorem Zb {P:Program} {rs:List ResultVar} {σ:Type} {cfg:σ->CB} {step:σ->Xz σ} (fA: ∀s,Xw P rs cfg (cfg s) (step s)) {C:CB}: ∀(n:Nat) (o:Xz σ),Xw P rs cfg C o->Xw P rs cfg C (Zo step n o)
 | 0,o,h=>h
 | n+1,.stuck,h=>h
 | n+1,.ret vs,h=>h
 | n+1,.to s,h=>Zb fA n (step s) (match step s,fA s with
  | .stuck,_=>trivial
  | .ret vs,⟨C',g,hf,hr⟩=>⟨C',DY.trans h g,hf,hr⟩
  | .to s',g=>DY.trans h g)
theorem Zp {σ:Type} (step:σ->Xz σ) (n:Nat) (vs:List B2):Zo step n (.ret vs)=.ret vs:=by cases n <;> rfl
theorem Zx {σ:Type} (step:σ->Xz σ) (n:Nat) (s:σ):Zo step (n+1) (.to s)=Zo step n (step s):=rfl
theorem Nh {a b:Bool} (ha:a=true) (hb:b=true):(a&&b)=true:=by grind
theorem v9l {a b:Bool} (h:a=b):(a == b)=true:=by grind
def B4.with (S:B4) (f:FuncId) (F:List B2->Option (B2×Bool)):B4:=fun g=>bif Nat.beq g f then some (.val F) else S g
theorem y7e {P:Program} {f:FuncId} {args:List B2} {sym:Bool} {orc:List Bool}:(Zm P f args sym orc).rs =Zy P f:=by grind [Zm,Zy]
theorem v5m {P:Program} {S:B4} (hS:Zv P S) {f:FuncId} {F:List B2->Option (B2×Bool)} (hf:(P.funcs[f]?).any (fun fn=>fn.body.isSome)=true)
  (hF: ∀args v,F args=some (v,true)-> ∃vs,Ut vs=v/\Uj P (Zy P f) (Zm P f args true []) vs/\ ∃d,pf d v=true):Zv P (S.with f F):=by
 intro g G hg;unfold B4.with at hg;cases hgf:Nat.beq g f with
 | false=>rw [hgf] at hg;exact hS g G hg
 | true=>
  rw [hgf] at hg;obtain rfl:Fy.val F=G:=Ag hg;obtain rfl:g=f:=Aj hgf;refine ⟨?_,fun args v hv H vals w dX hH=> ?_⟩
  .grind
  .obtain ⟨vs,rfl,⟨C',g1,g2,g3⟩,d,hp⟩:=hF args v hv;exact (goes_call hf g1 g2 (by rw [y7e];exact g3) dX hH).mono fun e w' ⟨ρ,u,he,ho⟩=>⟨ρ.fz,u,ho.le,ho.old,ho.same,he,Kv d _ u hp ho.val,ho.below⟩
def CP (get:Nat->List B2) (i:Nat):Int:=match get i with
 | .int _ n::_=>n
 | _=>0
def EP (get:Nat->List B2):Bool:=pd (get=Dx (CP get))
theorem w9a {get:Nat->List B2} (h:EP get=true): ∃c,get=Dx c:=⟨_,Je h⟩
theorem u7v (x:Int):(x != x)=false:=by simp
theorem u9q (x:Int):(x == x)=true:=by simp
theorem v9q (x:Int):(!(x != x))=true:=by simp
theorem v9t (x:Int):(!(x == x))=false:=by simp
theorem w64 (n:Int):IntKind.i64.wrap n=(n+9223372036854775808) %18446744073709551616 - 9223372036854775808:=by rw [IntKind.wrap_i64]
theorem w_in {n:Int} (h: -9223372036854775808<=n) (h':n<=9223372036854775807):IntKind.i64.wrap n=n:=by simp only [w64];omega
theorem Sa (x y:Int):Wt x y=min x y:=by unfold Wt;grind
theorem NL (x y:Int):Wf x y=max x y:=by unfold Wf;grind
inductive Di :B2->B2->Prop
 | refl (v:B2):Di v v
 | undef (v:B2):Di v .undef
 | nils (b sz off:Nat) (cap:Fc):Di .nils (.sla b sz off 0 cap)
 | sl (b sz q len:Nat) (cap:Fc):Di (.sl b (q*sz) len cap) (.sla b sz q len cap)
 | nild (g:Nat->List B2):Di .nils (.dat 0 g)
 | dat (n:Nat) (g g':Nat->List B2) (h: ∀i,i<n->g i=g' i):Di (.dat n g) (.dat n g')
 | dptr (cs cs':List B2) (hl:cs.length=cs'.length) (h: ∀(ρ:B6) (i:Nat) (h1:i<cs.length) (h2:i<cs'.length) (v:Value),VRel ρ cs[i] v->VRel ρ cs'[i] v):Di (.dptr cs) (.dptr cs')
theorem Di.sound {ρ:B6} {a a':B2} {v:Value} (h:Di a a') (hv:VRel ρ a v):VRel ρ a' v:=by
 cases h with
 | refl=>exact hv
 | undef=>exact .undef _
 | nils b sz off cap=>cases hv;exact .slan b sz off cap
 | sl b sz q len cap=>cases hv with | sl _ _ _ _ l c h hc dV=>exact .sla b sz q len cap l c h hc dV
 | nild g=>cases hv;exact .datn _
 | dptr cs cs' hl h=>cases hv with
  | dptr _ blk base val q1 q2=>exact .dptr cs' blk base val (fun j hj=>h _ j (by omega) hj _ (q1 j (by omega))) fun j hj=>q2 j (by omega)
 | dat n g g' hg=>
  cases hv with
  | datn=>exact .datn _
  | datz=>exact .datz _ _ _
  | dat _ _ blk base sz cap val eC hsz hv hh=>
   refine .dat n g' blk base sz cap val eC (fun i hi=>by grind) (fun i j hi hj=> ?_) hh
   grind
theorem Di.of_undef {a:B2} (h:Di .undef a):a=.undef :=by cases h <;> rfl
inductive DL :List B2->List B2->Prop
 | nil:DL [] []
 | cons {a b:B2} {l m:List B2} (h:Di a b) (t:DL l m):DL (a::l) (b::m)
theorem DL.refl : ∀l:List B2,DL l l
 | []=>.nil
 | a::l=>.cons (.refl a) (DL.refl l)
theorem DL.len {l m:List B2} (h:DL l m):l.length=m.length:=by
 induction h with
 | nil=>rfl
 | cons _ _ ih=>simp [ih]
theorem DL.get {l m:List B2} (h:DL l m): ∀(i:Nat) (h1:i<l.length) (h2:i<m.length),Di l[i] m[i]:=by
 induction h with
 | nil=>grind
 | cons h _ ih=>
  grind
inductive JR :Option CG->Option CG->Prop
 | refl (b:Option CG):JR b b
 | drop (b:Option CG):JR b none
 | rowed (cells:List B2) (ty:TypeId) (a:Option GS) (sz n:Nat) (g:Nat->List B2) (hc:cells=Ya n g) (h1:1<=sz) (hl: ∀i,i<n->(g i).length =sz):JR (some ⟨cells,ty,a⟩) (some ⟨Ya n g,ty,some ⟨sz,n,g⟩⟩)
 | rws (ty:TypeId) (sz n:Nat) (a a':D3) (h: ∀k,k<n->DL (a.get k) (a'.get k)):JR (some ⟨Ya n a.get,ty,some ⟨sz,n,a⟩⟩) (some ⟨Ya n a'.get,ty,some ⟨sz,n,a'⟩⟩)
theorem JR.sound {ρ:B6} {w:World} {a a':CG} {l:Ce} (h:JR (some a) (some a')) (hb:Jd ρ w a l):Jd ρ w a' l:=by
 cases h with
 | refl=>exact hb
 | rowed cells ty a sz n g hc h1 hl=>subst hc;refine ⟨hb.n,hb.tot,fun A hA=> ?_,hb.cells⟩;obtain rfl:=Ag hA;exact ⟨rfl,h1,hl⟩
 | rws ty sz n a a' h=>
  obtain ⟨_,h1,hl⟩:=hb.arr _ rfl;have h1:1<=sz:=h1;have hl: ∀k,k<n->(a.get k).length =sz:=hl;have hl': ∀k,k<n->(a'.get k).length =sz:=fun k hk=>by rw [<-(h k hk).len];exact hl k hk
  have k1:=Ye n hl;have k2:=Ye n hl';obtain ⟨cs,el,g1,g2,g3⟩:=hb.cells;refine ⟨by rw [hb.n];show (Ya n a.get).length =(Ya n a'.get).length;rw [k1,k2],hb.tot,fun A hA=> ?_,cs,el,g1,g2,fun i hi=> ?_⟩
  .obtain rfl:=Ag hA;exact ⟨rfl,h1,hl'⟩
  .have hi2:i<(Ya n a'.get).length :=hi;have hi':i<n*sz:=by rw [<-k2];exact hi
   have hj:i %sz<sz:=Bq _ h1;have hq:i / sz<n:=A9 (by rw [BC];exact hi');have e:i / sz*sz+i %sz=i:=by rw [BC];exact Bt i sz
   have hic:i<(Ya n a.get).length :=by rw [k1];exact hi'
   have r1:=Vf n hl (i / sz) (i %sz) hq hj;have r2:=Vf n hl' (i / sz) (i %sz) hq hj;rw [e] at r1 r2;have j1:i %sz<(a.get (i / sz)).length :=by rw [hl _ hq];exact hj
   have j2:i %sz<(a'.get (i / sz)).length :=by rw [hl' _ hq];exact hj
   obtain ⟨v,q1,q2⟩:=g3 i hic;have q2:VRel ρ ((Ya n a.get)[i]'hic) v:=q2;refine ⟨v,q1,?_⟩;show VRel ρ ((Ya n a'.get)[i]'hi2) v;rw [Au hic,Au j1] at r1;rw [Au hi2,Au j2] at r2;rw [Ag r1] at q2;rw [Ag r2];exact ((h _ hq).get _ j1 j2).sound q2
theorem y1z {g h:Nat->List B2}: ∀(n:Nat),(∀i,i<n->g i=h i)->Ya n g=Ya n h
 | 0,_=>rfl
 | n+1,e=>by rw [XF,XF,y1z n fun i hi=>e i (by omega),e n (by omega)]
def E4 (l:List Int):Nat->Int:=fun k=>l.getD k 0
def Cm (asz sz off len n:Nat) (get:Nat->List B2):B2:=bif Nat.beq asz sz&&Nat.ble (off+len) n then .dat len (fun k=>get (off+k)) else .undef
theorem w4l (sz n:Nat) (g:Nat->List B2):Cm sz sz 0 n n g=.dat n g:=by
 unfold Cm;rw [show (Nat.beq sz sz&&Nat.ble (0+n) n)=true by simp_all,Ab]
 grind
def Df (g:Nat->List B2):Bool:=pd (∀i,(g i).all (pf 6)=true)
theorem j0h {p:B2->Bool} {l:List B2} (h:l.all p=true) (n:Nat):(l.take n).all p=true:=
 by grind
theorem j0i {p:B2->Bool} {l:List B2} (h:l.all p=true) (n:Nat):(l.drop n).all p=true:=
 by grind
theorem u1l {g:Nat->List B2} {off len sz:Nat} {new:List B2} (h:Df g=true) (hn:new.all (pf 6)=true):Df (Zt g off len sz new)=true:=Xj fun i=>by
 unfold Zt;cases Nat.ble len i with
 | true=>grind
 | false=>exact Je h _
theorem u1i {g:Nat->List B2} {r fo:Nat} {cs:List B2} (h:Df g=true) (hn:cs.all (pf 6)=true):Df (Xa g r fo cs)=true:=Xj fun i=>by
 unfold Xa;cases Nat.beq i r with
 | true=>rw [Ab,List.all_append,List.all_append,j0h (Je h r),hn,j0i (Je h r)];rfl
 | false=>exact Je h _
theorem v0a {P:Program} {S:B4} (hS:Zv P S) {f:FuncId} {F:List B2->Option (B2×Bool)} (hf:(P.funcs[f]?).any (fun fn=>fn.body.isSome)=true)
  (hF: ∀args v,F args=some (v,true)-> ∃vs,(∀(ρ:B6) (u:Value),VRel ρ (Ut vs) u->VRel ρ v u)/\Uj P (Zy P f) (Zm P f args true []) vs/\ ∃d,pf d (Ut vs)=true):Zv P (S.with f F):=by
 intro g G hg;unfold B4.with at hg;cases hgf:Nat.beq g f with
 | false=>rw [hgf] at hg;exact hS g G hg
 | true=>
  rw [hgf] at hg;obtain rfl:Fy.val F=G:=Ag hg;obtain rfl:g=f:=Aj hgf;refine ⟨?_,fun args v hv H vals w dX hH=> ?_⟩
  .grind
  .obtain ⟨vs,hw,⟨C',g1,g2,g3⟩,d,hp⟩:=hF args v hv;exact (goes_call hf g1 g2 (by rw [y7e];exact g3) dX hH).mono fun e w' ⟨ρ,u,he,ho⟩=>⟨ρ.fz,u,ho.le,ho.old,ho.same,he,hw _ _ (Kv d _ u hp ho.val),ho.below⟩
theorem v3r :Df (fun _=>[])=true:=Xj fun _=>rfl
theorem w4p (s t:Nat):Df (fun k=>(([]:List B2).drop (k*s)).take t)=true:=Xj fun i=>by simp
theorem y9g {g:Nat->List B2} {o:Nat} (h:Df g=true):Df (fun k=>g (o+k))=true:=Xj fun i=>Je h (o+i)
theorem u1k {g h:Nat->List B2} {len:Nat} (p:Df g=true) (q:Df h=true):Df (Jw g len h)=true:=Xj fun i=>by
 unfold Jw;cases Nat.ble len i with
 | true=>exact Je q _
 | false=>exact Je p _
def G8 (sz n:Nat) (g:Nat->List B2):Bool:=pd (∀i,i<n->(g i).length =sz/\(g i).all DP=true)
open Go.Sort Go.RowKit
variable {P:Program} {ρ:B6}
theorem B7.rewritten {mem:CD} {next:Nat} {w w':World} (h:B7 ρ mem next w) {b:Nat} {l:Ce} {ab:CG} (hb:ρ b=some l) (hm:Yr mem b=some ab) {cs:List B2}
  (dV:cs.length=ab.cells.length) (eL: ∀k,k<w.heap.size->k≠l.blk->w'.heap[k]? =w.heap[k]?) (hsize:w.heap.size<=w'.heap.size)
  (hnew: ∃cur el,w'.heap[l.blk]? =some (.cells cur el (0,0))/\l.base+l.tot<=cur.size/\ ∀(i:Nat) (hi:i<cs.length),∃v,cur[l.base+i]? =some v/\VRel ρ cs[i] v):
  B7 ρ (Wb mem b (some ⟨cs,ab.ty,none⟩)) next w':=by
 have hbk:=h.blk b l ab hb hm;refine ⟨h.dom,fun c c' m m' e e' he hs hs'=> ?_,fun c m ac e hc=> ?_,fun k o e=> ?_,fun c m e hs=>h.sep c m e (by
  grind [Zu]),fun c m e=>A0 (h.real c m e) hsize,fun c hc=>by have:=h.dom b l hb;rw [Zu _ _ (by omega)];exact h.bd c hc,h.ldom⟩
 .refine h.inj c c' m m' e e' he ?_ ?_;all_goals grind [Zu]
 .by_cases hcb:c=b
  .subst hcb;rw [Ym] at hc;obtain rfl:=Ag hc;rw [hb] at e;obtain rfl:=Ag e;exact ⟨by rw [dV];exact hbk.n,hbk.tot,(fun A e=>by cases e),hnew⟩
  .rw [Zu _ _ hcb] at hc;refine (h.blk c m ac e hc).world (B6.le_refl _) (eL m.blk (h.real c m e) fun heq=>hcb ?_);exact h.inj c b m l e hb heq (by rw [hc];rfl) (by rw [hm];rfl)
 .have hk:=h.old k o e;rw [eL k ?_ ?_]
  .exact hk
  .grind
  .intro heq;have:=h.sep b l hb (by rw [hm];rfl)
   grind
def Yq (n:Nat) (c:Nat->Int):List Int:=(List.range n).map c
def Ix (srt:List Int->List Int) (args:List B2) (mem:CD):Option (B2×Nat×CG×Bool):=match args with
 | [.sla b sz off n cap]=>match Yr mem b with
  | some ⟨_,ty,some A⟩=>some (.tup [],b,⟨Ya A.n (Dx (E4 (srt (Yq n (CP A.get))))),ty,some ⟨1,A.n,Dx (E4 (srt (Yq n (CP A.get))))⟩⟩,
    Nat.beq sz 1&&(Nat.beq A.sz 1&&(Nat.beq off 0&&(decide (n=A.n)&&(EP A.get&&decide (n<4611686018427387904))))))
  | _=>none
 | _=>none
theorem X7 (n:Nat) (c:Nat->Int) (i:Nat) (h:i<n):(Ya n (Dx c))[i]? =some (.int .i64 (c i)):=by
 have:=Vf (get:=Dx c) (sz:=1) n (fun _ _=>rfl) i 0 h Nat.one_pos
 simpa [Dx] using this
theorem Kw (n:Nat) (c:Nat->Int):(Ya n (Dx c)).length =n:=by rw [Ye (sz:=1) n fun _ _=>rfl,Nat.mul_one]
theorem SF (w:World) (n blk off:Nat) (d:Array Int) (os:Array Obj) (k:Nat) (hk:k<w.heap.size):
  (grow (putRow (Value.int .i64) (Go.Sort.ahead w n) blk off d) os).heap[k]? =if k=blk then (w.heap[k]?).map (onCells (putCells (Value.int .i64) off d)) else w.heap[k]? :=by
 show (((Go.Sort.ahead w n).heap.modify blk (onCells (putCells (Value.int .i64) off d)))++os)[k]? =_;rw [Array.getElem?_append_left (by simp_all),Array.getElem?_modify];show (if blk=k then _ else _)=_;by_cases h:k=blk
 .simp_all
 .rw [Aw (fun e=>h e.symm),Aw h];rfl
theorem Ev.rewritten {mem:CD} {next floor:Nat} {w w':World} (h:B7 ρ mem next w) {b:Nat} (o:Option CG) (hb: ∀l,ρ b=some l->floor<=b) (hnone:ρ b=none-> ∀cs ty,Yr mem b≠some ⟨cs,ty,none⟩)
  (eL: ∀k,k<w.heap.size->(∀l,ρ b=some l->k≠l.blk)->w'.heap[k]? =w.heap[k]?) (hsize:w.heap.size<=w'.heap.size) (h1:w'.os=w.os) (h2:w'.tape=w.tape) (h3:w'.output=w.output):
  Ev ρ ρ floor mem next (Wb mem b o) next w w' where
 ext:=B6.le_refl _
 new _ _:=rfl
 nxt:=Aq _
 unborn k _ e cs ty hm:=by
  grind [Zu]
 frame k o hk hfr:=by
  grind
 fresh k m hk e:=by have:=h.dom k m e;omega
 size:=hsize
 os:=h1
 tape:=h2
 output:=h3
 still _ _:=rfl
theorem B7.unbornSet {mem:CD} {next:Nat} {w:World} (h:B7 ρ mem next w) {b:Nat} (hb:ρ b=none) (hlt:b<next) (o:Option CG):B7 ρ (Wb mem b o) next w:=by
 have ne: ∀c l,ρ c=some l->c≠b:=fun c l e he=>by grind
 refine ⟨h.dom,fun c c' m m' e e' he hs hs'=> ?_,fun c m ac e hc=> ?_,h.old,fun c m e hs=> ?_,h.real,fun c hc=> ?_,h.ldom⟩
 .rw [Zu _ _ (ne _ _ e)] at hs;rw [Zu _ _ (ne _ _ e')] at hs';exact h.inj c c' m m' e e' he hs hs'
 .rw [Zu _ _ (ne _ _ e)] at hc;exact h.blk c m ac e hc
 .rw [Zu _ _ (ne _ _ e)] at hs;exact h.sep c m e hs
 .rw [Zu _ _ (by omega)];exact h.bd c hc
theorem t4p {f:FuncId} {srt:List Int->List Int} (hsl: ∀zs,(srt zs).length =zs.length)
  (hC: ∀(blk off cap:Nat) (zs:List Int) (w:World),Holds (Value.int .i64) w blk off zs.toArray->blk<w.heap.size->zs.length<4611686018427387904->
   Calls P f #[.slice (some ⟨blk,off,none⟩) zs.length cap] w fun e w'=>e=.returned (.tuple #[])/\ ∃n os,w'=grow (putRow (Value.int .i64) (Go.Sort.ahead w n) blk off (srt zs).toArray) os)
  (hN: ∀(p:Option Addr) (cap:Nat) (w:World),Calls P f #[.slice p 0 cap] w fun e w'=>e=.returned (.tuple #[])/\w'=w):KJ P f (Ix srt):=by
 intro args mem v b blk h gA ρ next floor vals w hfl dX dU
 unfold Ix at h;split at h
 .rename_i b0 sz off n cap;split at h
  .rename_i cells ty A hm;obtain ⟨asz,an,get⟩:=A;simp only [Ad,Ac,Ae] at h;obtain ⟨rfl,rfl,rfl,h1,h2,h3,h4,h5,h6⟩:=h;have g1:=Aj h1;have g2:=Aj h2;have g3:=Aj h3;have g4:n=an:=Az h4;have h6:n<4611686018427387904:=Az h6;subst g1;subst g2;subst g3;subst g4;obtain ⟨c,hcg⟩:=w9a h5;have e0:CP (Dx c)=c:=rfl;simp only [hcg,e0];obtain ⟨u,hu,hvals⟩: ∃u,VRel ρ (.sla b0 1 0 n cap) u/\vals= #[u]:=by
    obtain ⟨vl⟩:=vals;cases dX with
    | cons h1 h2=>cases h2;grind
   subst hvals;have hlt:b0<next:=by
    rcases A7 b0 next with h | h
    .exact h
    .have:=dU.bd b0 h;grind
   generalize hL:srt (Yq n c)=L;have hLl:L.length=n:=by grind [Yq]
   have hnn:ρ b0=none-> ∀cs ty',Yr mem b0≠some ⟨cs,ty',none⟩:=fun _ cs ty' e=>by grind
   cases hu with
   | sla _ _ _ _ _ l cc e hc dV=>
    have hbk:=dU.blk b0 l _ e hm;obtain ⟨har,_,_⟩:=hbk.arr _ rfl;simp only [hcg] at har;subst har;obtain ⟨cur,el,hh,hsz,dZ⟩:=hbk.cells;simp only [Kw] at dZ;have fD: ∀i,i<n->cur[l.base+i]? =some (.int .i64 (c i)):=fun i hi=>by obtain ⟨v,e1,e2⟩:=dZ i hi;rw [show (Ya n (Dx c))[i]'(by grind)=.int .i64 (c i) from Ag (by rw [<-Au,X7 n c i hi])] at e2;cases e2;exact e1
    have fI:=dU.real b0 l e;have hzs:(Yq n c).length =n:=(by grind);have hH:Holds (Value.int .i64) w l.blk (l.base+0*1) (Yq n c).toArray :=fun j hj=>by
     grind [World.cell?,Yq,World.frozen?]
    have eI:=hC l.blk (l.base+0*1) cc (Yq n c) w hH fI (by omega);rw [hzs,hL] at eI;refine eI.mono fun e' w' ⟨he,q,os,hw'⟩=>⟨_,he,?_,?_,?_⟩
    .exact .tup [] #[] rfl fun i h1 h2=>absurd h1 (AL _)
    .subst hw';refine B7.setArr ?_ ⟨1,n,Dx (E4 L)⟩ rfl (Aq 1) fun _ _=>rfl;refine B7.rewritten dU e hm (by simp only [Kw]) (fun k hk hne=> ?_) ?_ ?_
     .grind [SF]
     .simp_all
     .refine ⟨putCells (Value.int .i64) (l.base+0*1) L.toArray cur,el,?_,?_,fun i hi=> ?_⟩
      .rw [SF _ _ _ _ _ _ _ fI,AG rfl,hh];rfl
      .grind [putCells]
      .rw [Kw] at hi;refine ⟨.int .i64 (E4 L i),?_,?_⟩
       .grind [putCells,E4]
       .rw [show (Ya n (Dx (E4 L)))[i]'(by grind)=.int .i64 (E4 L i) from Ag (by rw [<-Au,X7 n _ i hi])];exact .int _ _
    .subst hw';refine Ev.rewritten dU _ (fun l' _=>hfl) hnn (fun k hk hne=> ?_) ?_ rfl rfl rfl
     .grind [SF]
     simp_all
   | slan=>
    refine (hN none 0 w).mono fun e' w' ⟨he,hw'⟩=>⟨_,he,?_,?_,?_⟩
    .exact .tup [] #[] rfl fun i h1 h2=>absurd h1 (AL _)
    .subst hw';refine B7.setArr ?_ ⟨1,0,Dx (E4 L)⟩ rfl (Aq 1) fun _ _=>rfl;cases e:ρ b0 with
     | none=>exact B7.unbornSet dU e hlt _
     | some l=>have hbk:=dU.blk b0 l _ e hm;obtain ⟨har,_,_⟩:=hbk.arr _ rfl;simp only [hcg] at har;subst har;obtain ⟨cur,el,hh,hsz,dZ⟩:=hbk.cells;exact B7.rewritten dU e hm rfl (fun _ _ _=>rfl) (Aq _) ⟨cur,el,hh,hsz,fun i hi=>absurd hi (AL _)⟩
    grind [Ev.rewritten]
  .cases h
 .cases h
def JB (srt:List Int->List Int) (res:List Int->Nat) (args:List B2) (mem:CD):Option (B2×Nat×CG×Bool):=match args with
 | [.sla b sz off n cap]=>match Yr mem b with
  | some ⟨_,ty,some A⟩=>some (.sla b 1 0 (res (Yq n (CP A.get))) cap,b,⟨Ya A.n (Dx (E4 (srt (Yq n (CP A.get))))),ty,some ⟨1,A.n,Dx (E4 (srt (Yq n (CP A.get))))⟩⟩,
    Nat.beq sz 1&&(Nat.beq A.sz 1&&(Nat.beq off 0&&(decide (n=A.n)&&(EP A.get&&decide (n<4611686018427387904))))))
  | _=>none
 | _=>none
theorem t4q {f:FuncId} {srt:List Int->List Int} {res:List Int->Nat} (hsl: ∀zs,(srt zs).length =zs.length) (fX: ∀zs,res zs<=zs.length)
  (hC: ∀(blk off cap:Nat) (zs:List Int) (w:World),Holds (Value.int .i64) w blk off zs.toArray->blk<w.heap.size->zs.length<4611686018427387904->zs.length<=cap->
   Calls P f #[.slice (some ⟨blk,off,none⟩) zs.length cap] w fun e w'=>e=.returned (.slice (some ⟨blk,off,none⟩) (res zs) cap)/\ ∃n os,w'=grow (putRow (Value.int .i64) (Go.Sort.ahead w n) blk off (srt zs).toArray) os)
  (hN: ∀(p:Option Addr) (cap:Nat) (w:World),Calls P f #[.slice p 0 cap] w fun e w'=>e=.returned (.slice p 0 cap)/\w'=w):KJ P f (JB srt res):=by
 intro args mem v b blk h gA ρ next floor vals w hfl dX dU
 unfold JB at h;split at h
 .rename_i b0 sz off n cap;split at h
  .rename_i cells ty A hm;obtain ⟨asz,an,get⟩:=A;simp only [Ad,Ac,Ae] at h;obtain ⟨rfl,rfl,rfl,h1,h2,h3,h4,h5,h6⟩:=h;have g1:=Aj h1;have g2:=Aj h2;have g3:=Aj h3;have g4:n=an:=Az h4;have h6:n<4611686018427387904:=Az h6;subst g1;subst g2;subst g3;subst g4;obtain ⟨c,hcg⟩:=w9a h5;have e0:CP (Dx c)=c:=rfl;simp only [hcg,e0];obtain ⟨u,hu,hvals⟩: ∃u,VRel ρ (.sla b0 1 0 n cap) u/\vals= #[u]:=by
    obtain ⟨vl⟩:=vals;cases dX with
    | cons h1 h2=>cases h2;grind
   subst hvals;have hlt:b0<next:=by
    rcases A7 b0 next with h | h
    .exact h
    .have:=dU.bd b0 h;grind
   generalize hL:srt (Yq n c)=L;have hLl:L.length=n:=by grind [Yq]
   have hnn:ρ b0=none-> ∀cs ty',Yr mem b0≠some ⟨cs,ty',none⟩:=fun _ cs ty' e=>by grind
   cases hu with
   | sla _ _ _ _ _ l cc e hc dV=>
    have hbk:=dU.blk b0 l _ e hm;obtain ⟨har,_,_⟩:=hbk.arr _ rfl;simp only [hcg] at har;subst har;obtain ⟨cur,el,hh,hsz,dZ⟩:=hbk.cells;simp only [Kw] at dZ;have fD: ∀i,i<n->cur[l.base+i]? =some (.int .i64 (c i)):=fun i hi=>by obtain ⟨v,e1,e2⟩:=dZ i hi;rw [show (Ya n (Dx c))[i]'(by grind)=.int .i64 (c i) from Ag (by rw [<-Au,X7 n c i hi])] at e2;cases e2;exact e1
    have fI:=dU.real b0 l e;have hzs:(Yq n c).length =n:=(by grind);have hH:Holds (Value.int .i64) w l.blk (l.base+0*1) (Yq n c).toArray :=fun j hj=>by
     grind [World.cell?,Yq,World.frozen?]
    have eI:=hC l.blk (l.base+0*1) cc (Yq n c) w hH fI (by omega) (by omega);rw [hzs,hL] at eI;refine eI.mono fun e' w' ⟨he,q,os,hw'⟩=>⟨_,he,?_,?_,?_⟩
    .exact .sla _ _ _ _ _ l cc e hc (AF (fX _) (by omega))
    .subst hw';refine B7.setArr ?_ ⟨1,n,Dx (E4 L)⟩ rfl (Aq 1) fun _ _=>rfl;refine B7.rewritten dU e hm (by simp only [Kw]) (fun k hk hne=> ?_) ?_ ?_
     .grind [SF]
     .simp_all
     .refine ⟨putCells (Value.int .i64) (l.base+0*1) L.toArray cur,el,?_,?_,fun i hi=> ?_⟩
      .rw [SF _ _ _ _ _ _ _ fI,AG rfl,hh];rfl
      .grind [putCells]
      .rw [Kw] at hi;refine ⟨.int .i64 (E4 L i),?_,?_⟩
       .grind [putCells,E4]
       .rw [show (Ya n (Dx (E4 L)))[i]'(by grind)=.int .i64 (E4 L i) from Ag (by rw [<-Au,X7 n _ i hi])];exact .int _ _
    .subst hw';refine Ev.rewritten dU _ (fun l' _=>hfl) hnn (fun k hk hne=> ?_) ?_ rfl rfl rfl
     .grind [SF]
     simp_all
   | slan=>
    refine (hN none 0 w).mono fun e' w' ⟨he,hw'⟩=>⟨_,he,?_,?_,?_⟩
    .rw [show res (Yq 0 c)=0 from Nat.le_zero.1 (fX _)];exact .slan _ _ _ _
    .subst hw';refine B7.setArr ?_ ⟨1,0,Dx (E4 L)⟩ rfl (Aq 1) fun _ _=>rfl;cases e:ρ b0 with
     | none=>exact B7.unbornSet dU e hlt _
     | some l=>have hbk:=dU.blk b0 l _ e hm;obtain ⟨har,_,_⟩:=hbk.arr _ rfl;simp only [hcg] at har;subst har;obtain ⟨cur,el,hh,hsz,dZ⟩:=hbk.cells;exact B7.rewritten dU e hm rfl (fun _ _ _=>rfl) (Aq _) ⟨cur,el,hh,hsz,fun i hi=>absurd hi (AL _)⟩
    grind [Ev.rewritten]
  .cases h
 .cases h
def q4 (f:Nat->Nat->Int):Nat->List B2:=fun k=>[.int .i64 (f k 0),.int .i64 (f k 1),.int .i64 (f k 2),.int .i64 (f k 3)]
theorem x7t (a:Nat):(Nat.beq a a == true)=true:=by simp_all
inductive VP where
 | keep
 | drop
  | grow (b sz:Nat)
  | list (n:Nat) (g:Nat->List B2)
  | len (n:Nat)
  | frz (n n':Nat) (a g:Nat->List B2)
def Ki (n:Nat) (a g:Nat->List B2):Bool:=pd (∀i,i<n->a i=g i)
def v8c (cells:List B2) (sz n:Nat) (g:Nat->List B2):Bool:=pd (cells=Ya n g/\1<=sz/\ ∀i,i<n->(g i).length =sz)
def VT (n:Nat) (a g:Nat->List B2):Bool:=pd (∀i,i<n->DL (a i) (g i))
def Hg (a b:Nat):Bool:=pd (a=b)
theorem Uu {a b:Nat} (h:a=b):Hg a b=true:=Xj h
def VG (v:B2) (n:Nat) (a:Nat->List B2):Bool:=pd (v=.dat n a)
theorem u8y (sz n:Nat) (g:Nat->List B2):VG (Cm sz sz 0 n n g) n g=true:=Xj (w4l sz n g)
theorem u1d (n:Nat) (g:Nat->List B2):VG (.dat n g) n g=true:=Xj rfl
def KM :VP->B2->Bool->B2×Bool
 | .keep,v,ob=>(v,ob)
 | .drop,_,ob=>(.undef,ob)
 | .grow b sz,v,ob=>match v with
  | .nils =>(.sla b sz 0 0 (.un sz),ob)
  | .sl b o len cap=>(.sla b sz 0 len cap,Nat.beq o 0&&ob)
  | v=>(v,ob)
 | .list n' g,v,ob=>match v with
  | .nils =>(.dat 0 g,ob)
  | .dat n a=>(.dat n' g,Hg n n'&&(Ki n a g&&ob))
  | v=>(v,ob)
 | .len n',v,ob=>match v with
  | .sla b sz off n cap=>(.sla b sz off n' cap,Hg n n'&&ob)
  | v=>(v,ob)
 | .frz n n' a g,v,ob=>(.dat n' g,VG v n a&&(Hg n n'&&(Ki n a g&&ob)))
theorem w8u {p:VP} {v:B2} {ob:Bool} (h:(KM p v ob).2=true):Di v (KM p v ob).1/\ob=true:=by
 cases p with
 | keep=>exact ⟨.refl _,h⟩
 | drop=>exact ⟨.undef _,h⟩
 | grow b sz=>
  cases v with
  | nils=>exact ⟨.nils _ _ _ _,h⟩
  | sl b' o len cap=>simp only [KM,Ae] at h;have e:=Aj h.1;subst e;have:=Di.sl b' sz 0 len cap;rw [Nat.zero_mul] at this;exact ⟨this,h.2⟩
  | _=>exact ⟨.refl _,h⟩
 | list n' g=>
  cases v with
  | nils=>exact ⟨.nild _,h⟩
  | dat n a=>simp only [KM,Ae] at h;obtain rfl:=Je h.1;exact ⟨.dat _ _ _ (Je h.2.1),h.2.2⟩
  | _=>exact ⟨.refl _,h⟩
 | len n'=>
  cases v with
  | sla b sz off n cap=>simp only [KM,Ae] at h;obtain rfl:=Je h.1;exact ⟨.refl _,h.2⟩
  | _=>exact ⟨.refl _,h⟩
 | frz n n' a g=>simp only [KM,Ae] at h;obtain rfl:=Je h.1;obtain rfl:=Je h.2.1;exact ⟨.dat _ _ _ (Je h.2.2.1),h.2.2.2⟩
def UV :List VP->List B2->Bool->List B2×Bool
 | _,[],ob=>([],ob)
 | [],l,ob=>(l,ob)
 | p::ps,v::l,ob=>match UV ps l ob with
  | (l',ob)=>match KM p v ob with
   | (v',ob)=>(v'::l',ob)
theorem y8u : ∀{ps:List VP} {l:List B2} {ob:Bool},(UV ps l ob).2=true->DL l (UV ps l ob).1/\ob=true
 | [],[],_,h=>⟨.nil,h⟩
 | _::_,[],_,h=>⟨.nil,h⟩
 | [],a::l,_,h=>⟨DL.refl _,h⟩
 | p::ps,v::l,ob,h=>by simp only [UV] at h ⊢;obtain ⟨h1,h2⟩:=w8u h;obtain ⟨h3,h4⟩:=y8u h2;exact ⟨.cons h1 h3,h4⟩
inductive BP where
 | keep
 | drop
 | cells (ps:List VP)
 | rowed (sz n:Nat) (g:Nat->List B2)
 | rws (a:D3)
def HM :BP->Option CG->Bool->Option CG×Bool
 | .keep,o,ob=>(o,ob)
 | .drop,_,ob=>(none,ob)
 | .cells ps,o,ob=>match o with
  | some ⟨cells,ty,none⟩=>match UV ps cells ob with
   | (cs,ob)=>(some ⟨cs,ty,none⟩,ob)
  | o=>(o,ob)
 | .rowed sz n g,o,ob=>match o with
  | some ⟨cells,ty,none⟩=>(some ⟨Ya n g,ty,some ⟨sz,n,.flat g⟩⟩,v8c cells sz n g&&ob)
  | some ⟨_,ty,some ⟨sz',n',a⟩⟩=>(some ⟨Ya n g,ty,some ⟨sz',n,.flat g⟩⟩,Hg n' n&&(Ki n' a.get g&&ob))
  | o=>(o,ob)
 | .rws a',o,ob=>match o with
  | some ⟨_,ty,some ⟨sz,n,a⟩⟩=>(some ⟨Ya n a'.get,ty,some ⟨sz,n,a'⟩⟩,VT n a.get a'.get&&ob)
  | o=>(o,ob)
theorem DL.sound {ρ:B6} {l m:List B2} (h:DL l m) (i:Nat) (h1:i<l.length) (h2:i<m.length) {v:Value} (hv:VRel ρ l[i] v):VRel ρ m[i] v:=(h.get i h1 h2).sound hv
theorem w3m {p:BP} {o:Option CG} {ob:Bool} {x':CG} (h:(HM p o ob).2=true) (hx:(HM p o ob).1=some x'):ob=true/\ ∃x,o=some x/\ ∀(ρ:B6) (w:World) (l:Ce),Jd ρ w x l->Jd ρ w x' l:=by
 cases p with
 | keep=>exact ⟨h,x',hx,fun _ _ _ q=>q⟩
 | drop=>cases hx
 | cells ps=>
  rcases o with _ | ⟨cells,ty,_ | A⟩
  .cases hx
  .simp only [HM] at h hx;obtain ⟨h1,h2⟩:=y8u h;obtain rfl:=Ag hx;refine ⟨h2,_,rfl,fun ρ w l hb=> ?_⟩;obtain ⟨cs,el,g1,g2,g3⟩:=hb.cells;refine ⟨by rw [hb.n];exact h1.len,hb.tot,(fun A hA=>by cases hA),cs,el,g1,g2,fun i hi=> ?_⟩;have hi0:i<cells.length:=by rw [h1.len];exact hi
   obtain ⟨v,q1,q2⟩:=g3 i hi0;exact ⟨v,q1,h1.sound i hi0 hi q2⟩
  .exact ⟨h,_,rfl,fun ρ w l hb=>by obtain rfl:=Ag hx;exact hb⟩
 | rowed sz n g=>
  rcases o with _ | ⟨cells,ty,_ | ⟨sz',n',a⟩⟩
  .cases hx
  .simp only [HM,Ae] at h hx;obtain rfl:=Ag hx;obtain ⟨h1,h2,h3⟩:=Je h.1;exact ⟨h.2,_,rfl,fun ρ w l hb=>(JR.rowed cells ty none sz n g h1 h2 h3).sound hb⟩
  .simp only [HM,Ae] at h hx;obtain rfl:=Ag hx;obtain rfl:=Je h.1;have h1:=Je h.2.1;refine ⟨h.2.2,_,rfl,fun ρ w l hb=> ?_⟩;obtain ⟨q1,q2,q3⟩:=hb.arr _ rfl;exact (JR.rowed cells ty _ sz' n' g (q1.trans (y1z _ h1)) q2 fun i hi=>by rw [<-h1 i hi];exact q3 i hi).sound hb
 | rws a'=>
  rcases o with _ | ⟨cells,ty,_ | ⟨sz',n',a⟩⟩
  .cases hx
  .exact ⟨h,_,rfl,fun ρ w l hb=>by obtain rfl:=Ag hx;exact hb⟩
  .simp only [HM,Ae] at h hx;obtain rfl:=Ag hx;refine ⟨h.2,_,rfl,fun ρ w l hb=> ?_⟩;obtain ⟨q1,_,_⟩:=hb.arr _ rfl;have q1:cells=Ya n' a.get:=q1;subst q1;exact (JR.rws ty sz' n' a a' (Je h.1)).sound hb
def TK :List (Nat×VP)->T B2->Bool->T B2×Bool
 | [],env,ob=>(env,ob)
 | (t,p)::l,env,ob=>match TK l env ob with
  | (e,ob)=>match KM p (T.get .undef e t) ob with
   | (v,ob)=>(T.set .undef e t v,ob)
def HB (e e':T B2):Prop:= ∀t,(∀(ρ:B6) (v:Value),VRel ρ (T.get .undef e t) v->VRel ρ (T.get .undef e' t) v)/\(T.get .undef e t=.undef ->T.get .undef e' t=.undef)
theorem HB.refl (e:T B2):HB e e:=fun _=>⟨fun _ _ h=>h,fun h=>h⟩
theorem x5f : ∀{l:List (Nat×VP)} {env:T B2} {ob:Bool},(TK l env ob).2=true->HB env (TK l env ob).1/\ob=true
 | [],_,_,h=>⟨HB.refl _,h⟩
 | (t,p)::l,env,ob,h=>by
  simp only [TK] at h ⊢;obtain ⟨h1,h2⟩:=w8u h;obtain ⟨h3,h4⟩:=x5f h2;refine ⟨fun s=> ?_,h4⟩;rw [T.get_set];by_cases e:s=t
  .subst e;rw [AG rfl];exact ⟨fun ρ v hv=>h1.sound ((h3 s).1 ρ v hv),fun hu=>by have e:=(h3 s).2 hu;rw [e] at h1 ⊢;exact h1.of_undef⟩
  .rw [Aw e];exact h3 s
def OF :List BP->Nat->CD->Bool->CD×Bool
 | [],_,m,ob=>(m,ob)
 | p::ps,i,m,ob=>match OF ps (i+1) m ob with
  | (m',ob)=>match HM p (Yr m i) ob with
   | (x,ob)=>(Wb m' i x,ob)
theorem u8m {p:BP} {o:Option CG} {ob:Bool} (h:(HM p o ob).2=true):ob=true:=by
 cases p with
 | keep=>exact h
 | drop=>exact h
 | cells ps=>
  rcases o with _ | ⟨cells,ty,_ | A⟩
  .exact h
  .exact (y8u h).2
  .exact h
 | rowed sz n g=>
  rcases o with _ | ⟨cells,ty,_ | A⟩;all_goals simp_all [HM]
 | rws a=>
  rcases o with _ | ⟨cells,ty,_ | A⟩;all_goals simp_all [HM]
theorem x2r : ∀{ps:List BP} {i:Nat} {m:CD} {ob:Bool},(OF ps i m ob).2=true->ob=true/\ ∀b x',Yr (OF ps i m ob).1 b=some x'-> ∃x,Yr m b=some x/\ ∀(ρ:B6) (w:World) (l:Ce),Jd ρ w x l->Jd ρ w x' l
 | [],_,_,_,h=>⟨h,fun b x' hb=>⟨x',hb,fun _ _ _ q=>q⟩⟩
 | p::ps,i,m,ob,h=>by
  simp only [OF] at h ⊢;have hob:(OF ps (i+1) m ob).2=true:=u8m h;obtain ⟨h1,h2⟩:=x2r hob;refine ⟨h1,fun b x' hb=> ?_⟩;rw [Uk] at hb;by_cases e:b=i
  .subst e;rw [AG rfl] at hb;exact (w3m h hb).2
  .rw [Aw e] at hb;exact h2 b x' hb
def TL :List (List (Nat×VP))->List CV->Bool->List CV×Bool
 | _,[],ob=>([],ob)
 | [],l,ob=>(l,ob)
 | p::ps,⟨cx,ro,todo,rnd,rs,env⟩::l,ob=>match TL ps l ob with
  | (l',ob)=>match TK p env ob with
   | (e,ob)=>(⟨cx,ro,todo,rnd,rs,e⟩::l',ob)
def Rv (a a':CV):Prop:=a.cx=a'.cx/\a.ro=a'.ro/\a.todo=a'.todo/\a.rnd=a'.rnd/\a.rs=a'.rs/\HB a.env a'.env
theorem Rv.refl (a:CV):Rv a a:=⟨rfl,rfl,rfl,rfl,rfl,HB.refl _⟩
theorem Vi.refl' : ∀l:List CV,Vi Rv l l
 | []=>.nil
 | a::l=>.cons (Rv.refl a) (Vi.refl' l)
theorem w8v : ∀{ps:List (List (Nat×VP))} {l:List CV} {ob:Bool},(TL ps l ob).2=true->Vi Rv l (TL ps l ob).1/\ob=true
 | [],[],_,h=>⟨.nil,h⟩
 | _::_,[],_,h=>⟨.nil,h⟩
 | [],a::l,_,h=>⟨Vi.refl' _,h⟩
 | p::ps,⟨cx,ro,todo,rnd,rs,env⟩::l,ob,h=>by simp only [TL] at h ⊢;obtain ⟨h1,h2⟩:=x5f h;obtain ⟨h3,h4⟩:=w8v h2;exact ⟨.cons ⟨rfl,rfl,rfl,rfl,rfl,h1⟩ h3,h4⟩
structure HA where
 slots:List (Nat×VP):=[]
 blks:List BP:=[]
 cs:List (List (Nat×VP)):=[]
def TJ (L:HA):CB->CB
 | ⟨cx,ro,todo,rnd,rs,⟨env,mem,next,orc,ob⟩,cs,lps⟩=>match TL L.cs cs ob with
  | (cs',ob)=>match OF L.blks 0 mem ob with
   | (mem',ob)=>match TK L.slots env ob with
    | (env',ob)=>⟨cx,ro,todo,rnd,rs,⟨env',mem',next,orc,ob⟩,cs',lps⟩
def US :List (TypeId×Nat×(Nat->List B2))->Nat->CD->CD
 | [],_,m=>m
 | (ty,sz,g)::l,i,m=>Wb (US l (i+1) m) i (some ⟨[],ty,some ⟨sz,0,.flat g⟩⟩)
def w9d (gs:List (TypeId×Nat×(Nat->List B2))):CB->CB
 | ⟨cx,ro,todo,rnd,rs,⟨env,mem,next,orc,ob⟩,cs,lps⟩=>⟨cx,ro,todo,rnd,rs,⟨env,US gs next mem,next+gs.length,orc,ob⟩,cs,lps⟩
theorem y2q : ∀(gs:List (TypeId×Nat×(Nat->List B2))) (i:Nat) (m:CD) (b:Nat),(b<i->Yr (US gs i m) b=Yr m b)/\(i+gs.length<=b->Yr (US gs i m) b=Yr m b)
 | [],i,m,b=>⟨fun _=>rfl,fun _=>rfl⟩
 | (ty,sz,g)::l,i,m,b=>by obtain ⟨h1,h2⟩:=y2q l (i+1) m b;simp only [US,Uk,Bn];exact ⟨fun h=>by rw [Aw (by omega)];exact h1 (by omega),fun h=>by rw [Aw (by omega)];exact h2 (by omega)⟩
theorem GK.less {P:Program} {ρ:B6} {cs:List CV} {css:List Frame} {mss:List Nat} (h:GK P ρ cs css mss): ∀{cs':List CV},Vi Rv cs cs'->GK P ρ cs' css mss:=by
 induction h with
 | nil=>intro cs' h;cases h;exact .nil
 | @cons af b a k ms cs css mss hf hl t ih=>
  intro cs' h;cases h with
  | @cons _ af' _ cs'' h1 h2=>
   obtain ⟨e1,e2,e3,e4,e5,e6⟩:=h1;have hne:cs''≠ []->cs≠ []:=fun hn he=>by subst he;cases h2;exact hn rfl
   rw [show Vd af.ro k=Vd af'.ro k by rw [e2]];exact .cons ⟨by rw [<-e1];exact ⟨hf.env.size,fun t=>(e6 t).1 _ _ (hf.env.get t),fun t ht=>(e6 t).2 (hf.env.out t ht)⟩,hf.defers,by rw [<-e3];exact hf.todo,by rw [<-e2];exact hf.ro,by rw [<-e4];exact hf.rnd⟩
    (fun hn=>by grind) (ih h2)
theorem y2p {P:Program} {cx:CL} {ro:Option CX} {todo:List Item} {rnd:Option Nat} {rs:List ResultVar} {env env':T B2} {mem mem':CD} {k k':Nat} {o o':List Bool} {b0 b0':Bool} {cs cs':List CV} {lps:CM}
  (hE:HB env env') (hC:Vi Rv cs cs') (hM: ∀b x',b<k->Yr mem' b=some x'-> ∃x,Yr mem b=some x/\ ∀(ρ:B6) (w:World) (l:Ce),Jd ρ w x l->Jd ρ w x' l) (hk:k<=k') (hbd:(∀b,k<=b->Yr mem b=none)-> ∀b,k'<=b->Yr mem' b=none):
  DY P ⟨cx,ro,todo,rnd,rs,⟨env,mem,k,o,b0⟩,cs,lps⟩ ⟨cx,ro,todo,rnd,rs,⟨env',mem',k',o',b0'⟩,cs',lps⟩:=
 fun H w0 ρ b a t css w ma mb hs he cs0=>by
  have hr:=hs.rel;simp only at hr he;have hne:cs'≠ []->cs≠ []:=fun hn e=>by subst e;cases hC;exact hn rfl
  refine ⟨ρ,b,a,t,css,w,ma,mb,Steps.refl _ _,⟨⟨?_,hs.top.defers,hs.top.todo,hs.top.ro,hs.top.rnd⟩,fun hn=>hs.lv (hne hn),⟨hs.rest.cs.less hC,hs.rest.nodup,hs.rest.marks,hs.rest.loops,hs.rest.inj⟩,?_⟩,?_,rfl,Aq _⟩
  .exact ⟨hs.top.env.size,fun t=>(hE t).1 _ _ (hs.top.env.get t),fun t ht=>(hE t).2 (hs.top.env.out t ht)⟩
  .have lift: ∀c l,ρ c=some l->(Yr mem' c).isSome =true->(Yr mem c).isSome =true:=fun c l hc h=>by obtain ⟨x,hx⟩:=Option.isSome_iff_exists.1 h;obtain ⟨y,hy,_⟩:=hM c x (hr.dom c l hc) hx;rw [hy];rfl
   refine ⟨fun c l hc=>A0 (hr.dom c l hc) hk,fun c c' l l' hc hc' hl h1 h2=>hr.inj c c' l l' hc hc' hl (lift c l hc h1) (lift c' l' hc' h2),fun c l ab hc h1=> ?_,hr.old,fun c l hc h1=>hr.sep c l hc (lift c l hc h1),hr.real,hbd hr.bd,fun j l hj=>A0 (hr.ldom j l hj) hk⟩;obtain ⟨y,hy,h2⟩:=hM c ab (hr.dom c l hc) h1;exact h2 _ _ _ (hr.blk c l y hc hy)
  .exact ⟨he.ext,fun _ hb=>absurd hb (AL _),AA _,fun _ hb=>absurd hb (AL _),he.frame,he.fresh,he.size,he.os,he.tape,he.output,he.still⟩
theorem v3b {P:Program} {L:HA} {C:CB} (ho:(TJ L C).st.ob =true):C.st.ob=true/\DY P C (TJ L C):=by
 obtain ⟨cx,ro,todo,rnd,rs,⟨env,mem,next,orc,ob⟩,cs,lps⟩:=C;simp only [TJ] at ho ⊢;obtain ⟨h1,h2⟩:=x5f ho;obtain ⟨h3,h4⟩:=x2r h2;obtain ⟨h5,h6⟩:=w8v h3;refine ⟨h6,y2p h1 h5 (fun b x' _ hb=>h4 b x' hb) (Aq _) fun hbd b hb=> ?_⟩;cases hq:Yr (OF L.blks 0 mem (TL L.cs cs ob).2).1 b with
 | none=>rfl
 | some x'=>
  grind
theorem w4i {P:Program} (gs:List (TypeId×Nat×(Nat->List B2))) (C:CB):DY P C (w9d gs C)/\(w9d gs C).st.ob =C.st.ob:=by
 obtain ⟨cx,ro,todo,rnd,rs,⟨env,mem,next,orc,ob⟩,cs,lps⟩:=C;exact ⟨y2p (HB.refl _) (Vi.refl' _) (fun b x' hb h=>⟨x',by grind [y2q],fun _ _ _ q=>q⟩) (Nat.le_add_right _ _) fun hbd b hb=>by
  rw [(y2q gs next mem b).2 hb];grind,rfl⟩
theorem v3m {P:Program} {C C':CB} {orc:List Bool} {ob:Bool} (g:DY P (C.withO orc) (C'.withB ob)):DY P C C':=by obtain ⟨cx,ro,todo,rnd,rs,⟨env,mem,next,o,b⟩,cs,lps⟩:=C;obtain ⟨cx',ro',todo',rnd',rs',⟨env',mem',next',o',b'⟩,cs',lps'⟩:=C';exact fun H w0 ρ b a k css w ma mb hs he cs0=>by obtain ⟨ρ',b',a',k',css',w',ma',mb',h1,h2,h3,h4⟩:=g H w0 ρ b a k css w ma mb ⟨hs.top,hs.lv,hs.rest,hs.rel⟩ he cs0;exact ⟨ρ',b',a',k',css',w',ma',mb',h1,⟨h2.top,h2.lv,h2.rest,h2.rel⟩,h3,h4⟩
theorem u4g {P:Program} {S:B4} (hN:Ex P) (hmx:P.follows .mixedOrders =true) (hS:Zv P S) {n m d:Nat} {C C':CB} (gs:List (TypeId×Nat×(Nat->List B2))) (N:DA) (L:HA) (orc:List Bool) (ob:Bool)
  (h:(((u8q P S (Pi P S m d) n (C.withO orc)).map (w9d gs)).bind (u7s P N)).map (TJ L)=some (C'.withB ob)) (ho:ob=true) (hfl:WG C=true):DY P C C':=by
 rw [An] at h;obtain ⟨C2,h1,h2⟩:=h;rw [Option.bind_eq_some_iff] at h1;obtain ⟨C1,h3,h4⟩:=h1;rw [An] at h3;obtain ⟨C0,h5,rfl⟩:=h3;have hfo:WG (C.withO orc)=true:=by obtain ⟨cx,ro,todo,rnd,rs,⟨env,mem,next,o,b⟩,cs,lps⟩:=C;exact hfl
 obtain ⟨hCI,hC⟩:=v7u hN hmx hS m d;obtain ⟨f1,f2,f3⟩:=x8d hN hmx hS hCI hC n (C.withO orc) C0 (u9c hfo) h5;have hob:(TJ L C2).st.ob =true:=by rw [h2];obtain ⟨cx,ro,todo,rnd,rs,⟨env,mem,next,o,b⟩,cs,lps⟩:=C';exact ho
 obtain ⟨l1,l2⟩:=v3b (P:=P) hob;obtain ⟨g1,g2,_⟩:=v2s h4 l1;obtain ⟨q1,q2⟩:=w4i (P:=P) gs C0;rw [q2] at g1;have:=(((f3 g1).goes.trans q1).trans g2).trans l2;rw [h2] at this;exact v3m this
theorem ZD (n:Nat) (g:Nat->List B2):Ki n g g=true:=Xj fun _ _=>rfl
theorem v7m (a g:Nat->List B2):Ki 0 a g=true:=Xj fun _ h=>absurd h (AL _)
theorem j0e {a b:Nat} (h: ¬a<=b):Nat.ble a b=false:=A3.2 fun e=>h (Ak e)
theorem j0d {a b:Nat} (h:a<=b):Nat.ble a b=true:=by simp_all
theorem v7q {n N sz:Nat} {G H H':Nat->List B2} {cells:List B2} (m:Nat) (h:Ki n G H=true) (hN:N=n+m) (h0: ∀i,i<n->H' i=H i) (h1: ∀i,i<m->(cells.drop (i*sz)).take sz=H' (n+i)):Ki N (Zt G 0 n sz cells) H'=true:=Xj fun i hi=>by
 unfold Zt;by_cases e:n<=i
 .grind [j0d]
 .rw [j0e e,Aa,Af,Je h i (by omega),h0 i (by omega)]
theorem y2v {α:Type} {sz:Nat}: ∀(l:List (List α)) (i:Nat),(∀x∈l,x.length=sz)->i<l.length->(l.flatten.drop (i*sz)).take sz=l.getD i []
 | [],i,_,h=>absurd h (AL _)
 | x::l,0,hl,_=>by
  grind
 | x::l,i+1,hl,h=>by have hx:=hl x (by simp);rw [List.flatten_cons,List.getD_cons_succ,<-y2v l i (fun y hy=>hl y (by simp [hy])) (by simpa using h)];rw [List.drop_append,hx,show (i+1)*sz - sz=i*sz by rw [AU,BV];omega,As (by rw [hx,AU,BV];omega),Bc]
theorem v7p {m N:Nat} {G H H':Nat->List B2} (h':Ki m H H'=true) (hN:N=0+m):Ki N (Jw G 0 H) H'=true:=Xj fun i hi=>Je h' i (by omega)
theorem w1e {n:Nat} {G H:Nat->List B2} (h:Ki n G H=true):Ki n (fun k=>G (0+k)) H=true:=by grind
theorem u6d {cells:List B2} {sz n:Nat} {g:Nat->List B2} (h:cells=Ya n g) (h1:Nat.ble 1 sz=true) (h2: ∀i,(g i).length =sz):v8c cells sz n g=true:=Xj ⟨h,Ak h1,fun i _=>h2 i⟩
def Ch :List (Nat×CG)->CD
 | []=>.leaf
 | (i,b)::l=>Wb (Ch l) i (some b)
def DH :List (Nat×DX)->CM
 | []=>.leaf
 | (i,b)::l=>GO (DH l) i (some b)
class Xc (α:Type) where
 w:Nat
 d:α
 cells:α->List B2
 of:List B2->α
 len: ∀a,(cells a).length =w
 pos:1<=w
 flat: ∀a,(cells a).all (pf 6)=true
 sc: ∀a,(cells a).all DP=true
 back: ∀a,of (cells a)=a
def DC :B2->Int
 | .int _ n=>n
 | _=>0
def oOf :B2->Bool
 | .bool b=>b
 | _=>false
instance : Xc Int where
 w:=1
 d:=0
 cells x:=[.int .i64 x]
 of l:=DC (l.getD 0 .undef)
 len _:=rfl
 pos:=Aq 1
 flat _:=rfl
 sc _:=rfl
 back _:=rfl
instance : Xc Bool where
 w:=1
 d:=false
 cells x:=[.bool x]
 of l:=oOf (l.getD 0 .undef)
 len _:=rfl
 pos:=Aq 1
 flat _:=rfl
 sc _:=rfl
 back _:=rfl
structure R2 where
 (a b:Int)
 deriving DecidableEq
structure R3 where
 (a b c:Int)
 deriving DecidableEq
structure R4 where
 (a b c d:Int)
 deriving DecidableEq
structure R6 where
 (a b c d e f:Int)
 deriving DecidableEq
instance : Xc R2 where
 w:=2
 d:=⟨0,0⟩
 cells x:=[.int .i64 x.a,.int .i64 x.b]
 of l:=⟨DC (l.getD 0 .undef),DC (l.getD 1 .undef)⟩
 len _:=rfl
 pos:=by decide
 flat _:=rfl
 sc _:=rfl
 back _:=rfl
instance : Xc R3 where
 w:=3
 d:=⟨0,0,0⟩
 cells x:=[.int .i64 x.a,.int .i64 x.b,.int .i64 x.c]
 of l:=⟨DC (l.getD 0 .undef),DC (l.getD 1 .undef),DC (l.getD 2 .undef)⟩
 len _:=rfl
 pos:=by decide
 flat _:=rfl
 sc _:=rfl
 back _:=rfl
instance : Xc R4 where
 w:=4
 d:=⟨0,0,0,0⟩
 cells x:=[.int .i64 x.a,.int .i64 x.b,.int .i64 x.c,.int .i64 x.d]
 of l:=⟨DC (l.getD 0 .undef),DC (l.getD 1 .undef),DC (l.getD 2 .undef),DC (l.getD 3 .undef)⟩
 len _:=rfl
 pos:=by decide
 flat _:=rfl
 sc _:=rfl
 back _:=rfl
instance : Xc R6 where
 w:=6
 d:=⟨0,0,0,0,0,0⟩
 cells x:=[.int .i64 x.a,.int .i64 x.b,.int .i64 x.c,.int .i64 x.d,.int .i64 x.e,.int .i64 x.f]
 of l:=⟨DC (l.getD 0 .undef),DC (l.getD 1 .undef),DC (l.getD 2 .undef),DC (l.getD 3 .undef),DC (l.getD 4 .undef),DC (l.getD 5 .undef)⟩
 len _:=rfl
 pos:=by decide
 flat _:=rfl
 sc _:=rfl
 back _:=rfl
section
variable {α:Type} [Xc α]
def rd (L:List α) (k:Nat):α:=L.getD k Xc.d
def Zz (L:List α):Nat->List B2:=fun k=>Xc.cells (rd L k)
def Cn (α:Type) [Xc α] (n:Nat) (g:Nat->List B2):List α:=(List.range n).map fun k=>Xc.of (g k)
def CO (α:Type) [Xc α] (n:Nat) (g:Nat->List B2):Bool:=pd (∀i,i<n->g i=Xc.cells (Xc.of (g i):α))
theorem Yo {L:List α} {k:Nat} (h:k<L.length):rd L k=L[k]:=by grind [rd]
theorem x0j {L M:List α} {k:Nat} (h:k<L.length):rd (L++M) k=rd L k:=by grind [rd]
theorem y7z {L M:List α} {k:Nat} (h:L.length<=k):rd (L++M) k=rd M (k - L.length):=by grind [rd]
theorem Zq (L:List α):Cn α L.length (Zz L)=L:=by apply BJ;all_goals grind [Cn,Zz,Xc.back,Yo]
def B3 (L:List α):List α:=Cn α L.length (Zz L)
theorem Zd (L:List α):B3 L=L:=Zq L
theorem x2q (n:Nat) (g:Nat->List B2):(Cn α n g).length =n:=by simp [Cn]
theorem u8k (L:List α) {off n:Nat} (h:off+n<=L.length):Cn α n (fun k=>Zz L (off+k))=(L.drop off).take n:=by apply BJ;all_goals grind [Cn,Zz,Xc.back,Yo]
theorem YQ (L:List α) (n:Nat):CO α n (Zz L)=true:=Xj fun i _=>by simp only [Zz];rw [Xc.back]
theorem x8e (L:List α) (off n:Nat):CO α n (fun k=>Zz L (off+k))=true:=Xj fun i _=>by simp only [Zz];rw [Xc.back]
theorem w8y (g:Nat->List B2):CO α 0 g=true:=Xj fun i h=>absurd h (AL _)
theorem u8s (g:Nat->List B2) (h0:g 0=Xc.cells (Xc.of (g 0):α)):CO α 1 g=true:=Xj fun i h=>by
 grind
theorem u8r (g:Nat->List B2) (h0:g 0=Xc.cells (Xc.of (g 0):α)) (h1:g 1=Xc.cells (Xc.of (g 1):α)):CO α 2 g=true:=Xj fun i h=>by
 grind
theorem w8z {n:Nat} {g:Nat->List B2} (h:CO α n g=true): ∀i,i<n->g i=Zz (Cn α n g) i:=fun i hi=>by
 rw [Je h i hi]
 grind [Zz,Yo,Cn]
theorem Xn (L:List α):Df (Zz L)=true:=Xj fun _=>Xc.flat _
theorem v4e {sz:Nat} (L:List α) (n:Nat) (h:sz=Xc.w α):G8 sz n (Zz L)=true:=Xj fun _ _=>⟨by rw [h];exact Xc.len _,Xc.sc _⟩
theorem v4f {sz:Nat} (L:List α) (off n:Nat) (h:sz=Xc.w α):G8 sz n (fun k=>Zz L (off+k))=true:=Xj fun _ _=>⟨by rw [h];exact Xc.len _,Xc.sc _⟩
theorem w5h {sz N off m:Nat} {G:Nat->List B2} (h:G8 sz N G=true) (hb:decide (off+m<=N)=true):G8 sz m (fun k=>G (off+k))=true:=Xj fun i hi=>by have hb:=Az hb;exact Je h (off+i) (by omega)
theorem u2h {sz n N m:Nat} {G:Nat->List B2} {cells:List B2} (h:G8 sz n G=true) (hN:N=n+m) (hc:cells.length=m*sz) (hs:cells.all DP=true):G8 sz N (Zt G 0 n sz cells)=true:=Xj fun i hi=>by
 unfold Zt;by_cases e:n<=i
 .rw [j0d e,Ab];have:(i - n)*sz+sz<=m*sz:=by
   have:=AC sz (show i - n+1<=m by omega)
   grind
  grind
 .rw [j0e e,Aa,Af];exact Je h i (by omega)
theorem w7i {L M:List α} {n N sz:Nat} {G:Nat->List B2} {cells:List B2} (h:Ki n G (Zz L)=true) (hn:n=L.length) (hN:N=n+M.length) (hsz:sz=Xc.w α) (hc:cells=(M.map Xc.cells).flatten):Ki N (Zt G 0 n sz cells) (Zz (L++M))=true:=by grind [v7q,Zz,y2v,Xc.len,Yo]
theorem w7x {L:List α} {r k:Nat} {y:α} (hk:k<L.length):rd (L.set r y) k=if k=r then y else rd L k:=by grind [Yo]
theorem x4f {L:List α} {n r fo:Nat} {G:Nat->List B2} {cs:List B2} {y:α} (h:Ki n G (Zz L)=true) (hn:n=L.length) (hy:Xc.cells y=(Xc.cells (rd L r)).take fo++cs++(Xc.cells (rd L r)).drop (fo+cs.length)):Ki n (Xa G r fo cs) (Zz (L.set r y))=true:=by
 subst hn;refine Xj fun i hi=> ?_;unfold Xa;simp only [Zz];rw [w7x hi];cases e:Nat.beq i r with
 | true=>have:=Aj e;subst this;rw [Ab,AG rfl,Je h i hi,hy];rfl
 | false=>
  have:i≠r:=fun q=>by simp_all
  rw [Aa,Aw this,Je h i hi];rfl
theorem u5s {n:Nat} {cs:List B2} {y:α} {G:Nat->List B2} (hG:G=fun _=>cs) (hy:Xc.cells y=cs):Ki n G (Zz (List.replicate n y))=true:=Xj fun i hi=>by
 grind [Zz,Yo]
theorem v7o {L M:List α} {n m N:Nat} {G H:Nat->List B2} (h:Ki n G (Zz L)=true) (hn:n=L.length) (h':Ki m H (Zz M)=true) (hN:N=n+m):Ki N (Jw G n H) (Zz (L++M))=true:=by
 subst hn;refine Xj fun i hi=> ?_;unfold Jw;by_cases e:L.length<=i
 .rw [j0d e,Ab,Je h' _ (by omega)];grind [Zz,y7z]
 .rw [j0e e,Aa,Je h i (by omega)];grind [Zz,x0j]
def Gu (n:Nat) (g:Nat->List B2) (sz:Nat):Bool:=pd (∀i,i<n->(g i).length =sz)
theorem u0o {sz:Nat} (L:List α) (n:Nat) (h:sz=Xc.w α):Gu n (Zz L) sz=true:=Xj fun _ _=>by rw [h];exact Xc.len _
theorem v3d {sz n:Nat} {L:List α} {off:Nat} (h:sz=Xc.w α):Gu n (fun k=>Zz L (off+k)) sz=true:=Xj fun _ _=>by rw [h];exact Xc.len _
def Wy (L:List α) (off n:Nat):List α:=(List.range n).map fun k=>rd L (off+k)
theorem Ts (L:List α) (off n:Nat):(Wy L off n).length =n:=by simp [Wy]
theorem x4t {L:List α} {off n k:Nat} (h:k<n):rd (Wy L off n) k=rd L (off+k):=by grind [Yo,Wy]
theorem u7p {L:List α} {off n:Nat} (h:off+n<=L.length):Wy L off n=(L.drop off).take n:=by apply BJ;all_goals grind [Wy,Yo]
theorem v1l {L:List α} {N off n:Nat} {G:Nat->List B2} (h:Ki N G (Zz L)=true) (hb:decide (off+n<=N)=true):Ki n (fun k=>G (off+k)) (Zz (Wy L off n))=true:=Xj fun i hi=>by have hb:=Az hb;simp only [Zz];rw [x4t hi,Je h _ (by omega)];rfl
theorem v1k {L:List α} {off n:Nat}:Ki n (fun k=>Zz L (off+k)) (Zz (Wy L off n))=true:=Xj fun i hi=>by simp only [Zz];rw [x4t hi]
theorem Jy (L:List α):Cn α L.length (fun k=>Zz L (0+k))=L:=by grind [Zq]
theorem u0n (L:List α) (off n:Nat):Cn α n (fun k=>Zz L (off+k))=Wy L off n:=by grind [Cn,Wy,Zz,Xc.back]
theorem u8t (L:List Int):EP (Zz L)=true:=Xj rfl
theorem Jo (L:List Int):Yq L.length (CP (Zz L))=L:=Zq L
def Gj (L:List α) (off n:Nat) (M:List α):List α:=(List.range L.length).map fun k=>bif Nat.ble off k&&Nat.ble (k+1) (off+n) then rd M (k - off) else rd L k
theorem XU (L:List α) (off n:Nat) (M:List α):(Gj L off n M).length =L.length:=by simp [Gj]
theorem v8u {L M:List α} {off n k:Nat} (h:k<L.length):rd (Gj L off n M) k=bif Nat.ble off k&&Nat.ble (k+1) (off+n) then rd M (k - off) else rd L k:=by grind [Yo,Gj]
theorem u5u {L M:List α} {N off n m:Nat} {G H:Nat->List B2} (h:Ki N G (Zz L)=true) (hN:N=L.length) (h':Ki m H (Zz M)=true) (hm:n<=m):Ki N (Uq G off n H) (Zz (Gj L off n M))=true:=by
 subst hN;refine Xj fun i hi=> ?_;unfold Uq;simp only [Zz];rw [v8u hi];cases e:(Nat.ble off i&&Nat.ble (i+1) (off+n)) with
 | true=>simp only [Ae] at e;have e1:=Ak e.1;have e2:=Ak e.2;rw [Ab,Ab,Je h' _ (by omega)];rfl
 | false=>rw [Aa,Aa,Je h i hi];rfl
theorem v7n (z g:Nat->List B2) (n:Nat):Ki n (Uq z 0 (Nat.min n n) g) g=true:=Xj fun i hi=>by unfold Uq;rw [show Nat.min n n=n from Nat.min_self n,Af,AZ (AA i),AZ hi];rfl
theorem u1j {g h:Nat->List B2} {off n:Nat} (p:Df g=true) (q:Df h=true):Df (Uq g off n h)=true:=Xj fun i=>by
 unfold Uq;cases (Nat.ble off i&&Nat.ble (i+1) (off+n)) with
 | true=>exact Je q _
 | false=>exact Je p _
end
theorem Xh {P:Program} {rs:List ResultVar} {σ:Type} {cfg:σ->CB} {C C':CB} (g:DY P C C'): ∀{o:Xz σ},Xw P rs cfg C' o->Xw P rs cfg C o
 | .stuck,_=>trivial
 | .ret _,⟨D,h,h2,h3⟩=>⟨D,g.trans h,h2,h3⟩
 | .to _,h=>g.trans h
theorem w9l : ∀{az bs:List B2} (i:Nat) {t u:T B2},Vi Di az bs->HB t u->HB (Fb az i t) (Fb bs i u)
 | _,_,i,t,u,.nil,h=>h
 | _,_,i,t,u,.cons (a:=a) (b:=b) h1 h2,h=>by
  refine w9l (i+1) h2 fun s=> ?_;rw [T.get_set,T.get_set];by_cases e:s=i
  .rw [AG e,AG e];exact ⟨fun ρ v hv=>h1.sound hv,fun q=>by subst q;exact h1.of_undef⟩
  .rw [Aw e,Aw e];exact h s
theorem x8n {P:Program} {f:FuncId} {az bs:List B2} {vs:List B2} (h:Vi Di az bs) (k:Uj P (Zy P f) (Zm P f bs true []) vs):Uj P (Zy P f) (Zm P f az true []) vs:=by
 obtain ⟨C',g,h2,h3⟩:=k;refine ⟨C',DY.trans ?_ g,h2,h3⟩;unfold Zm;cases P.funcs[f]? with
 | none=>exact DY.refl _
 | some fn=>simp only;rw [h.length];exact y2p (w9l 0 h (HB.refl _)) .nil (fun b x' hb=>absurd hb (AL _)) (Aq _) fun hbd b hb=>hbd b hb
theorem w9z {P:Program} {S:B4} (hS:Zv P S) {f:FuncId} {F:List B2->Option (B2×Bool)} (hf:(P.funcs[f]?).any (fun fn=>fn.body.isSome)=true)
  (hF: ∀args v,F args=some (v,true)-> ∃bs vs,Vi Di args bs/\Ut vs=v/\Uj P (Zy P f) (Zm P f bs true []) vs/\ ∃d,pf d v=true):Zv P (S.with f F):=
 v5m hS hf fun args v h=>by obtain ⟨bs,vs,h1,h2,h3,d,h4⟩:=hF args v h;exact ⟨vs,h2,x8n h1 h3,d,h4⟩
def CS (α:Type) [Xc α]:B2->Option (List α×(Nat->List B2)×Nat)
 | .nils =>some ([],fun _=>[],0)
 | .dat n g=>some (Cn α n g,g,n)
 | _=>none
theorem Yn {α:Type} [Xc α] {v:B2} {L:List α} {g:Nat->List B2} {n:Nat} (h:CS α v=some (L,g,n)) (ho:CO α n g=true):Di v (.dat L.length (Zz L)):=by
 unfold CS at h;split at h
 .simp only [Ad,Ac] at h;obtain ⟨rfl,_,_⟩:=h;exact .nild _
 .simp only [Ad,Ac] at h;obtain ⟨rfl,rfl,rfl⟩:=h;rw [x2q];exact .dat _ _ _ (w8z ho)
 .cases h
open Go.ChangeShapes Go.WideShapes Go.Deep
section
variable {P:Program}
def x5h (P:Program) (rec:TypeId->Option (List IntKind)):List Field->Nat->Option (List IntKind)
 | [],_=>some []
 | f::r,o=>bif Nat.beq f.offset o then match rec f.type with
   | some ks=>bif Nat.beq (P.cellsOf f.type) ks.length then (x5h P rec r (o+ks.length)).map (ks++ ·) else none
   | none=>none
  else none
def Ng (P:Program):Nat->TypeId->Option (List IntKind)
 | 0,_=>none
 | d+1,t=>match P.underlying t with
  | some (.int k)=>some [k]
  | some (.struct fs)=>match x5h P (Ng P d) fs.toList 0 with
   | some ks=>bif Nat.beq (P.cellsOf t) ks.length then some ks else none
   | none=>none
  | _=>none
def Il (ks:List IntKind) (cs:List Value):Prop:= ∃ns:List Int,ns.length=ks.length/\cs=List.zipWith Value.int ks ns/\ ∀p∈List.zip ks ns,p.1.has p.2
theorem Il.append {a b:List IntKind} {x y:List Value} (h:Il a x) (k:Il b y):Il (a++b) (x++y):=by obtain ⟨ns,h1,rfl,h3⟩:=h;obtain ⟨ms,k1,rfl,k3⟩:=k;refine ⟨ns++ms,by simp [h1,k1],?_,fun p hp=> ?_⟩;all_goals grind
theorem Il.length {ks:List IntKind} {cs:List Value} (h:Il ks cs):cs.length=ks.length:=by obtain ⟨ns,h1,rfl,_⟩:=h;simp [h1]
variable {HH:Type} {enc:TypeId×Value->HH} {w:World} {base:Nat} {spare:Nat->Bool} {held:Bool}
theorem y3r {rec:TypeId->Option (List IntKind)} (hr: ∀t ks,rec t=some ks-> ∀fuel cs x,DataW.trod enc P w base spare held fuel t cs=some x->Il ks cs) (cs:List Value):
  ∀(l:List Field) (o:Nat) (ks:List IntKind),x5h P rec l o=some ks->o+ks.length<=cs.length->(∀f∈l,∃fuel x,DataW.trod enc P w base spare held fuel f.type ((cs.drop f.offset).take (P.cellsOf f.type))=some x)->Il ks ((cs.drop o).take ks.length)
 | [],o,ks,h,_,_=>by obtain rfl:=Ag h;exact ⟨[],rfl,by simp,by simp⟩
 | f::r,o,ks,h,hl,hf=>by
  unfold x5h at h;obtain ⟨ho,h⟩:=Yw h;obtain rfl:=Aj ho;split at h
  .rename_i ks1 h1;obtain ⟨hc,h⟩:=Yw h;have hc:=Aj hc;simp only [An] at h;obtain ⟨ks2,h2,rfl⟩:=h;obtain ⟨fuel,x,hx⟩:=hf f (by simp);have i1:=hr _ _ h1 _ _ _ hx;rw [hc] at i1;rw [AP] at hl;have i2:=y3r hr cs r _ ks2 h2 (by omega) fun g hg=>hf g (by simp [hg]);have:(cs.drop f.offset).take (ks1++ks2).length =(cs.drop f.offset).take ks1.length++(cs.drop (f.offset+ks1.length)).take ks2.length:=by rw [AP,List.take_add,List.drop_drop]
   rw [this];exact i1.append i2
  .cases h
theorem XW : ∀(d:Nat) (t:TypeId) (ks:List IntKind),Ng P d t=some ks-> ∀(fuel:Nat) (cs:List Value) (x:DataW HH×List MemPlace),DataW.trod enc P w base spare held fuel t cs=some x->Il ks cs
 | 0,_,_,h=>by cases h
 | d +1,t,ks,h=>by
  intro fuel cs x hx;unfold Ng at h;split at h
  .rename_i k hk;obtain rfl:=Ag h;obtain ⟨m,rfl,_,hw⟩:=DataW.trod_int hk hx;refine ⟨[m],rfl,rfl,fun p hp=> ?_⟩;simp_all [Lit.wf,IntKind.has]
  .rename_i fs hs;split at h
   .rename_i ks1 h1;obtain ⟨hc,h⟩:=Yw h;obtain rfl:=Ag h;have hc:=Aj hc;obtain ⟨xs,n,_,_,hl,dV,hf⟩:=DataW.trod_struct hs hx;have hl:cs.length=ks1.length:=hl.trans hc;have:=y3r (fun t ks ht fuel cs x hx=>XW d t ks ht fuel cs x hx) cs fs.toList 0 ks1 h1 (by omega) fun f hf'=>by
     obtain ⟨j,hj,rfl⟩:=AJ hf';have hj2:j<fs.size:=(by grind);have:=hf j fs[j] (by simp [hj2])
     grind
    grind
   .cases h
  .cases h
def Hi (ks:List IntKind) (c:Nat->Int):List B2:=List.zipWith B2.int ks ((List.range ks.length).map c)
theorem v8d (ks:List IntKind) (c:Nat->Int) (j:Nat) (h:j<(Hi ks c).length): ∃hk:j<ks.length,(Hi ks c)[j]=.int ks[j] (c j):=by grind [Hi]
theorem u9w {e:TypeId} {ks:List IntKind} (hk:Ng P 30 e=some ks) {blk off len cap m fl:Nat} {D:Nat->DataW HH} {Pl:Nat->List MemPlace} (hl:len<=cap) (hlm:len<=m)
  (hi: ∀i,i<m-> ∃cs',w.cells? base ((⟨blk,off,none⟩:Addr).add (i*P.cellsOf e)) (P.cellsOf e)=some cs'/\DataW.trod enc P w base spare held fl e cs'=some (D i,Pl i)):
  ∃c:Nat->Nat->Int,VRel (rhoOf fun k=>w.heap[k]?) (.dat len (fun i=>Hi ks (c i))) (.slice (some ⟨blk,off,none⟩) len cap)/\ ∀i,i<len-> ∀(j:Nat) (k:IntKind),ks[j]? =some k->k.has (c i j):=by
 have key: ∀i,i<len-> ∃ns:List Int,ns.length=ks.length/\(∀j,j<ks.length-> ∃k,ks[j]? =some k/\w.cell? ⟨blk,off+(i*ks.length+j),none⟩=some (.int k (ns.getD j 0))/\k.has (ns.getD j 0)):=by
  intro i hil;obtain ⟨cs',hc',ht'⟩:=hi i (by omega);have I:=XW 30 e ks hk _ _ _ ht';obtain ⟨_,dV,fD⟩:=World.cells?_some hc';have hce:P.cellsOf e=ks.length:=by rw [<-dV];exact I.length
  obtain ⟨ns,n1,n2,n3⟩:=I;refine ⟨ns,n1,fun j hj=> ?_⟩;have hj2:j<ns.length:=by omega
  refine ⟨ks[j],by simp [hj],?_,?_⟩
  .grind [Xo]
  .have:(ks[j],ns[j])∈List.zip ks ns:=by
    rw [BM]
    grind
   grind
 let c:Nat->Nat->Int:=fun i j=>if hil:i<len then ((key i hil).choose).getD j 0 else 0
 have hcs: ∀i,i<len-> ∀j,j<ks.length-> ∃k,ks[j]? =some k/\w.cell? ⟨blk,off+(i*ks.length+j),none⟩=some (.int k (c i j))/\k.has (c i j):=by
  grind
 refine ⟨c,.dat len _ blk off ks.length cap (fun i j=>.int (ks.getD j .i64) (c i j)) hl (fun i _=>by simp [Hi]) (fun i j hil hj=> ?_) (fun i j hil hj=> ?_),fun i hil j k hkj=> ?_⟩
 .obtain ⟨hk2,e2⟩:=v8d ks (c i) j hj;rw [e2];have:ks.getD j .i64 =ks[j]:=by simp [hk2]
  rw [this];exact .int _ _
 .obtain ⟨k,e1,e2,_⟩:=hcs i hil j hj;have:ks.getD j .i64 =k:=by simp [e1]
  rw [this];unfold World.cell? at e2;split at e2
  .rename_i cl el fz hb2;simp only [Option.isSome_none,Bool.false_eq_true,if_false] at e2;exact ⟨cl,el,fz,hb2,e2⟩
  .cases e2
 grind
end
open Go.Proofs.Tryz
open Go.Proofs
def P0 (P:Program):Bool:=P.funcs.toList.all fun fn=>fn.body.isNone|| !(fn.name == "runtime.NumGoroutine")
theorem u7w {P:Program} (h:P0 P=true):Ex P:=by
 intro f fn hf hb;have hm:fn∈P.funcs.toList:=by rw [Array.mem_toList_iff];exact Array.mem_of_getElem? hf
 have:=At.mp h fn hm;cases hbb:fn.body with
 | none=>rw [hbb] at hb;cases hb
 | some b=>simpa [hbb] using this
theorem VY :Ex prog:=u7w (by kernel_rfl)
theorem mixed :prog.follows .mixedOrders =true:=by kernel_rfl
end Go.Am
namespace Go.Am
open IntKind (wrap)
open Go.Proofs.Tryz
open Go.Proofs
instance {α :Type} [Xc α]:Xc (List α) where
 w:=1
 d:=[]
 cells l:=[.dat l.length (Zz l)]
 of cs:=match cs.getD 0 .undef with
  | .dat n g=>Cn α n g
  | _=>[]
 len _:=rfl
 pos:=Aq 1
 flat _:=rfl
 sc _:=rfl
 back l:=Zq l
theorem w1f {α:Type} [Xc α] {L:List α} {n off sz:Nat} {cells:List B2} (hn:n=L.length) (hsz:sz=Xc.w α) (hc:(cells.drop off).take (n*sz)=(L.map Xc.cells).flatten):Ki n (Xt cells off sz) (Zz L)=true:=Xj fun i hi=>by
 have e:((((cells.drop off).take (n*sz)).drop (i*sz)).take sz)=(cells.drop (off+i*sz)).take sz:=by rw [List.drop_take,List.take_take,List.drop_drop,Nat.min_eq_left];have:=AC sz (show i+1<=n by omega);rw [AU,BV] at this;omega
 have h:=y2v (sz:=sz) (L.map Xc.cells) i (fun x hx=>by obtain ⟨y,_,rfl⟩:=AO.1 hx;rw [Xc.len,hsz]) (by simpa using by omega);unfold Xt;rw [<-e,hc,h];simp only [Zz];rw [Yo (show i<L.length by omega),List.getD_eq_getElem?_getD,List.getElem?_map,Au (show i<L.length by omega)];rfl
theorem u5t {G H:Nat->List B2} (h:G 0=H 0):Ki 1 G H=true:=Xj fun i hi=>by
 obtain rfl:i=0:=by omega
 exact h
theorem v3q {L:List B2} (s t:Nat) (h:L.all (pf 6)=true):Df (fun k=>(L.drop (k*s)).take t)=true:=Xj fun i=>
 At.2 fun v hv=>At.1 h v (List.mem_of_mem_drop (List.mem_of_mem_take hv))
structure OB where
 b:Bool
 h:b=true
def nn :OB:=⟨true,rfl⟩
def pp (q r:OB):OB:=⟨q.b&&r.b,Nh q.h r.h⟩
def tt {c v:Bool} (k:c=v) (r:OB):OB:=⟨(c == v)&&r.b,Nh (v9l k) r.h⟩
def ww {c:Bool} (k:c=true) (r:OB):OB:=⟨c&&r.b,Nh k r.h⟩
def fl {α:Type} [Xc α] (L:List α) (r:OB):OB:=⟨Df (Zz L)&&r.b,Nh (Xn L) r.h⟩
theorem TI {a b:Int} (k:(a == b)=false):((a != b) == true)=true:=by unfold bne;rw [k];rfl
def yt {c:Bool} (k:c=true) (r:OB):OB:=⟨c&&r.b,Nh k r.h⟩
def xw {c:Bool} (k:c=true):OB:=⟨c,k⟩
def xI (α:Type) [Xc α] (n:Nat) (g:Nat->List B2) (h:CO α n g=true:=by first | with_reducible exact YQ _ _ | exact YQ _ _ | exact w8y _ | exact x8e _ _ _ | assumption | exact u8s _ rfl | exact u8r _ rfl rfl):OB:=⟨CO α n g,h⟩
def xr {α:Type} [Xc α] (L:List α):OB:=⟨CO α L.length (Zz L),YQ L _⟩
def xL (a b:Nat) (h:Hg a b=true:=by first | exact Uu rfl | exact Uu (by simp only [AP,Bn,List.length_nil,BF,XU,Ts,List.length_replicate] <;> omega) | assumption):OB:=⟨Hg a b,h⟩
def xS (n:Nat) (G H:Nat->List B2) (h:Ki n G H=true:=by
  repeat' (first | exact ZD _ _ | assumption | exact v7m _ _ | exact u5t rfl | exact v1k | exact w1f rfl rfl rfl | rfl | (refine w7i ?_ ?_ rfl rfl rfl) | (refine x4f ?_ ?_ rfl) | exact v7n _ _ _ | (refine u5u ?_ ?_ ?_ (Nat.min_le_left _ _)) | exact v1l (by repeat' (first | exact ZD _ _ | (refine w7i ?_ ?_ rfl rfl rfl) | (refine x4f ?_ ?_ rfl) | (simp only [AP,Bn,List.length_nil,BF,XU];done) | omega)) (by assumption) | (refine v7o ?_ ?_ ?_ rfl) | exact v7p (ZD _ _) rfl | apply w1e | exact u5s rfl rfl | exact Af _ | (simp only [AP,Bn,List.length_nil,BF,XU,Ts,List.length_replicate] <;> omega))):OB:=⟨Ki n G H,h⟩
def xF (G:Nat->List B2) (h:Df G=true:=by
  repeat' (first | with_reducible exact Xn _ | apply u1l | apply u1i | apply u1k | apply u1j | exact Xn _ | exact v3r | exact w4p _ _ | exact v3q _ _ rfl | apply y9g | rfl | assumption)):OB:=⟨Df G,h⟩
def xZ (v:B2) (n:Nat) (g:Nat->List B2) (h:VG v n g=true:=by first | exact u8y _ _ _ | exact u1d _ _):OB:=⟨VG v n g,h⟩
def xG (c:Bool) (h:c=true:=by
  repeat' (first | with_reducible (first | assumption | exact Nat.beq_refl _ | exact x7t _ | exact u7v _ | exact v9q _ | exact u9q _ | exact v9t _ | apply Nh | apply v9l) | rfl | exact u8t _ | exact v4e _ _ rfl | exact v4f _ _ _ rfl | exact u0o _ _ rfl | exact v3d rfl | exact u6d rfl rfl (fun _=>rfl) | (refine w5h ?_ (by assumption)) | (refine u2h ?_ rfl rfl rfl) | exact YQ _ _ | exact w8y _ | exact x8e _ _ _ | exact Xn _ | apply y9g | apply Nh | apply v9l)):OB:=⟨c,h⟩
def Cl (n:Nat) (l:List BP):List BP:=Nat.rec l (fun _ r=>.keep ::r) n
abbrev tn (n:Int):Nat:=Int.toNat n
abbrev ii (n:Int):B2:=.int .i64 n
abbrev wr (n:Int):Int:=wrap .i64 n
def CA (n:Nat) (l:List Bool):List Bool:=Nat.rec l (fun _ r=>true::r) n
abbrev a6:HA:=⟨[],[],[]⟩
abbrev a8 (l:List Nat):DA:=⟨[],[],[some l],[]⟩
theorem sl {S:B4} (hS:Zv prog S) (n:Nat) (gs:List (TypeId×Nat×(Nat->List B2))) (N:DA) (L:HA) (orc:List Bool) (ob:OB) {C C':CB}
  (h:(((u8q prog S (Pi prog S 100000 4) n (C.withO orc)).map (w9d gs)).bind (u7s prog N)).map (TJ L)=some (C'.withB ob.b):=by kernel_rfl) (hfl:WG C=true:=by rfl):DY prog C C':=
 u4g VY mixed hS gs N L orc ob.b h ob.h hfl
def rC (n f:Nat) (p:List Nat) (j r:Nat) (env:List (Nat×B2)):CB:=⟨⟨n,0,true⟩,none,Zg prog f p j,none,Zy prog r,⟨Yj env,Vk [] 0,0,[],true⟩,[],.leaf⟩
theorem lr {σ:Type} {cfg:σ->CB} {C:CB} {rs:List ResultVar} {vs:List B2} (n f:Nat) (p:List Nat) (j r:Nat) (env:List (Nat×B2)) (h:DY prog C (rC n f p j r env)) (hf:HD (rC n f p j r env)=true:=by rfl)
  (hr:Qb prog (rC n f p j r env).st rs=some vs:=by kernel_rfl):Xw prog rs cfg C (.ret vs):=Un _ h hf hr
theorem lb {rs:List ResultVar} {σ:Type} {cfg:σ->CB} {C:CB} {c:Bool} {a b:Xz σ} (ha:c=true->Xw prog rs cfg C a) (hb:c=false->Xw prog rs cfg C b):Xw prog rs cfg C (bif c then a else b):=w8w ha hb
theorem lo {rs:List ResultVar} {σ:Type} {cfg:σ->CB} {C:CB} {c:Bool} {a:Xz σ} (ha:c=true->Xw prog rs cfg C a):Xw prog rs cfg C (bif c then a else .stuck):=u8n ha
inductive EJ where
 | h0 (v3:List Int) (v4:Int)
 | h1 (v3:List Int) (v4:Int) (v5:Int)
abbrev Kd (v3:List Int) (v5:Int) (l0:List Int) (v4:Int):=((Gj (v3++[0]) (0+(tn (wr (v5+1)))) (Nat.min ((v3.length+1) - (tn v5)) ((v3.length+1) - (tn (wr (v5+1))))) (Wy (v3++[0]) (0+(tn v5)) ((v3.length+1) - (tn v5)))).set (0+(tn v5)) (rd l0 (tn v4)))
abbrev HK (v3:List Int):=(Zt (Zz v3) 0 v3.length 1 [(ii 0)])
abbrev Y8 (v3:List Int) (v5:Int):=(Nat.min ((v3.length+1) - (tn v5)) ((v3.length+1) - (tn (wr (v5+1)))))
def v7y (l0:List Int):EJ->CB
 | .h0 v3 v4=>⟨⟨63,0,true⟩,none,(Zg prog 124 [1,1,0,1,0,0] 0),none,(Zy prog 9),⟨Yj [(0,(.dat l0.length (Zz l0))),(3,(.sla 0 1 0 v3.length (.un 1))),(4,(ii v4))],Vk [⟨Ya v3.length (Zz v3),3,some ⟨1,v3.length,(Zz v3)⟩⟩] 0,1,[],true⟩,[],.leaf⟩
 | .h1 v3 v4 v5=>⟨⟨63,0,true⟩,none,(Zg prog 124 [1,1,0,1,0,0,1,0,0,1,0,0,0] 0),none,(Zy prog 9),⟨Yj [(0,(.dat l0.length (Zz l0))),(3,(.sla 0 1 0 v3.length (.un 1))),(4,(ii v4)),(5,(ii v5))],Vk [⟨Ya v3.length (Zz v3),3,some ⟨1,v3.length,(Zz v3)⟩⟩] 0,1,[],true⟩,[],.leaf⟩
def x4i :List (Option (List Nat)):=[some [0,3,4]]
def x4j :List (Option (List Nat)):=[]
def v7w :List (Option (List Nat)):=[some [0,3,4,5]]
def v7x :List (Option (List Nat)):=[]
def Uo (l0:List Int):EJ->Xz EJ
 | .h0 v3 v4=>(bif (decide (v4<(l0.length:Int))) then (.to (.h1 v3 v4 (v3.length:Int))) else (.ret [(.dat v3.length (Zz v3))]))
 | .h1 v3 v4 v5=>(bif (decide (v5>0)) then (bif ((decide (0<=(wrap .i64 (v5 - 1))/\(wrap .i64 (v5 - 1))<(v3.length:Int)))&&true) then (bif (decide ((0+(Int.toNat (wrap .i64 (v5 - 1))))<v3.length)) then (bif ((decide (0<=v4/\v4<(l0.length:Int)))&&true) then (bif (decide ((rd v3 (0+(Int.toNat (wrap .i64 (v5 - 1)))))>(rd l0 v4.toNat))) then (.to (.h1 v3 v4 (wrap .i64 (v5 - 1)))) else (bif ((rd v3 (0+(Int.toNat (wrap .i64 (v5 - 1))))) == (rd l0 v4.toNat)) then (.to (.h0 v3 (wrap .i64 (v4+1)))) else (bif (Nat.beq 1 1&&((decide (0+v3.length=v3.length))&&decide ((v3.length+1+1)*(8+1)<=CF))) then (bif (true&&((decide (0<=(wrap .i64 (v5+1))))&&(decide ((v3.length+1)<=(v3.length+1))&&decide ((Int.toNat (wrap .i64 (v5+1)))<=(v3.length+1))))) then (bif (true&&((decide (0<=v5))&&(decide ((v3.length+1)<=(v3.length+1))&&decide (v5.toNat<=(v3.length+1))))) then (bif (decide ((0+v5.toNat)+((v3.length+1) - v5.toNat)<=(v3.length+1))) then (bif (decide ((0+(Int.toNat (wrap .i64 (v5+1))))+((v3.length+1) - (Int.toNat (wrap .i64 (v5+1))))<=(v3.length+1))) then (bif ((decide (0<=v5/\v5<(((v3.length+1):Nat):Int)))&&true) then (bif (decide ((0+v5.toNat)<(v3.length+1))) then (.to (.h0 ((Gj (v3++[0]) (0+(Int.toNat (wrap .i64 (v5+1)))) (Nat.min ((v3.length+1) - v5.toNat) ((v3.length+1) - (Int.toNat (wrap .i64 (v5+1))))) (Wy (v3++[0]) (0+v5.toNat) ((v3.length+1) - v5.toNat))).set (0+v5.toNat) (rd l0 v4.toNat)) (wrap .i64 (v4+1)))) else .stuck) else .stuck) else .stuck) else .stuck) else .stuck) else .stuck) else .stuck))) else .stuck) else .stuck) else .stuck) else (bif (Nat.beq 1 1&&((decide (0+v3.length=v3.length))&&decide ((v3.length+1+1)*(8+1)<=CF))) then (bif (true&&((decide (0<=(wrap .i64 (v5+1))))&&(decide ((v3.length+1)<=(v3.length+1))&&decide ((Int.toNat (wrap .i64 (v5+1)))<=(v3.length+1))))) then (bif (true&&((decide (0<=v5))&&(decide ((v3.length+1)<=(v3.length+1))&&decide (v5.toNat<=(v3.length+1))))) then (bif (decide ((0+v5.toNat)+((v3.length+1) - v5.toNat)<=(v3.length+1))) then (bif (decide ((0+(Int.toNat (wrap .i64 (v5+1))))+((v3.length+1) - (Int.toNat (wrap .i64 (v5+1))))<=(v3.length+1))) then (bif ((decide (0<=v4/\v4<(l0.length:Int)))&&true) then (bif ((decide (0<=v5/\v5<(((v3.length+1):Nat):Int)))&&true) then (bif (decide ((0+v5.toNat)<(v3.length+1))) then (.to (.h0 ((Gj (v3++[0]) (0+(Int.toNat (wrap .i64 (v5+1)))) (Nat.min ((v3.length+1) - v5.toNat) ((v3.length+1) - (Int.toNat (wrap .i64 (v5+1))))) (Wy (v3++[0]) (0+v5.toNat) ((v3.length+1) - v5.toNat))).set (0+v5.toNat) (rd l0 v4.toNat)) (wrap .i64 (v4+1)))) else .stuck) else .stuck) else .stuck) else .stuck) else .stuck) else .stuck) else .stuck) else .stuck))
def XR (l0:List Int):Xz EJ:=(.to (.h0 ([]:List Int) 0))
theorem x6x (l0:List Int): ∀s,Xw prog (Zy prog 124) (v7y l0) (v7y l0 s) (Uo l0 s)
 | .h0 v3 v4=>(lb (fun k0=>(sl Zc 21 [] ⟨[0],[],v7w,v7x⟩ a6 [true] (pp (fl v3 nn) (tt k0 nn)))) (fun k0=>(lr 63 3 [1,1,1,1,0] 1 9 [(2,(.dat v3.length (Zz v3)))] (sl Zc 15 [] ⟨[],[0],[some [2]],[]⟩ ⟨[(2,.frz v3.length v3.length (Zz v3) (Zz v3))],[],[]⟩ [false] (pp (xZ (Cm 1 1 0 v3.length v3.length (Zz v3)) v3.length (Zz v3)) (pp (xL v3.length v3.length) (pp (xS v3.length (Zz v3) (Zz v3)) (pp (fl v3 nn) (tt k0 nn)))))))))
 | .h1 v3 v4 v5=>let b:=Kd v3 v5 l0 v4;(lb (fun k0=>(lo fun aE=>(lo fun bI=>(lo fun dB=>let g:=ww dB (ww bI (ww aE (tt k0 nn)));(lb (fun k1=>(sl Zc 13 [] ⟨[0],[],v7w,v7x⟩ a6 (CA 11 []) (pp (fl v3 nn) (tt k1 g)))) (fun k1=>let a:=ww dB (ww bI (ww aE (tt k0 (tt k1 g))));(lb (fun k2=>(sl Zc 16 [] ⟨[0],[],x4i,x4j⟩ a6 (CA 10 (bl 12 4094)) (pp (fl v3 nn) (tt k2 a)))) (fun k2=>(lo fun o0=>(lo fun o1=>(lo fun o2=>(lo fun o3=>(lo fun o4=>(lo fun o5=>(lo fun o6=>let c:=xG (Nat.beq 1 1);let e:=xL (v3.length+1) (Kd v3 v5 l0 v4).length;(sl Zc 36 [] ⟨[2],[],x4i,x4j⟩ ⟨[(3,.len b.length)],[.rowed 1 b.length (Zz b)],[]⟩ (CA 10 (bl 12 2046)) (pp e (pp e (pp (xS (v3.length+1) (Xa (Uq (HK v3) (0+(tn (wr (v5+1)))) (Y8 v3 v5) (fun k=>(HK v3) ((0+(tn v5))+k))) (0+(tn v5)) 0 [(ii (rd l0 (tn v4)))]) (Zz (Kd v3 v5 l0 v4))) (pp (pp (xF (Xa (Uq (HK v3) (0+(tn (wr (v5+1)))) (Y8 v3 v5) (fun k=>(HK v3) ((0+(tn v5))+k))) (0+(tn v5)) 0 [(ii (rd l0 (tn v4)))])) nn) (ww o6 (ww o5 (ww dB (pp (pp c (pp c (pp (xw o4) (pp c (pp c (pp (xG (decide ((0+(tn v5))+((v3.length+1) - (tn v5))<=(v3.length+1)))) (xG (G8 1 ((v3.length+1) - (tn v5)) (fun k=>(HK v3) ((0+(tn v5))+k)))))))))) (ww o2 (ww o1 (ww o0 (tt k2 a)))))))))))))))))))))))))))) (fun k0=>(lo fun o0=>(lo fun o1=>(lo fun o2=>(lo fun o3=>(lo fun o4=>(lo fun o5=>(lo fun o6=>(lo fun o7=>let d:=xG (Nat.beq 1 1);let f:=xL (v3.length+1) (Kd v3 v5 l0 v4).length;(sl Zc 36 [] ⟨[2],[],x4i,x4j⟩ ⟨[(3,.len b.length)],[.rowed 1 b.length (Zz b)],[]⟩ (bl 22 0) (pp f (pp f (pp (xS (v3.length+1) (Xa (Uq (HK v3) (0+(tn (wr (v5+1)))) (Y8 v3 v5) (fun k=>(HK v3) ((0+(tn v5))+k))) (0+(tn v5)) 0 [(ii (rd l0 (tn v4)))]) (Zz (Kd v3 v5 l0 v4))) (pp (pp (xF (Xa (Uq (HK v3) (0+(tn (wr (v5+1)))) (Y8 v3 v5) (fun k=>(HK v3) ((0+(tn v5))+k))) (0+(tn v5)) 0 [(ii (rd l0 (tn v4)))])) nn) (ww o7 (ww o6 (ww o5 (pp (pp d (pp d (pp (xw o4) (pp d (pp d (pp (xG (decide ((0+(tn v5))+((v3.length+1) - (tn v5))<=(v3.length+1)))) (xG (G8 1 ((v3.length+1) - (tn v5)) (fun k=>(HK v3) ((0+(tn v5))+k)))))))))) (ww o2 (ww o1 (ww o0 (tt k0 (tt k0 nn))))))))))))))))))))))))
theorem x4h (l0:List Int):Xw prog (Zy prog 124) (v7y l0) (Zm prog 124 [(.dat l0.length (Zz l0))] true []) (XR l0):=(sl Zc 15 [(3,1,Zz ([]:List Int))] ⟨[0],[],x4i,x4j⟩ ⟨[(3,.grow 0 1)],[],[]⟩ [] (pp (fl ([]:List Int) nn) nn))
theorem v1r (l0:List Int) (n:Nat) (vs:List B2) (h:Zo (Uo l0) n (XR l0)=.ret vs):Uj prog (Zy prog 124) (Zm prog 124 [(.dat l0.length (Zz l0))] true []) vs:=by have:=Zb (x6x l0) n _ (x4h l0);rwa [h] at this
inductive FO where
 | h0 (v5:List R2) (v6:Int)
def t0s (l0:List Int) (l1:List Bool):FO->CB
 | .h0 v5 v6=>⟨⟨61,0,true⟩,none,(Zg prog 131 [1,1,0,1,0,0] 0),none,(Zy prog 6),⟨Yj [(0,(.dat l0.length (Zz l0))),(1,(.dat l1.length (Zz l1))),(5,(.sla 0 2 0 v5.length (.un 2))),(6,(ii v6))],Vk [⟨Ya v5.length (Zz v5),176,some ⟨2,v5.length,(Zz v5)⟩⟩] 0,1,[],true⟩,[],.leaf⟩
def UY :List (Option (List Nat)):=[some [0,1,5,6]]
def UX :List (Option (List Nat)):=[]
def H5 (l0:List Int) (l1:List Bool):FO->Xz FO
 | .h0 v5 v6=>(bif (decide ((wrap .i64 (v6+1))<(l0.length:Int))) then (bif ((decide (0<=v6/\v6<(l1.length:Int)))&&true) then (bif (!(rd l1 v6.toNat)) then (.to (.h0 v5 (wrap .i64 (v6+1)))) else (bif (decide ((v5.length:Int)>0)) then (bif ((decide (0<=(wrap .i64 ((v5.length:Int) - 1))/\(wrap .i64 ((v5.length:Int) - 1))<(v5.length:Int)))&&true) then (bif (decide ((0+(Int.toNat (wrap .i64 ((v5.length:Int) - 1))))<v5.length)) then (bif ((decide (0<=v6/\v6<(l0.length:Int)))&&true) then (bif ((rd v5 (0+(Int.toNat (wrap .i64 ((v5.length:Int) - 1))))).b == (rd l0 v6.toNat)) then (bif ((decide (0<=(wrap .i64 (v6+1))/\(wrap .i64 (v6+1))<(l0.length:Int)))&&true) then (.to (.h0 (v5.set (0+(Int.toNat (wrap .i64 ((v5.length:Int) - 1)))) (R2.mk (rd v5 (0+(Int.toNat (wrap .i64 ((v5.length:Int) - 1))))).a (rd l0 (Int.toNat (wrap .i64 (v6+1)))))) (wrap .i64 (v6+1)))) else .stuck) else (bif ((decide (0<=(wrap .i64 (v6+1))/\(wrap .i64 (v6+1))<(l0.length:Int)))&&true) then (bif (Nat.beq 2 2&&((decide (0+v5.length=v5.length))&&decide ((v5.length+1+1)*(16+1)<=CF))) then (.to (.h0 (v5++[(R2.mk (rd l0 v6.toNat) (rd l0 (Int.toNat (wrap .i64 (v6+1)))))]) (wrap .i64 (v6+1)))) else .stuck) else .stuck)) else .stuck) else .stuck) else .stuck) else (bif ((decide (0<=v6/\v6<(l0.length:Int)))&&true) then (bif ((decide (0<=(wrap .i64 (v6+1))/\(wrap .i64 (v6+1))<(l0.length:Int)))&&true) then (bif (Nat.beq 2 2&&((decide (0+v5.length=v5.length))&&decide ((v5.length+1+1)*(16+1)<=CF))) then (.to (.h0 (v5++[(R2.mk (rd l0 v6.toNat) (rd l0 (Int.toNat (wrap .i64 (v6+1)))))]) (wrap .i64 (v6+1)))) else .stuck) else .stuck) else .stuck))) else .stuck) else (.ret [(.dat v5.length (Zz v5))]))
def Z9 (l0:List Int) (l1:List Bool):Xz FO:=(.to (.h0 ([]:List R2) 0))
theorem w2p (l0:List Int) (l1:List Bool): ∀s,Xw prog (Zy prog 131) (t0s l0 l1) (t0s l0 l1 s) (H5 l0 l1 s)
 | .h0 v5 v6=>(lb (fun k0=>(lo fun aE=>let h:=ww aE (tt k0 nn);(lb (fun k1=>(sl Zc 30 [] ⟨[0],[],UY,UX⟩ a6 (bl 2 3) (pp (fl v5 nn) (tt k1 h)))) (fun k1=>let j:=rd l0 (tn (wr (v6+1)));let b:=v5++[(R2.mk (rd l0 (tn v6)) j)];(lb (fun k2=>(lo fun cG=>(lo fun cU=>(lo fun dJ=>let g:=ww dJ (ww cU (ww cG (tt k2 (tt k1 h))));(lb (fun k3=>(lo fun o0=>let i:=tn (wr ((v5.length:Int) - 1));let c:=v5.set (0+i) (R2.mk (rd v5 (0+i)).a j);let d:=xL v5.length (v5.set (0+(tn (wr ((v5.length:Int) - 1)))) (R2.mk (rd v5 (0+(tn (wr ((v5.length:Int) - 1))))).a (rd l0 (tn (wr (v6+1)))))).length;(sl Zc 53 [] ⟨[0],[],UY,UX⟩ ⟨[(5,.len c.length)],[.rowed 2 c.length (Zz c)],[]⟩ (bl 14 16381) (pp d (pp d (pp (xS v5.length (Xa (Zz v5) (0+(tn (wr ((v5.length:Int) - 1)))) 1 [(ii (rd l0 (tn (wr (v6+1)))))]) (Zz (v5.set (0+(tn (wr ((v5.length:Int) - 1)))) (R2.mk (rd v5 (0+(tn (wr ((v5.length:Int) - 1))))).a (rd l0 (tn (wr (v6+1)))))))) (pp (pp (xF (Xa (Zz v5) (0+(tn (wr ((v5.length:Int) - 1)))) 1 [(ii (rd l0 (tn (wr (v6+1)))))])) nn) (ww cU (ww cG (ww o0 (tt k3 g))))))))))) (fun k3=>(lo fun o0=>(lo fun o1=>let e:=xL (v5.length+1) (v5++[(R2.mk (rd l0 (tn v6)) (rd l0 (tn (wr (v6+1)))))]).length;(sl Zc 41 [] ⟨[2],[],UY,UX⟩ ⟨[(5,.len b.length)],[.rowed 2 b.length (Zz b)],[]⟩ (bl 14 8189) (pp e (pp e (pp (xS (v5.length+1) (Zt (Zz v5) 0 v5.length 2 [(ii (rd l0 (tn v6))),(ii (rd l0 (tn (wr (v6+1)))))]) (Zz (v5++[(R2.mk (rd l0 (tn v6)) (rd l0 (tn (wr (v6+1)))))]))) (pp (pp (xF (Zt (Zz v5) 0 v5.length 2 [(ii (rd l0 (tn v6))),(ii (rd l0 (tn (wr (v6+1)))))])) nn) (ww o1 (ww o0 (ww dJ (tt k3 g))))))))))))))))) (fun k2=>(lo fun o0=>(lo fun o1=>(lo fun o2=>let f:=xL (v5.length+1) (v5++[(R2.mk (rd l0 (tn v6)) (rd l0 (tn (wr (v6+1)))))]).length;(sl Zc 41 [] ⟨[2],[],UY,UX⟩ ⟨[(5,.len b.length)],[.rowed 2 b.length (Zz b)],[]⟩ (bl 14 1) (pp f (pp f (pp (xS (v5.length+1) (Zt (Zz v5) 0 v5.length 2 [(ii (rd l0 (tn v6))),(ii (rd l0 (tn (wr (v6+1)))))]) (Zz (v5++[(R2.mk (rd l0 (tn v6)) (rd l0 (tn (wr (v6+1)))))]))) (pp (pp (xF (Zt (Zz v5) 0 v5.length 2 [(ii (rd l0 (tn v6))),(ii (rd l0 (tn (wr (v6+1)))))])) nn) (ww o2 (ww o1 (ww o0 (tt k2 (tt k1 h))))))))))))))))))) (fun k0=>(lr 61 3 [1,1,1,1,0] 1 6 [(4,(.dat v5.length (Zz v5)))] (sl Zc 16 [] ⟨[],[0],[some [4]],[]⟩ ⟨[(4,.frz v5.length v5.length (Zz v5) (Zz v5))],[],[]⟩ [false] (pp (xZ (Cm 2 2 0 v5.length v5.length (Zz v5)) v5.length (Zz v5)) (pp (xL v5.length v5.length) (pp (xS v5.length (Zz v5) (Zz v5)) (pp (fl v5 nn) (tt k0 nn)))))))))
theorem x7j (l0:List Int) (l1:List Bool):Xw prog (Zy prog 131) (t0s l0 l1) (Zm prog 131 [(.dat l0.length (Zz l0)),(.dat l1.length (Zz l1))] true []) (Z9 l0 l1):=(sl Zc 15 [(176,2,Zz ([]:List R2))] ⟨[0],[],UY,UX⟩ ⟨[(5,.grow 0 2)],[],[]⟩ [] (pp (fl ([]:List R2) nn) nn))
theorem v9c (l0:List Int) (l1:List Bool) (n:Nat) (vs:List B2) (h:Zo (H5 l0 l1) n (Z9 l0 l1)=.ret vs):Uj prog (Zy prog 131) (Zm prog 131 [(.dat l0.length (Zz l0)),(.dat l1.length (Zz l1))] true []) vs:=by have:=Zb (w2p l0 l1) n _ (x7j l0 l1);rwa [h] at this
inductive IU where
 | h0 (v5:Int)
def PA (l0:List R2) (l1:List R2):IU->CB
 | .h0 v5=>⟨⟨26,0,true⟩,none,(Zg prog 132 [1,1,0,1,0,0] 0),none,(Zy prog 6),⟨Yj [(0,(.dat l0.length (Zz l0))),(1,(.dat l1.length (Zz l1))),(5,(ii v5))],Vk [] 0,0,[],true⟩,[],.leaf⟩
def Lp :List (Option (List Nat)):=[some [0,1,5]]
def Lq :List (Option (List Nat)):=[]
def NU (l0:List R2) (l1:List R2):IU->Xz IU
 | .h0 v5=>(bif (decide (v5<(l0.length:Int))) then (bif ((decide (0<=v5/\v5<(l0.length:Int)))&&true) then (bif ((decide (0<=v5/\v5<(l1.length:Int)))&&true) then (bif (!(((rd l0 v5.toNat).a == (rd l1 v5.toNat).a)&&(((rd l0 v5.toNat).b == (rd l1 v5.toNat).b)&&true))) then (.ret [(.bool false)]) else (.to (.h0 (wrap .i64 (v5+1))))) else .stuck) else .stuck) else (.ret [(.bool true)]))
def Td (l0:List R2) (l1:List R2):Xz IU:=(bif ((l0.length:Int) != (l1.length:Int)) then (.ret [(.bool false)]) else (.to (.h0 0)))
theorem v1s (l0:List R2) (l1:List R2): ∀s,Xw prog (Zy prog 132) (PA l0 l1) (PA l0 l1 s) (NU l0 l1 s)
 | .h0 v5=>(lb (fun k0=>(lo fun aE=>(lo fun bI=>let a:=ww bI (ww aE (tt k0 nn));(lb (fun k1=>(lr 26 132 [1,1,0,1,0,0,1,0,0,1,0,0] 1 6 [(4,(.bool false))] (sl Zc 19 [] (a8 [4]) a6 (bl 2 3) (tt k1 a)))) (fun k1=>(sl Zc 23 [] ⟨[],[],Lp,Lq⟩ a6 (bl 2 1) (tt k1 a))))))) (fun k0=>(lr 26 3 [1,1,1,1,0] 1 6 [(4,(.bool true))] (sl Zc 14 [] (a8 [4]) a6 [false] (tt k0 nn)))))
theorem w1m (l0:List R2) (l1:List R2):Xw prog (Zy prog 132) (PA l0 l1) (Zm prog 132 [(.dat l0.length (Zz l0)),(.dat l1.length (Zz l1))] true []) (Td l0 l1):=(lb (fun k0=>(lr 26 132 [1,0,1,0,0] 1 6 [(4,(.bool false))] (sl Zc 18 [] (a8 [4]) a6 [true] (tt k0 nn)))) (fun k0=>(sl Zc 22 [] ⟨[],[],Lp,Lq⟩ a6 [false] (tt k0 nn))))
theorem u6a (l0:List R2) (l1:List R2) (n:Nat) (vs:List B2) (h:Zo (NU l0 l1) n (Td l0 l1)=.ret vs):Uj prog (Zy prog 132) (Zm prog 132 [(.dat l0.length (Zz l0)),(.dat l1.length (Zz l1))] true []) vs:=by have:=Zb (v1s l0 l1) n _ (w1m l0 l1);rwa [h] at this
inductive FK where
 | h0 (v7:Int)
def t0g (l0:List R4) (x1:Int) (x2:Int):FK->CB
 | .h0 v7=>⟨⟨48,0,true⟩,none,(Zg prog 130 [1,0,1,0,0] 0),none,(Zy prog 3),⟨Yj [(0,(.dat l0.length (Zz l0))),(1,(ii x1)),(2,(ii x2)),(7,(ii v7))],Vk [] 0,0,[],true⟩,[],.leaf⟩
def U2 :List (Option (List Nat)):=[some [0,1,2,7]]
def U1 :List (Option (List Nat)):=[]
def SJ (l0:List R4) (x1:Int) (x2:Int):FK->Xz FK
 | .h0 v7=>(bif (decide (v7<(l0.length:Int))) then (bif ((decide (0<=v7/\v7<(l0.length:Int)))&&true) then (bif (decide ((rd l0 v7.toNat).a <=x1)) then (bif (decide (x1<(rd l0 v7.toNat).c)) then (bif (decide ((rd l0 v7.toNat).b <=x2)) then (bif (decide (x2<(rd l0 v7.toNat).d)) then (.ret [(.bool true)]) else (.to (.h0 (wrap .i64 (v7+1))))) else (.to (.h0 (wrap .i64 (v7+1))))) else (.to (.h0 (wrap .i64 (v7+1))))) else (.to (.h0 (wrap .i64 (v7+1))))) else .stuck) else (.ret [(.bool false)]))
def XB (l0:List R4) (x1:Int) (x2:Int):Xz FK:=(.to (.h0 0))
theorem w1z (l0:List R4) (x1:Int) (x2:Int): ∀s,Xw prog (Zy prog 130) (t0g l0 x1 x2) (t0g l0 x1 x2 s) (SJ l0 x1 x2 s)
 | .h0 v7=>(lb (fun k0=>(lo fun aE=>let c:=ww aE (tt k0 nn);(lb (fun k1=>let a:=ww aE (tt k1 c);(lb (fun k2=>let d:=ww aE (tt k2 a);(lb (fun k3=>let b:=ww aE (tt k3 d);(lb (fun k4=>(lr 48 130 [1,0,1,0,0,1,0,0,1,0,0] 1 3 [(6,(.bool true))] (sl Zc 54 [] (a8 [6]) a6 (CA 23 []) (tt k4 b)))) (fun k4=>(sl Zc 58 [] ⟨[],[],U2,U1⟩ a6 (CA 22 [false]) (tt k4 b))))) (fun k3=>(sl Zc 58 [] ⟨[],[],U2,U1⟩ a6 (CA 15 (bl 8 0)) (tt k3 d))))) (fun k2=>(sl Zc 58 [] ⟨[],[],U2,U1⟩ a6 (CA 8 (bl 15 0)) (tt k2 a))))) (fun k1=>(sl Zc 58 [] ⟨[],[],U2,U1⟩ a6 (bl 23 1) (tt k1 c)))))) (fun k0=>(lr 48 3 [1,1,1,1,0] 1 3 [(6,(.bool false))] (sl Zc 14 [] (a8 [6]) a6 [false] (tt k0 nn)))))
theorem x6z (l0:List R4) (x1:Int) (x2:Int):Xw prog (Zy prog 130) (t0g l0 x1 x2) (Zm prog 130 [(.dat l0.length (Zz l0)),(.int .i64 x1),(.int .i64 x2)] true []) (XB l0 x1 x2):=(sl Zc 11 [] ⟨[],[],U2,U1⟩ a6 [] nn)
theorem v8j (l0:List R4) (x1:Int) (x2:Int) (n:Nat) (vs:List B2) (h:Zo (SJ l0 x1 x2) n (XB l0 x1 x2)=.ret vs):Uj prog (Zy prog 130) (Zm prog 130 [(.dat l0.length (Zz l0)),(.int .i64 x1),(.int .i64 x2)] true []) vs:=by have:=Zb (w1z l0 x1 x2) n _ (x6z l0 x1 x2);rwa [h] at this
inductive IR where
 | h0 (v5:Int)
def Oy (l0:List R4) (l1:List R4):IR->CB
 | .h0 v5=>⟨⟨26,0,true⟩,none,(Zg prog 109 [1,1,0,1,0,0] 0),none,(Zy prog 6),⟨Yj [(0,(.dat l0.length (Zz l0))),(1,(.dat l1.length (Zz l1))),(5,(ii v5))],Vk [] 0,0,[],true⟩,[],.leaf⟩
def Ll :List (Option (List Nat)):=[some [0,1,5]]
def Lm :List (Option (List Nat)):=[]
def NW (l0:List R4) (l1:List R4):IR->Xz IR
 | .h0 v5=>(bif (decide (v5<(l0.length:Int))) then (bif ((decide (0<=v5/\v5<(l0.length:Int)))&&true) then (bif ((decide (0<=v5/\v5<(l1.length:Int)))&&true) then (bif (!(((rd l0 v5.toNat).a == (rd l1 v5.toNat).a)&&(((rd l0 v5.toNat).b == (rd l1 v5.toNat).b)&&(((rd l0 v5.toNat).c == (rd l1 v5.toNat).c)&&(((rd l0 v5.toNat).d == (rd l1 v5.toNat).d)&&true))))) then (.ret [(.bool false)]) else (.to (.h0 (wrap .i64 (v5+1))))) else .stuck) else .stuck) else (.ret [(.bool true)]))
def Te (l0:List R4) (l1:List R4):Xz IR:=(bif ((l0.length:Int) != (l1.length:Int)) then (.ret [(.bool false)]) else (.to (.h0 0)))
theorem v1p (l0:List R4) (l1:List R4): ∀s,Xw prog (Zy prog 109) (Oy l0 l1) (Oy l0 l1 s) (NW l0 l1 s)
 | .h0 v5=>(lb (fun k0=>(lo fun aE=>(lo fun bI=>let a:=ww bI (ww aE (tt k0 nn));(lb (fun k1=>(lr 26 109 [1,1,0,1,0,0,1,0,0,1,0,0] 1 6 [(4,(.bool false))] (sl Zc 19 [] (a8 [4]) a6 (bl 2 3) (tt k1 a)))) (fun k1=>(sl Zc 23 [] ⟨[],[],Ll,Lm⟩ a6 (bl 2 1) (tt k1 a))))))) (fun k0=>(lr 26 3 [1,1,1,1,0] 1 6 [(4,(.bool true))] (sl Zc 14 [] (a8 [4]) a6 [false] (tt k0 nn)))))
theorem w1k (l0:List R4) (l1:List R4):Xw prog (Zy prog 109) (Oy l0 l1) (Zm prog 109 [(.dat l0.length (Zz l0)),(.dat l1.length (Zz l1))] true []) (Te l0 l1):=(lb (fun k0=>(lr 26 109 [1,0,1,0,0] 1 6 [(4,(.bool false))] (sl Zc 18 [] (a8 [4]) a6 [true] (tt k0 nn)))) (fun k0=>(sl Zc 22 [] ⟨[],[],Ll,Lm⟩ a6 [false] (tt k0 nn))))
theorem u5y (l0:List R4) (l1:List R4) (n:Nat) (vs:List B2) (h:Zo (NW l0 l1) n (Te l0 l1)=.ret vs):Uj prog (Zy prog 109) (Zm prog 109 [(.dat l0.length (Zz l0)),(.dat l1.length (Zz l1))] true []) vs:=by have:=Zb (v1p l0 l1) n _ (w1k l0 l1);rwa [h] at this
inductive IV where
 | h0 (v5:Int)
def PB (l0:List R6) (l1:List R6):IV->CB
 | .h0 v5=>⟨⟨26,0,true⟩,none,(Zg prog 22 [1,1,0,1,0,0] 0),none,(Zy prog 6),⟨Yj [(0,(.dat l0.length (Zz l0))),(1,(.dat l1.length (Zz l1))),(5,(ii v5))],Vk [] 0,0,[],true⟩,[],.leaf⟩
def Lr :List (Option (List Nat)):=[some [0,1,5]]
def Ls :List (Option (List Nat)):=[]
def NT (l0:List R6) (l1:List R6):IV->Xz IV
 | .h0 v5=>(bif (decide (v5<(l0.length:Int))) then (bif ((decide (0<=v5/\v5<(l0.length:Int)))&&true) then (bif ((decide (0<=v5/\v5<(l1.length:Int)))&&true) then (bif (!((((rd l0 v5.toNat).a == (rd l1 v5.toNat).a)&&(((rd l0 v5.toNat).b == (rd l1 v5.toNat).b)&&(((rd l0 v5.toNat).c == (rd l1 v5.toNat).c)&&true)))&&((((rd l0 v5.toNat).d == (rd l1 v5.toNat).d)&&(((rd l0 v5.toNat).e == (rd l1 v5.toNat).e)&&(((rd l0 v5.toNat).f == (rd l1 v5.toNat).f)&&true)))&&true))) then (.ret [(.bool false)]) else (.to (.h0 (wrap .i64 (v5+1))))) else .stuck) else .stuck) else (.ret [(.bool true)]))
def Tc (l0:List R6) (l1:List R6):Xz IV:=(bif ((l0.length:Int) != (l1.length:Int)) then (.ret [(.bool false)]) else (.to (.h0 0)))
theorem v1t (l0:List R6) (l1:List R6): ∀s,Xw prog (Zy prog 22) (PB l0 l1) (PB l0 l1 s) (NT l0 l1 s)
 | .h0 v5=>(lb (fun k0=>(lo fun aE=>(lo fun bI=>let a:=ww bI (ww aE (tt k0 nn));(lb (fun k1=>(lr 26 22 [1,1,0,1,0,0,1,0,0,1,0,0] 1 6 [(4,(.bool false))] (sl Zc 19 [] (a8 [4]) a6 (bl 2 3) (tt k1 a)))) (fun k1=>(sl Zc 23 [] ⟨[],[],Lr,Ls⟩ a6 (bl 2 1) (tt k1 a))))))) (fun k0=>(lr 26 3 [1,1,1,1,0] 1 6 [(4,(.bool true))] (sl Zc 14 [] (a8 [4]) a6 [false] (tt k0 nn)))))
theorem w1n (l0:List R6) (l1:List R6):Xw prog (Zy prog 22) (PB l0 l1) (Zm prog 22 [(.dat l0.length (Zz l0)),(.dat l1.length (Zz l1))] true []) (Tc l0 l1):=(lb (fun k0=>(lr 26 22 [1,0,1,0,0] 1 6 [(4,(.bool false))] (sl Zc 18 [] (a8 [4]) a6 [true] (tt k0 nn)))) (fun k0=>(sl Zc 22 [] ⟨[],[],Lr,Ls⟩ a6 [false] (tt k0 nn))))
theorem u6b (l0:List R6) (l1:List R6) (n:Nat) (vs:List B2) (h:Zo (NT l0 l1) n (Tc l0 l1)=.ret vs):Uj prog (Zy prog 22) (Zm prog 22 [(.dat l0.length (Zz l0)),(.dat l1.length (Zz l1))] true []) vs:=by have:=Zb (v1t l0 l1) n _ (w1n l0 l1);rwa [h] at this
inductive Ia where
 | h0 (v5:List R4) (v6:Int)
def PP (l0:List R6) (x1:Int):Ia->CB
 | .h0 v5 v6=>⟨⟨60,0,true⟩,none,(Zg prog 108 [1,1,0,1,0,0] 0),none,(Zy prog 6),⟨Yj [(0,(.dat l0.length (Zz l0))),(1,(ii x1)),(5,(.sla 0 4 0 v5.length (.un 4))),(6,(ii v6))],Vk [⟨Ya v5.length (Zz v5),116,some ⟨4,v5.length,(Zz v5)⟩⟩] 0,1,[],true⟩,[],.leaf⟩
def u7g :List (Option (List Nat)):=[some [0,1,5,6]]
def u7h :List (Option (List Nat)):=[]
def NQ (l0:List R6) (x1:Int):Ia->Xz Ia
 | .h0 v5 v6=>(bif (decide (v6<(l0.length:Int))) then (bif ((decide (0<=v6/\v6<(l0.length:Int)))&&true) then (bif (decide ((rd l0 v6.toNat).c <=x1)) then (bif (decide (x1<(rd l0 v6.toNat).f)) then (bif (Nat.beq 4 4&&((decide (0+v5.length=v5.length))&&decide ((v5.length+1+1)*(32+1)<=CF))) then (.to (.h0 (v5++[(R4.mk (rd l0 v6.toNat).a (rd l0 v6.toNat).b (rd l0 v6.toNat).d (rd l0 v6.toNat).e)]) (wrap .i64 (v6+1)))) else .stuck) else (.to (.h0 v5 (wrap .i64 (v6+1))))) else (.to (.h0 v5 (wrap .i64 (v6+1))))) else .stuck) else (.ret [(.dat v5.length (Zz v5))]))
def YX (l0:List R6) (x1:Int):Xz Ia:=(.to (.h0 ([]:List R4) 0))
theorem v2l (l0:List R6) (x1:Int): ∀s,Xw prog (Zy prog 108) (PP l0 x1) (PP l0 x1 s) (NQ l0 x1 s)
 | .h0 v5 v6=>(lb (fun k0=>(lo fun aE=>let h:=ww aE (tt k0 nn);(lb (fun k1=>let i:=ww aE (tt k1 h);(lb (fun k2=>(lo fun o0=>let g:=rd l0 (tn v6);let c:=v5++[(R4.mk g.a g.b g.d g.e)];let f:=xL (v5.length+1) (v5++[(R4.mk (rd l0 (tn v6)).a (rd l0 (tn v6)).b (rd l0 (tn v6)).d (rd l0 (tn v6)).e)]).length;(sl Zc 42 [] ⟨[2],[],u7g,u7h⟩ ⟨[(5,.len c.length)],[.rowed 4 c.length (Zz c)],[]⟩ (CA 10 []) (pp f (pp f (pp (xS (v5.length+1) (Zt (Zz v5) 0 v5.length 4 [(ii (rd l0 (tn v6)).a),(ii (rd l0 (tn v6)).b),(ii (rd l0 (tn v6)).d),(ii (rd l0 (tn v6)).e)]) (Zz (v5++[(R4.mk (rd l0 (tn v6)).a (rd l0 (tn v6)).b (rd l0 (tn v6)).d (rd l0 (tn v6)).e)]))) (pp (pp (xF (Zt (Zz v5) 0 v5.length 4 [(ii (rd l0 (tn v6)).a),(ii (rd l0 (tn v6)).b),(ii (rd l0 (tn v6)).d),(ii (rd l0 (tn v6)).e)])) nn) (ww o0 (ww aE (ww aE (ww aE (ww aE (tt k2 i))))))))))))) (fun k2=>(sl Zc 42 [] ⟨[0],[],u7g,u7h⟩ a6 (CA 9 [false]) (pp (fl v5 nn) (tt k2 i)))))) (fun k1=>(sl Zc 42 [] ⟨[0],[],u7g,u7h⟩ a6 (bl 10 1) (pp (fl v5 nn) (tt k1 h))))))) (fun k0=>(lr 60 3 [1,1,1,1,0] 1 6 [(4,(.dat v5.length (Zz v5)))] (sl Zc 15 [] ⟨[],[0],[some [4]],[]⟩ ⟨[(4,.frz v5.length v5.length (Zz v5) (Zz v5))],[],[]⟩ [false] (pp (xZ (Cm 4 4 0 v5.length v5.length (Zz v5)) v5.length (Zz v5)) (pp (xL v5.length v5.length) (pp (xS v5.length (Zz v5) (Zz v5)) (pp (fl v5 nn) (tt k0 nn)))))))))
theorem w2q (l0:List R6) (x1:Int):Xw prog (Zy prog 108) (PP l0 x1) (Zm prog 108 [(.dat l0.length (Zz l0)),(.int .i64 x1)] true []) (YX l0 x1):=(sl Zc 15 [(116,4,Zz ([]:List R4))] ⟨[0],[],u7g,u7h⟩ ⟨[(5,.grow 0 4)],[],[]⟩ [] (pp (fl ([]:List R4) nn) nn))
theorem u7f (l0:List R6) (x1:Int) (n:Nat) (vs:List B2) (h:Zo (NQ l0 x1) n (YX l0 x1)=.ret vs):Uj prog (Zy prog 108) (Zm prog 108 [(.dat l0.length (Zz l0)),(.int .i64 x1)] true []) vs:=by have:=Zb (v2l l0 x1) n _ (w2q l0 x1);rwa [h] at this
inductive JE where
 | h0 (v13:Int)
def RP (l0:List R2) (l1:List R2):JE->CB
 | .h0 v13=>⟨⟨26,0,true⟩,none,(Zg prog 159 [1,1,0,1,0,0] 0),none,(Zy prog 6),⟨Yj [(0,(.dat l0.length (Zz l0))),(1,(.dat l1.length (Zz l1))),(12,(ii (l0.length:Int))),(13,(ii v13))],Vk [] 0,0,[],true⟩,[],.leaf⟩
def Mw :List (Option (List Nat)):=[some [0,1,12,13]]
def Mx :List (Option (List Nat)):=[]
def NI (l0:List R2) (l1:List R2):JE->Xz JE
 | .h0 v13=>(bif (decide (v13<(l0.length:Int))) then (bif ((decide (0<=v13/\v13<(l0.length:Int)))&&true) then (bif ((decide (0<=v13/\v13<(l1.length:Int)))&&true) then (bif (!(((rd l0 v13.toNat).a == (rd l1 v13.toNat).a)&&(((rd l0 v13.toNat).b == (rd l1 v13.toNat).b)&&true))) then (.ret [(.bool false)]) else (.to (.h0 (wrap .i64 (v13+1))))) else .stuck) else .stuck) else (.ret [(.bool true)]))
def UH (l0:List R2) (l1:List R2):Xz JE:=(bif ((l0.length:Int) != (l1.length:Int)) then (.ret [(.bool false)]) else (.to (.h0 0)))
theorem v3z (l0:List R2) (l1:List R2): ∀s,Xw prog (Zy prog 159) (RP l0 l1) (RP l0 l1 s) (NI l0 l1 s)
 | .h0 v13=>(lb (fun k0=>(lo fun aE=>(lo fun bI=>let a:=ww bI (ww aE (tt k0 nn));(lb (fun k1=>(lr 26 159 [1,1,0,1,0,0,1,1,0,0,1,1,0,0] 1 6 [(4,(.bool false))] (sl Zc 21 [] (a8 [4]) a6 (bl 2 3) (tt k1 a)))) (fun k1=>(sl Zc 24 [] ⟨[],[],Mw,Mx⟩ a6 (bl 2 1) (tt k1 a))))))) (fun k0=>(lr 26 3 [1,1,1,1,0] 1 6 [(4,(.bool true))] (sl Zc 11 [] (a8 [4]) a6 [false] (tt k0 nn)))))
theorem w4z (l0:List R2) (l1:List R2):Xw prog (Zy prog 159) (RP l0 l1) (Zm prog 159 [(.dat l0.length (Zz l0)),(.dat l1.length (Zz l1))] true []) (UH l0 l1):=(lb (fun k0=>(lr 26 159 [1,0,1,0,0] 1 6 [(4,(.bool false))] (sl Zc 18 [] (a8 [4]) a6 [true] (tt k0 nn)))) (fun k0=>(sl Zc 24 [] ⟨[],[],Mw,Mx⟩ a6 [false] (tt k0 nn))))
theorem u9p (l0:List R2) (l1:List R2) (n:Nat) (vs:List B2) (h:Zo (NI l0 l1) n (UH l0 l1)=.ret vs):Uj prog (Zy prog 159) (Zm prog 159 [(.dat l0.length (Zz l0)),(.dat l1.length (Zz l1))] true []) vs:=by have:=Zb (v3z l0 l1) n _ (w4z l0 l1);rwa [h] at this
inductive JD where
 | h0 (v13:Int)
def RO (l0:List R4) (l1:List R4):JD->CB
 | .h0 v13=>⟨⟨26,0,true⟩,none,(Zg prog 163 [1,1,0,1,0,0] 0),none,(Zy prog 6),⟨Yj [(0,(.dat l0.length (Zz l0))),(1,(.dat l1.length (Zz l1))),(12,(ii (l0.length:Int))),(13,(ii v13))],Vk [] 0,0,[],true⟩,[],.leaf⟩
def Mu :List (Option (List Nat)):=[some [0,1,12,13]]
def Mv :List (Option (List Nat)):=[]
def NJ (l0:List R4) (l1:List R4):JD->Xz JD
 | .h0 v13=>(bif (decide (v13<(l0.length:Int))) then (bif ((decide (0<=v13/\v13<(l0.length:Int)))&&true) then (bif ((decide (0<=v13/\v13<(l1.length:Int)))&&true) then (bif (!(((rd l0 v13.toNat).a == (rd l1 v13.toNat).a)&&(((rd l0 v13.toNat).b == (rd l1 v13.toNat).b)&&(((rd l0 v13.toNat).c == (rd l1 v13.toNat).c)&&(((rd l0 v13.toNat).d == (rd l1 v13.toNat).d)&&true))))) then (.ret [(.bool false)]) else (.to (.h0 (wrap .i64 (v13+1))))) else .stuck) else .stuck) else (.ret [(.bool true)]))
def UI (l0:List R4) (l1:List R4):Xz JD:=(bif ((l0.length:Int) != (l1.length:Int)) then (.ret [(.bool false)]) else (.to (.h0 0)))
theorem v3y (l0:List R4) (l1:List R4): ∀s,Xw prog (Zy prog 163) (RO l0 l1) (RO l0 l1 s) (NJ l0 l1 s)
 | .h0 v13=>(lb (fun k0=>(lo fun aE=>(lo fun bI=>let a:=ww bI (ww aE (tt k0 nn));(lb (fun k1=>(lr 26 163 [1,1,0,1,0,0,1,1,0,0,1,1,0,0] 1 6 [(4,(.bool false))] (sl Zc 21 [] (a8 [4]) a6 (bl 2 3) (tt k1 a)))) (fun k1=>(sl Zc 24 [] ⟨[],[],Mu,Mv⟩ a6 (bl 2 1) (tt k1 a))))))) (fun k0=>(lr 26 3 [1,1,1,1,0] 1 6 [(4,(.bool true))] (sl Zc 11 [] (a8 [4]) a6 [false] (tt k0 nn)))))
theorem w4y (l0:List R4) (l1:List R4):Xw prog (Zy prog 163) (RO l0 l1) (Zm prog 163 [(.dat l0.length (Zz l0)),(.dat l1.length (Zz l1))] true []) (UI l0 l1):=(lb (fun k0=>(lr 26 163 [1,0,1,0,0] 1 6 [(4,(.bool false))] (sl Zc 18 [] (a8 [4]) a6 [true] (tt k0 nn)))) (fun k0=>(sl Zc 24 [] ⟨[],[],Mu,Mv⟩ a6 [false] (tt k0 nn))))
theorem u9o (l0:List R4) (l1:List R4) (n:Nat) (vs:List B2) (h:Zo (NJ l0 l1) n (UI l0 l1)=.ret vs):Uj prog (Zy prog 163) (Zm prog 163 [(.dat l0.length (Zz l0)),(.dat l1.length (Zz l1))] true []) vs:=by have:=Zb (v3y l0 l1) n _ (w4y l0 l1);rwa [h] at this
inductive JC where
 | h0 (v13:Int)
def RN (l0:List R6) (l1:List R6):JC->CB
 | .h0 v13=>⟨⟨26,0,true⟩,none,(Zg prog 94 [1,1,0,1,0,0] 0),none,(Zy prog 6),⟨Yj [(0,(.dat l0.length (Zz l0))),(1,(.dat l1.length (Zz l1))),(12,(ii (l0.length:Int))),(13,(ii v13))],Vk [] 0,0,[],true⟩,[],.leaf⟩
def Ms :List (Option (List Nat)):=[some [0,1,12,13]]
def Mt :List (Option (List Nat)):=[]
def NK (l0:List R6) (l1:List R6):JC->Xz JC
 | .h0 v13=>(bif (decide (v13<(l0.length:Int))) then (bif ((decide (0<=v13/\v13<(l0.length:Int)))&&true) then (bif ((decide (0<=v13/\v13<(l1.length:Int)))&&true) then (bif (!((((rd l0 v13.toNat).a == (rd l1 v13.toNat).a)&&(((rd l0 v13.toNat).b == (rd l1 v13.toNat).b)&&(((rd l0 v13.toNat).c == (rd l1 v13.toNat).c)&&true)))&&((((rd l0 v13.toNat).d == (rd l1 v13.toNat).d)&&(((rd l0 v13.toNat).e == (rd l1 v13.toNat).e)&&(((rd l0 v13.toNat).f == (rd l1 v13.toNat).f)&&true)))&&true))) then (.ret [(.bool false)]) else (.to (.h0 (wrap .i64 (v13+1))))) else .stuck) else .stuck) else (.ret [(.bool true)]))
def UJ (l0:List R6) (l1:List R6):Xz JC:=(bif ((l0.length:Int) != (l1.length:Int)) then (.ret [(.bool false)]) else (.to (.h0 0)))
theorem v3x (l0:List R6) (l1:List R6): ∀s,Xw prog (Zy prog 94) (RN l0 l1) (RN l0 l1 s) (NK l0 l1 s)
 | .h0 v13=>(lb (fun k0=>(lo fun aE=>(lo fun bI=>let a:=ww bI (ww aE (tt k0 nn));(lb (fun k1=>(lr 26 94 [1,1,0,1,0,0,1,1,0,0,1,1,0,0] 1 6 [(4,(.bool false))] (sl Zc 21 [] (a8 [4]) a6 (bl 2 3) (tt k1 a)))) (fun k1=>(sl Zc 24 [] ⟨[],[],Ms,Mt⟩ a6 (bl 2 1) (tt k1 a))))))) (fun k0=>(lr 26 3 [1,1,1,1,0] 1 6 [(4,(.bool true))] (sl Zc 11 [] (a8 [4]) a6 [false] (tt k0 nn)))))
theorem w4x (l0:List R6) (l1:List R6):Xw prog (Zy prog 94) (RN l0 l1) (Zm prog 94 [(.dat l0.length (Zz l0)),(.dat l1.length (Zz l1))] true []) (UJ l0 l1):=(lb (fun k0=>(lr 26 94 [1,0,1,0,0] 1 6 [(4,(.bool false))] (sl Zc 18 [] (a8 [4]) a6 [true] (tt k0 nn)))) (fun k0=>(sl Zc 24 [] ⟨[],[],Ms,Mt⟩ a6 [false] (tt k0 nn))))
theorem u9n (l0:List R6) (l1:List R6) (n:Nat) (vs:List B2) (h:Zo (NK l0 l1) n (UJ l0 l1)=.ret vs):Uj prog (Zy prog 94) (Zm prog 94 [(.dat l0.length (Zz l0)),(.dat l1.length (Zz l1))] true []) vs:=by have:=Zb (v3x l0 l1) n _ (w4x l0 l1);rwa [h] at this
inductive Io where
def Pp (x0:Int) (x1:Bool) (x2:Bool):Io->CB
 :=nofun
def w4g (x0:Int) (x1:Bool) (x2:Bool):Io->Xz Io
 :=nofun
def YN (x0:Int) (x1:Bool) (x2:Bool):Xz Io:=(bif (x0 == 1) then (bif x1 then (.ret [(.bool x2)]) else (.ret [(.bool false)])) else (bif (x0 == 2) then (bif x1 then (.ret [(.bool true)]) else (.ret [(.bool x2)])) else (bif x1 then (.ret [(.bool (!x2))]) else (.ret [(.bool false)]))))
theorem v3l (x0:Int) (x1:Bool) (x2:Bool): ∀s,Xw prog (Zy prog 129) (Pp x0 x1 x2) (Pp x0 x1 x2 s) (w4g x0 x1 x2 s)
 :=nofun
theorem w4h (x0:Int) (x1:Bool) (x2:Bool):Xw prog (Zy prog 129) (Pp x0 x1 x2) (Zm prog 129 [(.int .i64 x0),(.bool x1),(.bool x2)] true []) (YN x0 x1 x2):=(lb (fun k0=>(lb (fun k1=>(lr 24 129 [1,0,1,0,0] 1 3 [(6,(.bool x2))] (sl Zc 19 [] (a8 [6]) a6 (bl 2 3) (tt k1 (tt k0 nn))))) (fun k1=>(lr 24 129 [1,0,1,0,0] 1 3 [(6,(.bool false))] (sl Zc 19 [] (a8 [6]) a6 (bl 2 1) (tt k1 (tt k0 nn))))))) (fun k0=>(lb (fun k1=>let a:=tt k1 (tt k0 nn);(lb (fun k2=>(lr 24 129 [1,1,0,1,0,0] 1 3 [(6,(.bool true))] (sl Zc 27 [] (a8 [6]) a6 (bl 3 6) (tt k2 a)))) (fun k2=>(lr 24 129 [1,1,0,1,0,0] 1 3 [(6,(.bool x2))] (sl Zc 27 [] (a8 [6]) a6 (bl 3 2) (tt k2 a)))))) (fun k1=>let b:=tt k1 (tt k0 nn);(lb (fun k2=>(lr 24 3 [1,1,1,1,0] 1 3 [(6,(.bool (!x2)))] (sl Zc 29 [] (a8 [6]) a6 (bl 4 12) (tt k2 b)))) (fun k2=>(lr 24 3 [1,1,1,1,0] 1 3 [(6,(.bool false))] (sl Zc 29 [] (a8 [6]) a6 (bl 4 0) (tt k2 b)))))))))
theorem u8w (x0:Int) (x1:Bool) (x2:Bool) (n:Nat) (vs:List B2) (h:Zo (w4g x0 x1 x2) n (YN x0 x1 x2)=.ret vs):Uj prog (Zy prog 129) (Zm prog 129 [(.int .i64 x0),(.bool x1),(.bool x2)] true []) vs:=by have:=Zb (v3l x0 x1 x2) n _ (w4h x0 x1 x2);rwa [h] at this
inductive Iq where
def Ps (x0:Bool) (x1:Bool):Iq->CB
 :=nofun
def w4j (x0:Bool) (x1:Bool):Iq->Xz Iq
 :=nofun
def x5l (x0:Bool) (x1:Bool):Xz Iq:=(.ret [(.bool x0)])
theorem v3n (x0:Bool) (x1:Bool): ∀s,Xw prog (Zy prog 180) (Ps x0 x1) (Ps x0 x1 s) (w4j x0 x1 s)
 :=nofun
theorem w4k (x0:Bool) (x1:Bool):Xw prog (Zy prog 180) (Ps x0 x1) (Zm prog 180 [(.bool x0),(.bool x1)] true []) (x5l x0 x1):=(lr 6 3 [1,1,1,1,0] 1 6 [(4,(.bool x0))] (sl Zc 9 [] (a8 [4]) a6 [] nn))
theorem u8x (x0:Bool) (x1:Bool) (n:Nat) (vs:List B2) (h:Zo (w4j x0 x1) n (x5l x0 x1)=.ret vs):Uj prog (Zy prog 180) (Zm prog 180 [(.bool x0),(.bool x1)] true []) vs:=by have:=Zb (v3n x0 x1) n _ (w4k x0 x1);rwa [h] at this
theorem Yy {a b:Int} (h:a<b):decide (a<b)=true:=Al h
theorem Yh {a b:Int} (h: ¬a<b):decide (a<b)=false:=Av h
theorem Wj {a b:Int} (h:a<=b):decide (a<=b)=true:=Al h
theorem Nx {a b:Int} (h: ¬a<=b):decide (a<=b)=false:=Av h
theorem Yt {a b:Int} (h:a>b):decide (a>b)=true:=Al h
theorem Wu {a b:Int} (h: ¬a>b):decide (a>b)=false:=Av h
theorem WN {a b:Int} (h:a>=b):decide (a>=b)=true:=Al h
theorem Yu {a b:Nat} (h:a<b):decide (a<b)=true:=Al h
theorem Yd {a b:Nat} (h:a<=b):decide (a<=b)=true:=Al h
theorem Yk {a b:Nat} (h:a=b):decide (a=b)=true:=Al h
theorem Yz {a b:Int} (h:0<=a/\a<b):decide (0<=a/\a<b)=true:=Al h
theorem Zh {a:Nat} (h:a<=1099511627776):decide (a<=CF)=true:=Al h
theorem Zj {n:Int} (h: -9223372036854775808<=n/\n<=9223372036854775807):wrap .i64 n=n:=w_in h.1 h.2
theorem Du :((0:Nat):Int)=0:=rfl
theorem Zw (i:Nat):(i:Int)+1=((i+1:Nat):Int):=rfl
theorem Yx (i:Nat):((i+1:Nat):Int) - 1=(i:Int):=by omega
theorem C4 {a b:Int} (h:a≠b):(a != b)=true:=by simp [h]
theorem C3 {a b:Int} (h:a=b):(a != b)=false:=by simp [h]
theorem beq_t' {a b:Int} (h:a=b):(a == b)=true:=by simp [h]
theorem j6o {a b:Int} (h:a≠b):(a == b)=false:=by simp [h]
theorem Yc (n:Nat):Nat.beq n n=true:=Nat.beq_refl n
theorem Zk (n:Nat):Int.toNat (n:Int)=n:=Int.toNat_natCast n
theorem Zs (b:Bool):b=true\/b=false:=by cases b <;> simp
theorem Yg {α:Type} [Xc α] {L:List α} {i:Nat} (h:i<L.length):L.drop i=rd L i::L.drop (i+1):=by rw [Yo h];exact BA h
theorem Qn {P:Program} {S:B4} (hS:Zv P S) {f:FuncId} {F:List B2->Option (B2×Bool)} (hf:(P.funcs[f]?).any (fun fn=>fn.body.isSome)=true)
  (hF: ∀args v,F args=some (v,true)-> ∃bs vs,Vi Di args bs/\Ut vs=v/\Uj P (Zy P f) (Zm P f bs true []) vs/\ ∃d,pf d v=true):Zv P (S.with f F):=w9z hS hf hF
def Eo (out:List Int) (x:Int):Nat->Nat
 | 0=>0
 | k+1=>bif decide (rd out k>x) then Eo out x k else k+1
def Dy (out:List Int) (x:Int):List Int:=
 match Eo out x out.length with
 | 0=>x::out
 | k+1=>bif rd out k == x then out else out.take (k+1)++x::out.drop (k+1)
def Cd (l:List Int):List Int:=l.foldl Dy []
def J9 (l:List Int):Bool:=decide (l.length<=1000000)
theorem y9a (out:List Int) (x:Int):(Dy out x).length <=out.length+1:=by grind [Dy]
theorem x8f (out:List Int) (x:Int) (k:Nat) (hk:k<=out.length):
  (Gj (out++[0]) (k+1) (Nat.min (out.length+1 - k) (out.length+1 - (k+1))) (Wy (out++[0]) k (out.length+1 - k))).set k x=out.take k++x::out.drop k:=by
 have hm:Nat.min (out.length+1 - k) (out.length+1 - (k+1))=out.length - k:=by
  grind
 rw [hm];apply BJ
 .simp [XU];omega
 .intro i h1 h2;have hi:i<out.length+1:=by grind
  rw [<-Yo h1,<-Yo h2]
  grind [w7x,Yo,v8u,j0e,j0d,x4t]
theorem w7k (l:List Int) (out:List Int) (i:Nat) (hi:i<l.length) (hl:l.length<=1000000) (ho:out.length<=i): ∀(k N:Nat),k<=out.length->
  (Eo out (rd l i) out.length=Eo out (rd l i) k)-> ∃m,∀N,Zo (Uo l) (N+m) (.to (.h1 out (i:Int) (k:Int)))=Zo (Uo l) N (.to (.h0 (Dy out (rd l i)) ((i+1:Nat):Int)))
 | 0,N,hk,hp=>by
  refine ⟨1,fun N=> ?_⟩;have hins:Dy out (rd l i)=(Gj (out++[0]) (0+1) (Nat.min (out.length+1 - 0) (out.length+1 - (0+1))) (Wy (out++[0]) 0 (out.length+1 - 0))).set 0 (rd l i):=by rw [x8f out _ 0 (AA _)];unfold Dy;rw [hp];rfl
  rw [hins,Zx];simp (disch:=omega) only [Uo,Zh,Ao,Wu,Yy,Wj,Yu,Yd,Yk,Yz,Zj,Zw,Yc,Zk,Af,Ah,Ai,Ab,Aa]
 | k +1,N,hk,hp=>by
  rcases Zs (decide (rd out k>rd l i)) with h | h
  .have hp':Eo out (rd l i) out.length=Eo out (rd l i) k:=by grind [Eo]
   obtain ⟨m,hm⟩:=w7k l out i hi hl ho k N (by omega) hp';refine ⟨m+1,fun N=> ?_⟩;rw [<-hm N,<-AD,Zx];simp (disch:=omega) only [Uo,Yx,h,Zh,Ao,Yt,Yy,Wj,Yu,Yd,Yk,Yz,Zj,Zw,Yc,Zk,Af,Ah,Ai,Ab,Aa]
  .have hpk:Eo out (rd l i) out.length=k+1:=by rw [hp];unfold Eo;rw [h];rfl
   refine ⟨1,fun N=> ?_⟩;rw [Zx];rcases Zs (rd out k == rd l i) with q | q
   .have hins:Dy out (rd l i)=out:=(by grind [Dy]);rw [hins];simp (disch:=omega) only [Uo,Yx,h,q,Zh,Ao,Yt,Yy,Wj,Yu,Yd,Yk,Yz,Zj,Zw,Yc,Zk,Af,Ah,Ai,Ab,Aa]
   .have hins:Dy out (rd l i)=(Gj (out++[0]) (k+1+1) (Nat.min (out.length+1 - (k+1)) (out.length+1 - (k+1+1))) (Wy (out++[0]) (k+1) (out.length+1 - (k+1)))).set (k+1) (rd l i):=by
     rw [x8f out _ (k+1) hk]
     grind [Dy]
    rw [hins];simp (disch:=omega) only [Uo,Yx,h,q,Zh,Ao,Yt,Yy,Wj,Yu,Yd,Yk,Yz,Zj,Zw,Yc,Zk,Af,Ah,Ai,Ab,Aa]
theorem w7l (l:List Int) (hl:l.length<=1000000): ∀(k i:Nat) (out:List Int),i+k=l.length->out.length<=i-> ∃m,Zo (Uo l) m (.to (.h0 out (i:Int)))=.ret [.dat ((l.drop i).foldl Dy out).length (Zz ((l.drop i).foldl Dy out))]
 | 0,i,out,h,ho=>by refine ⟨1,?_⟩;rw [Zx];simp (disch:=omega) only [Uo,Yh,Aa];rw [As (by omega)];rfl
 | k+1,i,out,h,ho=>by
  obtain ⟨m1,h1⟩:=w7k l out i (by omega) hl ho out.length 0 (Aq _) rfl;obtain ⟨m2,h2⟩:=w7l l hl k (i+1) (Dy out (rd l i)) (by omega) (AF (y9a _ _) (by omega));refine ⟨m2+m1+1,?_⟩
  grind [Zx,Uo,Yg]
theorem v7v (l:List Int) (h:J9 l=true): ∃N,Zo (Uo l) N (XR l)=.ret [.dat (Cd l).length (Zz (Cd l))]:=by
 have:=w7l l (Az h) l.length 0 [] (by omega) (Aq _)
 simpa [XR,Cd] using this
theorem Zn (n:Nat):Int.toNat ((n:Int) - 1)=n - 1:=by omega
theorem u7k (x y:R2):((x.a == y.a)&&(x.b == y.b))=decide (x=y):=by
 obtain ⟨a,b⟩:=x;obtain ⟨c,d⟩:=y
 grind
theorem u7j (x y:R4):((x.a == y.a)&&((x.b == y.b)&&((x.c == y.c)&&(x.d == y.d))))=decide (x=y):=by
 obtain ⟨a,b,c,d⟩:=x;obtain ⟨e,f,g,h⟩:=y
 grind
theorem u7i (x y:R6):(((x.a == y.a)&&((x.b == y.b)&&(x.c == y.c)))&&((x.d == y.d)&&((x.e == y.e)&&(x.f == y.f))))=decide (x=y):=by
 obtain ⟨a,b,c,d,e,f⟩:=x;obtain ⟨a',b',c',d',e',f'⟩:=y
 grind
def EW (l m:List R2):Bool:=decide (l=m)
def Uw (l m:List R4):Bool:=decide (l=m)
def E6 (l m:List R6):Bool:=decide (l=m)
def Uf (l m:List R2):Bool:=decide (l.length<=1000000)
def Wg (l m:List R4):Bool:=decide (l.length<=1000000)
def Kn (l m:List R6):Bool:=decide (l.length<=1000000)
theorem SE {α:Type} [DecidableEq α] (x y:α) (l m:List α):decide (x::l=y::m)=(decide (x=y)&&decide (l=m)):=by grind
theorem j3k (l m:List R2) (hl:l.length<=1000000) (hm:l.length=m.length): ∀(k i:Nat),i+k=l.length-> ∃N,Zo (NU l m) N (.to (.h0 (i:Int)))=.ret [.bool (decide (l.drop i=m.drop i))]
 | 0,i,h=>by refine ⟨1,?_⟩;rw [Zx,As (show l.length<=i by omega),As (show m.length<=i by omega)];simp (disch:=omega) only [NU,Wu,Yt,Yy,Yh,Wj,Yu,Yd,Yk,Yz,Zj,Zh,C4,C3,Ao,Zw,Yx,Zn,Yc,Zk,Af,Ah,Ai,Ab,Aa,Ay,AB,Zp]
 | k+1,i,h=>by
  obtain ⟨N,hN⟩:=j3k l m hl hm k (i+1) (by omega);refine ⟨N+1,?_⟩;rw [Zx,Yg (show i<l.length by omega),Yg (show i<m.length by omega),SE];rcases Zs (decide (rd l i=rd m i)) with q | q
  .simp (disch:=omega) only [NU,u7k,q,Wu,Yt,Yy,Yh,Wj,Yu,Yd,Yk,Yz,Zj,Zh,C4,C3,Ao,Zw,Yx,Zn,Yc,Zk,Af,Ah,Ai,Ab,Aa,Ay,AB,Zp];exact hN
  .simp (disch:=omega) only [NU,u7k,q,Wu,Yt,Yy,Yh,Wj,Yu,Yd,Yk,Yz,Zj,Zh,C4,C3,Ao,Zw,Yx,Zn,Yc,Zk,Af,Ah,Ai,Ab,Aa,Ay,AB,Zp,Be]
theorem j9q (l m:List R2) (h:Uf l m=true): ∃N,Zo (NU l m) N (Td l m)=.ret [.bool (EW l m)]:=by
 have hl:l.length<=1000000:=Az h;by_cases hm:l.length=m.length
 .obtain ⟨N,hN⟩:=j3k l m hl hm l.length 0 (Af _);refine ⟨N,?_⟩;unfold Td;rw [C3 (show (l.length:Int)=(m.length:Nat) by omega)];exact hN
 .refine ⟨0,?_⟩;unfold Td;rw [C4 (show (l.length:Int)≠(m.length:Nat) by omega)];have:EW l m=false:=Av fun e=>hm (by rw [e]);rw [this];rfl
theorem j3i (l m:List R4) (hl:l.length<=1000000) (hm:l.length=m.length): ∀(k i:Nat),i+k=l.length-> ∃N,Zo (NW l m) N (.to (.h0 (i:Int)))=.ret [.bool (decide (l.drop i=m.drop i))]
 | 0,i,h=>by refine ⟨1,?_⟩;rw [Zx,As (show l.length<=i by omega),As (show m.length<=i by omega)];simp (disch:=omega) only [NW,Wu,Yt,Yy,Yh,Wj,Yu,Yd,Yk,Yz,Zj,Zh,C4,C3,Ao,Zw,Yx,Zn,Yc,Zk,Af,Ah,Ai,Ab,Aa,Ay,AB,Zp]
 | k+1,i,h=>by
  obtain ⟨N,hN⟩:=j3i l m hl hm k (i+1) (by omega);refine ⟨N+1,?_⟩;rw [Zx,Yg (show i<l.length by omega),Yg (show i<m.length by omega),SE];rcases Zs (decide (rd l i=rd m i)) with q | q
  .simp (disch:=omega) only [NW,u7j,q,Wu,Yt,Yy,Yh,Wj,Yu,Yd,Yk,Yz,Zj,Zh,C4,C3,Ao,Zw,Yx,Zn,Yc,Zk,Af,Ah,Ai,Ab,Aa,Ay,AB,Zp];exact hN
  .simp (disch:=omega) only [NW,u7j,q,Wu,Yt,Yy,Yh,Wj,Yu,Yd,Yk,Yz,Zj,Zh,C4,C3,Ao,Zw,Yx,Zn,Yc,Zk,Af,Ah,Ai,Ab,Aa,Ay,AB,Zp,Be]
theorem j9o (l m:List R4) (h:Wg l m=true): ∃N,Zo (NW l m) N (Te l m)=.ret [.bool (Uw l m)]:=by
 have hl:l.length<=1000000:=Az h;by_cases hm:l.length=m.length
 .obtain ⟨N,hN⟩:=j3i l m hl hm l.length 0 (Af _);refine ⟨N,?_⟩;unfold Te;rw [C3 (show (l.length:Int)=(m.length:Nat) by omega)];exact hN
 .refine ⟨0,?_⟩;unfold Te;rw [C4 (show (l.length:Int)≠(m.length:Nat) by omega)];have:Uw l m=false:=Av fun e=>hm (by rw [e]);rw [this];rfl
theorem j3l (l m:List R6) (hl:l.length<=1000000) (hm:l.length=m.length): ∀(k i:Nat),i+k=l.length-> ∃N,Zo (NT l m) N (.to (.h0 (i:Int)))=.ret [.bool (decide (l.drop i=m.drop i))]
 | 0,i,h=>by refine ⟨1,?_⟩;rw [Zx,As (show l.length<=i by omega),As (show m.length<=i by omega)];simp (disch:=omega) only [NT,Wu,Yt,Yy,Yh,Wj,Yu,Yd,Yk,Yz,Zj,Zh,C4,C3,Ao,Zw,Yx,Zn,Yc,Zk,Af,Ah,Ai,Ab,Aa,Ay,AB,Zp]
 | k+1,i,h=>by
  obtain ⟨N,hN⟩:=j3l l m hl hm k (i+1) (by omega);refine ⟨N+1,?_⟩;rw [Zx,Yg (show i<l.length by omega),Yg (show i<m.length by omega),SE];rcases Zs (decide (rd l i=rd m i)) with q | q
  .simp (disch:=omega) only [NT,u7i,q,Wu,Yt,Yy,Yh,Wj,Yu,Yd,Yk,Yz,Zj,Zh,C4,C3,Ao,Zw,Yx,Zn,Yc,Zk,Af,Ah,Ai,Ab,Aa,Ay,AB,Zp];exact hN
  .simp (disch:=omega) only [NT,u7i,q,Wu,Yt,Yy,Yh,Wj,Yu,Yd,Yk,Yz,Zj,Zh,C4,C3,Ao,Zw,Yx,Zn,Yc,Zk,Af,Ah,Ai,Ab,Aa,Ay,AB,Zp,Be]
theorem j9r (l m:List R6) (h:Kn l m=true): ∃N,Zo (NT l m) N (Tc l m)=.ret [.bool (E6 l m)]:=by
 have hl:l.length<=1000000:=Az h;by_cases hm:l.length=m.length
 .obtain ⟨N,hN⟩:=j3l l m hl hm l.length 0 (Af _);refine ⟨N,?_⟩;unfold Tc;rw [C3 (show (l.length:Int)=(m.length:Nat) by omega)];exact hN
 .refine ⟨0,?_⟩;unfold Tc;rw [C4 (show (l.length:Int)≠(m.length:Nat) by omega)];have:E6 l m=false:=Av fun e=>hm (by rw [e]);rw [this];rfl
theorem j6g (l m:List R2) (hl:l.length<=1000000) (hm:l.length=m.length): ∀(k i:Nat),i+k=l.length-> ∃N,Zo (NI l m) N (.to (.h0 (i:Int)))=.ret [.bool (decide (l.drop i=m.drop i))]
 | 0,i,h=>by refine ⟨1,?_⟩;rw [Zx,As (show l.length<=i by omega),As (show m.length<=i by omega)];simp (disch:=omega) only [NI,Wu,Yt,Yy,Yh,Wj,Yu,Yd,Yk,Yz,Zj,Zh,C4,C3,Ao,Zw,Yx,Zn,Yc,Zk,Af,Ah,Ai,Ab,Aa,Ay,AB,Zp]
 | k+1,i,h=>by
  obtain ⟨N,hN⟩:=j6g l m hl hm k (i+1) (by omega);refine ⟨N+1,?_⟩;rw [Zx,Yg (show i<l.length by omega),Yg (show i<m.length by omega),SE];rcases Zs (decide (rd l i=rd m i)) with q | q
  .simp (disch:=omega) only [NI,u7k,q,Wu,Yt,Yy,Yh,Wj,Yu,Yd,Yk,Yz,Zj,Zh,C4,C3,Ao,Zw,Yx,Zn,Yc,Zk,Af,Ah,Ai,Ab,Aa,Ay,AB,Zp];exact hN
  .simp (disch:=omega) only [NI,u7k,q,Wu,Yt,Yy,Yh,Wj,Yu,Yd,Yk,Yz,Zj,Zh,C4,C3,Ao,Zw,Yx,Zn,Yc,Zk,Af,Ah,Ai,Ab,Aa,Ay,AB,Zp,Be]
theorem t4m (l m:List R2) (h:Uf l m=true): ∃N,Zo (NI l m) N (UH l m)=.ret [.bool (EW l m)]:=by
 have hl:l.length<=1000000:=Az h;by_cases hm:l.length=m.length
 .obtain ⟨N,hN⟩:=j6g l m hl hm l.length 0 (Af _);refine ⟨N,?_⟩;unfold UH;rw [C3 (show (l.length:Int)=(m.length:Nat) by omega)];exact hN
 .refine ⟨0,?_⟩;unfold UH;rw [C4 (show (l.length:Int)≠(m.length:Nat) by omega)];have:EW l m=false:=Av fun e=>hm (by rw [e]);rw [this];rfl
theorem j6f (l m:List R4) (hl:l.length<=1000000) (hm:l.length=m.length): ∀(k i:Nat),i+k=l.length-> ∃N,Zo (NJ l m) N (.to (.h0 (i:Int)))=.ret [.bool (decide (l.drop i=m.drop i))]
 | 0,i,h=>by refine ⟨1,?_⟩;rw [Zx,As (show l.length<=i by omega),As (show m.length<=i by omega)];simp (disch:=omega) only [NJ,Wu,Yt,Yy,Yh,Wj,Yu,Yd,Yk,Yz,Zj,Zh,C4,C3,Ao,Zw,Yx,Zn,Yc,Zk,Af,Ah,Ai,Ab,Aa,Ay,AB,Zp]
 | k+1,i,h=>by
  obtain ⟨N,hN⟩:=j6f l m hl hm k (i+1) (by omega);refine ⟨N+1,?_⟩;rw [Zx,Yg (show i<l.length by omega),Yg (show i<m.length by omega),SE];rcases Zs (decide (rd l i=rd m i)) with q | q
  .simp (disch:=omega) only [NJ,u7j,q,Wu,Yt,Yy,Yh,Wj,Yu,Yd,Yk,Yz,Zj,Zh,C4,C3,Ao,Zw,Yx,Zn,Yc,Zk,Af,Ah,Ai,Ab,Aa,Ay,AB,Zp];exact hN
  .simp (disch:=omega) only [NJ,u7j,q,Wu,Yt,Yy,Yh,Wj,Yu,Yd,Yk,Yz,Zj,Zh,C4,C3,Ao,Zw,Yx,Zn,Yc,Zk,Af,Ah,Ai,Ab,Aa,Ay,AB,Zp,Be]
theorem t4l (l m:List R4) (h:Wg l m=true): ∃N,Zo (NJ l m) N (UI l m)=.ret [.bool (Uw l m)]:=by
 have hl:l.length<=1000000:=Az h;by_cases hm:l.length=m.length
 .obtain ⟨N,hN⟩:=j6f l m hl hm l.length 0 (Af _);refine ⟨N,?_⟩;unfold UI;rw [C3 (show (l.length:Int)=(m.length:Nat) by omega)];exact hN
 .refine ⟨0,?_⟩;unfold UI;rw [C4 (show (l.length:Int)≠(m.length:Nat) by omega)];have:Uw l m=false:=Av fun e=>hm (by rw [e]);rw [this];rfl
theorem j6e (l m:List R6) (hl:l.length<=1000000) (hm:l.length=m.length): ∀(k i:Nat),i+k=l.length-> ∃N,Zo (NK l m) N (.to (.h0 (i:Int)))=.ret [.bool (decide (l.drop i=m.drop i))]
 | 0,i,h=>by refine ⟨1,?_⟩;rw [Zx,As (show l.length<=i by omega),As (show m.length<=i by omega)];simp (disch:=omega) only [NK,Wu,Yt,Yy,Yh,Wj,Yu,Yd,Yk,Yz,Zj,Zh,C4,C3,Ao,Zw,Yx,Zn,Yc,Zk,Af,Ah,Ai,Ab,Aa,Ay,AB,Zp]
 | k+1,i,h=>by
  obtain ⟨N,hN⟩:=j6e l m hl hm k (i+1) (by omega);refine ⟨N+1,?_⟩;rw [Zx,Yg (show i<l.length by omega),Yg (show i<m.length by omega),SE];rcases Zs (decide (rd l i=rd m i)) with q | q
  .simp (disch:=omega) only [NK,u7i,q,Wu,Yt,Yy,Yh,Wj,Yu,Yd,Yk,Yz,Zj,Zh,C4,C3,Ao,Zw,Yx,Zn,Yc,Zk,Af,Ah,Ai,Ab,Aa,Ay,AB,Zp];exact hN
  .simp (disch:=omega) only [NK,u7i,q,Wu,Yt,Yy,Yh,Wj,Yu,Yd,Yk,Yz,Zj,Zh,C4,C3,Ao,Zw,Yx,Zn,Yc,Zk,Af,Ah,Ai,Ab,Aa,Ay,AB,Zp,Be]
theorem t4k (l m:List R6) (h:Kn l m=true): ∃N,Zo (NK l m) N (UJ l m)=.ret [.bool (E6 l m)]:=by
 have hl:l.length<=1000000:=Az h;by_cases hm:l.length=m.length
 .obtain ⟨N,hN⟩:=j6e l m hl hm l.length 0 (Af _);refine ⟨N,?_⟩;unfold UJ;rw [C3 (show (l.length:Int)=(m.length:Nat) by omega)];exact hN
 .refine ⟨0,?_⟩;unfold UJ;rw [C4 (show (l.length:Int)≠(m.length:Nat) by omega)];have:E6 l m=false:=Av fun e=>hm (by rw [e]);rw [this];rfl
def Po (x y:Int) (r:R4):Bool:=decide (r.a<=x)&&(decide (x<r.c)&&(decide (r.b<=y)&&decide (y<r.d)))
def EL (l:List R4) (x y:Int):Bool:=l.any (Po x y)
def SX (l:List R4) (x y:Int):Bool:=decide (l.length<=1000000)
theorem v8i (l:List R4) (x y:Int) (hl:l.length<=1000000): ∀(k i:Nat),i+k=l.length-> ∃N,Zo (SJ l x y) N (.to (.h0 (i:Int)))=.ret [.bool ((l.drop i).any (Po x y))]
 | 0,i,h=>by refine ⟨1,?_⟩;rw [Zx,As (show l.length<=i by omega)];simp (disch:=omega) only [SJ,Wu,Yt,Yy,Yh,Wj,Yu,Yd,Yk,Yz,Zj,Zh,C4,C3,Ao,Zw,Yx,Zn,Yc,Zk,Af,Ah,Ai,Ab,Aa,Ay,AB,Zp];rfl
 | k+1,i,h=>by
  obtain ⟨N,hN⟩:=v8i l x y hl k (i+1) (by omega);refine ⟨N+1,?_⟩;rw [Zx,Yg (show i<l.length by omega),BS];unfold Po at hN ⊢;rcases Zs (decide ((rd l i).a <=x)) with q1 | q1 <;> rcases Zs (decide (x<(rd l i).c)) with q2 | q2 <;> rcases Zs (decide ((rd l i).b <=y)) with q3 | q3 <;> rcases Zs (decide (y<(rd l i).d)) with q4 | q4 <;>
   simp (disch:=omega) only [SJ,q1,q2,q3,q4,Wu,Yt,Yy,Yh,Wj,Yu,Yd,Yk,Yz,Zj,Zh,C4,C3,Ao,Zw,Yx,Zn,Yc,Zk,Af,Ah,Ai,Ab,Aa,Ay,AB,Zp,Be,Bool.and_false,Bool.false_or,Bool.true_or] <;> exact hN
theorem u6m (l:List R4) (x y:Int) (h:SX l x y=true): ∃N,Zo (SJ l x y) N (XB l x y)=.ret [.bool (EL l x y)]:=by
 have:=v8i l x y (Az h) l.length 0 (Af _)
 simpa [XB,EL] using this
def on6 (z:Int) (b:R6):Bool:=decide (b.c<=z)&&decide (z<b.f)
def t2i (b:R6):R4:=⟨b.a,b.b,b.d,b.e⟩
def CQ (l:List R6) (z:Int):List R4:=(l.filter (on6 z)).map t2i
def SC (l:List R6) (z:Int):Bool:=decide (l.length<=1000000)
theorem v9d (l:List R6) (z:Int) (hl:l.length<=1000000): ∀(k i:Nat) (out:List R4),i+k=l.length->out.length<=i-> ∃N,Zo (NQ l z) N (.to (.h0 out (i:Int)))=.ret [.dat (out++CQ (l.drop i) z).length (Zz (out++CQ (l.drop i) z))]
 | 0,i,out,h,ho=>by refine ⟨1,?_⟩;rw [Zx,As (show l.length<=i by omega)];simp (disch:=omega) only [NQ,Wu,Yt,Yy,Yh,Wj,Yu,Yd,Yk,Yz,Zj,Zh,C4,C3,Ao,Zw,Yx,Zn,Yc,Zk,Af,Ah,Ai,Ab,Aa,Ay,AB,Zp,CQ,List.filter_nil,Bi,AE]
 | k+1,i,out,h,ho=>by
  rw [Yg (show i<l.length by omega)];have e:CQ (rd l i::l.drop (i+1)) z=(bif on6 z (rd l i) then [t2i (rd l i)] else [])++CQ (l.drop (i+1)) z:=by
   grind [CQ]
  rw [e,<-AM];rcases Zs (decide ((rd l i).c <=z)) with q1 | q1 <;> rcases Zs (decide (z<(rd l i).f)) with q2 | q2
  .obtain ⟨N,hN⟩:=v9d l z hl k (i+1) (out++[t2i (rd l i)]) (by omega) (by simp;omega);refine ⟨N+1,?_⟩;rw [Zx];simp (disch:=omega) only [NQ,q1,q2,on6,Wu,Yt,Yy,Yh,Wj,Yu,Yd,Yk,Yz,Zj,Zh,C4,C3,Ao,Zw,Yx,Zn,Yc,Zk,Af,Ah,Ai,Ab,Aa,Ay,AB,Zp];exact hN
  all_goals
   obtain ⟨N,hN⟩:=v9d l z hl k (i+1) out (by omega) (by omega);refine ⟨N+1,?_⟩;rw [Zx];simp (disch:=omega) only [NQ,q1,q2,on6,Wu,Yt,Yy,Yh,Wj,Yu,Yd,Yk,Yz,Zj,Zh,C4,C3,Ao,Zw,Yx,Zn,Yc,Zk,Af,Ah,Ai,Ab,Aa,Ay,AB,Zp,Be,Bool.and_false,AE];exact hN
theorem t0u (l:List R6) (z:Int) (h:SC l z=true): ∃N,Zo (NQ l z) N (YX l z)=.ret [.dat (CQ l z).length (Zz (CQ l z))]:=by
 have:=v9d l z (Az h) l.length 0 [] (Af _) (Aq _)
 simpa [YX] using this
def GM (cuts:List Int) (ins:List Bool):Nat->Nat->List R2->List R2
 | 0,_,out=>out
 | k+1,i,out=>GM cuts ins k (i+1) (bif rd ins i then (bif decide (0<out.length)&&((rd out (out.length - 1)).b == rd cuts i) then out.set (out.length - 1) ⟨(rd out (out.length - 1)).a,rd cuts (i+1)⟩ else out++[⟨rd cuts i,rd cuts (i+1)⟩]) else out)
def DV (cuts:List Int) (ins:List Bool):List R2:=GM cuts ins (cuts.length - 1) 0 []
def Z0 (cuts:List Int) (ins:List Bool):Bool:=decide (cuts.length<=1000000/\cuts.length<=ins.length+1)
theorem x4u (cuts:List Int) (ins:List Bool) (hl:cuts.length<=1000000) (hi:cuts.length<=ins.length+1): ∀(k i:Nat) (out:List R2),k=cuts.length - 1 - i->i<=cuts.length->out.length<=i-> ∃N,Zo (H5 cuts ins) N (.to (.h0 out (i:Int)))=.ret [.dat (GM cuts ins k i out).length (Zz (GM cuts ins k i out))]
 | 0,i,out,h,hi2,ho=>by refine ⟨1,?_⟩;rw [Zx];simp (disch:=omega) only [H5,Wu,Yt,Yy,Yh,Wj,Yu,Yd,Yk,Yz,Zj,Zh,C4,C3,Ao,Zw,Yx,Zn,Yc,Zk,Af,Ah,Ai,Ab,Aa,Ay,AB,Zp,GM]
 | k+1,i,out,h,hi2,ho=>by
  unfold GM;rcases Zs (rd ins i) with q | q
  .rcases Zs (decide (0<out.length)&&((rd out (out.length - 1)).b == rd cuts i)) with q2 | q2
   .obtain ⟨N,hN⟩:=x4u cuts ins hl hi k (i+1) (out.set (out.length - 1) ⟨(rd out (out.length - 1)).a,rd cuts (i+1)⟩) (by omega) (by omega) (by simp;omega);refine ⟨N+1,?_⟩;rw [Zx,q,q2];simp only [Ae,Ar] at q2;simp (disch:=omega) only [H5,q,q2.2,Wu,Yt,Yy,Yh,Wj,Yu,Yd,Yk,Yz,Zj,Zh,C4,C3,Ao,Zw,Yx,Zn,Yc,Zk,Af,Ah,Ai,Ab,Aa,Ay,AB,Zp];exact hN
   .obtain ⟨N,hN⟩:=x4u cuts ins hl hi k (i+1) (out++[⟨rd cuts i,rd cuts (i+1)⟩]) (by omega) (by omega) (by simp;omega);refine ⟨N+1,?_⟩;rw [Zx,q,q2];by_cases h0:0<out.length
    .rw [Al h0,Ai] at q2;simp (disch:=omega) only [H5,q,q2,Wu,Yt,Yy,Yh,Wj,Yu,Yd,Yk,Yz,Zj,Zh,C4,C3,Ao,Zw,Yx,Zn,Yc,Zk,Af,Ah,Ai,Ab,Aa,Ay,AB,Zp];exact hN
    .simp (disch:=omega) only [H5,q,Wu,Yt,Yy,Yh,Wj,Yu,Yd,Yk,Yz,Zj,Zh,C4,C3,Ao,Zw,Yx,Zn,Yc,Zk,Af,Ah,Ai,Ab,Aa,Ay,AB,Zp];exact hN
  .obtain ⟨N,hN⟩:=x4u cuts ins hl hi k (i+1) out (by omega) (by omega) (by omega);refine ⟨N+1,?_⟩;rw [Zx,q];simp (disch:=omega) only [H5,q,Wu,Yt,Yy,Yh,Wj,Yu,Yd,Yk,Yz,Zj,Zh,C4,C3,Ao,Zw,Yx,Zn,Yc,Zk,Af,Ah,Ai,Ab,Aa,Ay,AB,Zp];exact hN
theorem u7e (cuts:List Int) (ins:List Bool) (h:Z0 cuts ins=true): ∃N,Zo (H5 cuts ins) N (Z9 cuts ins)=.ret [.dat (DV cuts ins).length (Zz (DV cuts ins))]:=by
 obtain ⟨h1,h2⟩:=Az h;have:=x4u cuts ins h1 h2 (cuts.length - 1) 0 [] (by omega) (AA _) (Aq _)
 simpa [Z9,DV] using this
abbrev v9v :Nat:=124
abbrev j5n :Nat:=131
abbrev j5e :Nat:=132
abbrev j5l :Nat:=129
abbrev M2 :Nat:=130
abbrev j5d :Nat:=109
abbrev nXs :Nat:=127
abbrev nYs :Nat:=128
abbrev j5k :Nat:=89
abbrev j5c :Nat:=22
abbrev nAt :Nat:=108
abbrev M6 :Nat:=107
abbrev j5j :Nat:=77
abbrev u0d :Nat:=59
abbrev V9 :Nat:=159
abbrev V8 :Nat:=163
abbrev V7 :Nat:=94
abbrev j4z :Nat:=193
abbrev w8n :Nat:=194
abbrev MZ :Nat:=111
abbrev w8p :Nat:=113
abbrev V6 :Nat:=180
abbrev x7u :Nat:=156
abbrev w8l :Nat:=83
abbrev u0c :Nat:=117
abbrev w8j :Nat:=116
abbrev w8h :Nat:=92
abbrev v9y :Nat:=68
abbrev x7v :Nat:=52
-- not there: gambrel/gambrellaw28.valid
abbrev w8g :Nat:=160
abbrev VZ :Nat:=164
abbrev V0 :Nat:=133
abbrev V1 :Nat:=123
abbrev nSpU :Nat:=149
abbrev nSpE :Nat:=90
abbrev nSpD :Nat:=85
abbrev w8k :Nat:=157
abbrev nRgU :Nat:=110
abbrev nRgE :Nat:=51
abbrev nRgD :Nat:=48
abbrev nSlU :Nat:=78
abbrev nSlE :Nat:=39
abbrev nSlD :Nat:=33
abbrev v9x :Nat:=74
abbrev v9w :Nat:=35
abbrev j5a :Nat:=63
-- not there: gambrel/detail.Distance
abbrev u0g :Nat:=38
-- not there: gambrel/detail.Level
abbrev M5 :Nat:=72
-- not there: gambrel/gambrelref39.Distance
abbrev u0f :Nat:=69
abbrev j5i :Nat:=36
abbrev j5g :Nat:=70
-- not there: gambrel/mesh.Volume
abbrev j5h :Nat:=101
-- not there: gambrel/gambrellaw19.alive
def KD (k:Int) (a b:Bool):Bool:=bif k == 1 then a&&b else bif k == 2 then a||b else a&& !b
def FH (a b:Bool):Bool:=a
theorem t2f (k:Int) (a b:Bool): ∃N,Zo (w4g k a b) N (YN k a b)=.ret [.bool (KD k a b)]:=by refine ⟨0,?_⟩;unfold YN KD;cases a <;> cases b <;> rcases Zs (k == 1) with q | q <;> rcases Zs (k == 2) with q2 | q2 <;> rw [q] <;> (try rw [q2]) <;> rfl
theorem t2g (a b:Bool): ∃N,Zo (w4j a b) N (x5l a b)=.ret [.bool (FH a b)]:=⟨0,rfl⟩
def QE :List B2->Option (B2×Bool)
 | [a0]=>match CS Int a0 with
  | some (L0,g0,n0)=>some (.dat (Cd L0).length (Zz (Cd L0)),CO Int n0 g0&&(J9 L0))
  | _=>none
 | _=>none
theorem t2t {S:B4} (hS:Zv prog S):Zv prog (S.with v9v QE):=by
 refine Qn hS (by kernel_rfl) fun args v h=> ?_;unfold QE at h;split at h
 .rename_i a0;split at h
  .rename_i L0 g0 n0 e0;simp only [Ad,Ac,Ae] at h;obtain ⟨rfl,ho0,hw⟩:=h;obtain ⟨N,hN⟩:=v7v L0 hw;exact ⟨_,_,(.cons (Yn e0 ho0) .nil),rfl,v1r L0 N _ hN,3,rfl⟩
  .cases h
 .cases h
def RI :List B2->Option (B2×Bool)
 | [a0,a1]=>match CS Int a0,CS Bool a1 with
  | some (L0,g0,n0),some (L1,g1,n1)=>some (.dat (DV L0 L1).length (Zz (DV L0 L1)),CO Int n0 g0&&(CO Bool n1 g1&&(Z0 L0 L1)))
  | _,_=>none
 | _=>none
theorem t4g {S:B4} (hS:Zv prog S):Zv prog (S.with j5n RI):=by
 refine Qn hS (by kernel_rfl) fun args v h=> ?_;unfold RI at h;split at h
 .rename_i a0 a1;split at h
  .rename_i L0 g0 n0 L1 g1 n1 e0 e1;simp only [Ad,Ac,Ae] at h;obtain ⟨rfl,ho0,ho1,hw⟩:=h;obtain ⟨N,hN⟩:=u7e L0 L1 hw;exact ⟨_,_,(.cons (Yn e0 ho0) (.cons (Yn e1 ho1) .nil)),rfl,v9c L0 L1 N _ hN,3,rfl⟩
  .cases h
 .cases h
def Sq :List B2->Option (B2×Bool)
 | [a0,a1]=>match CS R2 a0,CS R2 a1 with
  | some (L0,g0,n0),some (L1,g1,n1)=>some (.bool (EW L0 L1),CO R2 n0 g0&&(CO R2 n1 g1&&(Uf L0 L1)))
  | _,_=>none
 | _=>none
theorem u1s {S:B4} (hS:Zv prog S):Zv prog (S.with j5e Sq):=by
 refine Qn hS (by kernel_rfl) fun args v h=> ?_;unfold Sq at h;split at h
 .rename_i a0 a1;split at h
  .rename_i L0 g0 n0 L1 g1 n1 e0 e1;simp only [Ad,Ac,Ae] at h;obtain ⟨rfl,ho0,ho1,hw⟩:=h;obtain ⟨N,hN⟩:=j9q L0 L1 hw;exact ⟨_,_,(.cons (Yn e0 ho0) (.cons (Yn e1 ho1) .nil)),rfl,u6a L0 L1 N _ hN,3,rfl⟩
  .cases h
 .cases h
def Sr :List B2->Option (B2×Bool)
 | [a0,a1]=>match CS R4 a0,CS R4 a1 with
  | some (L0,g0,n0),some (L1,g1,n1)=>some (.bool (Uw L0 L1),CO R4 n0 g0&&(CO R4 n1 g1&&(Wg L0 L1)))
  | _,_=>none
 | _=>none
theorem u1r {S:B4} (hS:Zv prog S):Zv prog (S.with j5d Sr):=by
 refine Qn hS (by kernel_rfl) fun args v h=> ?_;unfold Sr at h;split at h
 .rename_i a0 a1;split at h
  .rename_i L0 g0 n0 L1 g1 n1 e0 e1;simp only [Ad,Ac,Ae] at h;obtain ⟨rfl,ho0,ho1,hw⟩:=h;obtain ⟨N,hN⟩:=j9o L0 L1 hw;exact ⟨_,_,(.cons (Yn e0 ho0) (.cons (Yn e1 ho1) .nil)),rfl,u5y L0 L1 N _ hN,3,rfl⟩
  .cases h
 .cases h
def Ss :List B2->Option (B2×Bool)
 | [a0,a1]=>match CS R6 a0,CS R6 a1 with
  | some (L0,g0,n0),some (L1,g1,n1)=>some (.bool (E6 L0 L1),CO R6 n0 g0&&(CO R6 n1 g1&&(Kn L0 L1)))
  | _,_=>none
 | _=>none
theorem u1q {S:B4} (hS:Zv prog S):Zv prog (S.with j5c Ss):=by
 refine Qn hS (by kernel_rfl) fun args v h=> ?_;unfold Ss at h;split at h
 .rename_i a0 a1;split at h
  .rename_i L0 g0 n0 L1 g1 n1 e0 e1;simp only [Ad,Ac,Ae] at h;obtain ⟨rfl,ho0,ho1,hw⟩:=h;obtain ⟨N,hN⟩:=j9r L0 L1 hw;exact ⟨_,_,(.cons (Yn e0 ho0) (.cons (Yn e1 ho1) .nil)),rfl,u6b L0 L1 N _ hN,3,rfl⟩
  .cases h
 .cases h
def t3w :List B2->Option (B2×Bool)
 | [a0,.int .i64 x1,.int .i64 x2]=>match CS R4 a0 with
  | some (L0,g0,n0)=>some (.bool (EL L0 x1 x2),CO R4 n0 g0&&(SX L0 x1 x2))
  | _=>none
 | _=>none
theorem u9j {S:B4} (hS:Zv prog S):Zv prog (S.with M2 t3w):=by
 refine Qn hS (by kernel_rfl) fun args v h=> ?_;unfold t3w at h;split at h
 .rename_i a0 x1 x2;split at h
  .rename_i L0 g0 n0 e0;simp only [Ad,Ac,Ae] at h;obtain ⟨rfl,ho0,hw⟩:=h;obtain ⟨N,hN⟩:=u6m L0 x1 x2 hw;exact ⟨_,_,(.cons (Yn e0 ho0) (.cons (.refl _) (.cons (.refl _) .nil))),rfl,v8j L0 x1 x2 N _ hN,3,rfl⟩
  .cases h
 .cases h
def fAt :List B2->Option (B2×Bool)
 | [a0,.int .i64 x1]=>match CS R6 a0 with
  | some (L0,g0,n0)=>some (.dat (CQ L0 x1).length (Zz (CQ L0 x1)),CO R6 n0 g0&&(SC L0 x1))
  | _=>none
 | _=>none
theorem RK {S:B4} (hS:Zv prog S):Zv prog (S.with nAt fAt):=by
 refine Qn hS (by kernel_rfl) fun args v h=> ?_;unfold fAt at h;split at h
 .rename_i a0 x1;split at h
  .rename_i L0 g0 n0 e0;simp only [Ad,Ac,Ae] at h;obtain ⟨rfl,ho0,hw⟩:=h;obtain ⟨N,hN⟩:=t0u L0 x1 hw;exact ⟨_,_,(.cons (Yn e0 ho0) (.cons (.refl _) .nil)),rfl,u7f L0 x1 N _ hN,3,rfl⟩
  .cases h
 .cases h
def u1z :List B2->Option (B2×Bool)
 | [.int .i64 x0,.bool b1,.bool b2]=>some (.bool (KD x0 b1 b2),true)
 | _=>none
theorem u1y {S:B4} (hS:Zv prog S):Zv prog (S.with j5l u1z):=by
 refine Qn hS (by kernel_rfl) fun args v h=> ?_;unfold u1z at h;split at h
 .rename_i x0 b1 b2;simp only [Ad,Ac,Bh] at h;subst h;obtain ⟨N,hN⟩:=t2f x0 b1 b2;exact ⟨_,_,(.cons (.refl _) (.cons (.refl _) (.cons (.refl _) .nil))),rfl,u8w x0 b1 b2 N _ hN,3,rfl⟩
 .cases h
def Q8 :List B2->Option (B2×Bool)
 | [.bool b0,.bool b1]=>some (.bool (FH b0 b1),true)
 | _=>none
theorem t3x {S:B4} (hS:Zv prog S):Zv prog (S.with V6 Q8):=by
 refine Qn hS (by kernel_rfl) fun args v h=> ?_;unfold Q8 at h;split at h
 .rename_i b0 b1;simp only [Ad,Ac,Bh] at h;subst h;obtain ⟨N,hN⟩:=t2g b0 b1;exact ⟨_,_,(.cons (.refl _) (.cons (.refl _) .nil)),rfl,u8x b0 b1 N _ hN,3,rfl⟩
 .cases h
theorem v3w {S:B4} (hS:Zv prog S):Zv prog (S.with V9 Sq):=by
 refine Qn hS (by kernel_rfl) fun args v h=> ?_;unfold Sq at h;split at h
 .rename_i a0 a1;split at h
  .rename_i L0 g0 n0 L1 g1 n1 e0 e1;simp only [Ad,Ac,Ae] at h;obtain ⟨rfl,ho0,ho1,hw⟩:=h;obtain ⟨N,hN⟩:=t4m L0 L1 hw;exact ⟨_,_,(.cons (Yn e0 ho0) (.cons (Yn e1 ho1) .nil)),rfl,u9p L0 L1 N _ hN,3,rfl⟩
  .cases h
 .cases h
theorem v3v {S:B4} (hS:Zv prog S):Zv prog (S.with V8 Sr):=by
 refine Qn hS (by kernel_rfl) fun args v h=> ?_;unfold Sr at h;split at h
 .rename_i a0 a1;split at h
  .rename_i L0 g0 n0 L1 g1 n1 e0 e1;simp only [Ad,Ac,Ae] at h;obtain ⟨rfl,ho0,ho1,hw⟩:=h;obtain ⟨N,hN⟩:=t4l L0 L1 hw;exact ⟨_,_,(.cons (Yn e0 ho0) (.cons (Yn e1 ho1) .nil)),rfl,u9o L0 L1 N _ hN,3,rfl⟩
  .cases h
 .cases h
theorem v3u {S:B4} (hS:Zv prog S):Zv prog (S.with V7 Ss):=by
 refine Qn hS (by kernel_rfl) fun args v h=> ?_;unfold Ss at h;split at h
 .rename_i a0 a1;split at h
  .rename_i L0 g0 n0 L1 g1 n1 e0 e1;simp only [Ad,Ac,Ae] at h;obtain ⟨rfl,ho0,ho1,hw⟩:=h;obtain ⟨N,hN⟩:=t4k L0 L1 hw;exact ⟨_,_,(.cons (Yn e0 ho0) (.cons (Yn e1 ho1) .nil)),rfl,u9n L0 L1 N _ hN,3,rfl⟩
  .cases h
 .cases h
def T1 :B4:=((((((((((((FR.with v9v QE).with j5n RI).with j5e Sq).with j5d Sr).with j5c Ss).with M2 t3w).with nAt fAt).with j5l u1z).with V6 Q8).with V9 Sq).with V8 Sr).with V7 Ss)
theorem EB :Zv prog T1:=v3u (v3v (v3w (t3x (u1y (RK (u9j (u1q (u1r (u1s (t4g (t2t Zc)))))))))))
inductive IP where
 | h0 (v5:List Int) (v6:Int)
 | h1 (v5:List Int) (v7:Int)
def Ow (l0:List R4) (l1:List R4):IP->CB
 | .h0 v5 v6=>⟨⟨48,0,true⟩,none,(Zg prog 127 [1,1,0,1,0,0] 0),none,(Zy prog 6),⟨Yj [(0,(.dat l0.length (Zz l0))),(1,(.dat l1.length (Zz l1))),(5,(.sla 0 1 0 v5.length (.un 1))),(6,(ii v6))],Vk [⟨Ya v5.length (Zz v5),3,some ⟨1,v5.length,(Zz v5)⟩⟩] 0,1,[],true⟩,[],.leaf⟩
 | .h1 v5 v7=>⟨⟨48,0,true⟩,none,(Zg prog 127 [1,1,1,0,1,0,0] 0),none,(Zy prog 6),⟨Yj [(1,(.dat l1.length (Zz l1))),(5,(.sla 0 1 0 v5.length (.un 1))),(7,(ii v7))],Vk [⟨Ya v5.length (Zz v5),3,some ⟨1,v5.length,(Zz v5)⟩⟩] 0,1,[],true⟩,[],.leaf⟩
def Li :List (Option (List Nat)):=[some [0,1,5,6]]
def Lk :List (Option (List Nat)):=[]
def Lh :List (Option (List Nat)):=[some [1,5,7]]
def Lj :List (Option (List Nat)):=[]
def H1 (l0:List R4) (l1:List R4):IP->Xz IP
 | .h0 v5 v6=>(bif (decide (v6<(l0.length:Int))) then (bif ((decide (0<=v6/\v6<(l0.length:Int)))&&true) then (bif (Nat.beq 1 1&&((decide (0+v5.length=v5.length))&&decide ((v5.length+2+1)*(8+1)<=CF))) then (.to (.h0 (v5++[(rd l0 v6.toNat).a,(rd l0 v6.toNat).c]) (wrap .i64 (v6+1)))) else .stuck) else .stuck) else (.to (.h1 v5 0)))
 | .h1 v5 v7=>(bif (decide (v7<(l1.length:Int))) then (bif ((decide (0<=v7/\v7<(l1.length:Int)))&&true) then (bif (Nat.beq 1 1&&((decide (0+v5.length=v5.length))&&decide ((v5.length+2+1)*(8+1)<=CF))) then (.to (.h1 (v5++[(rd l1 v7.toNat).a,(rd l1 v7.toNat).c]) (wrap .i64 (v7+1)))) else .stuck) else .stuck) else (bif (J9 (B3 v5)) then (.ret [(.dat (Cd (B3 v5)).length (Zz (Cd (B3 v5))))]) else .stuck))
def ZA (l0:List R4) (l1:List R4):Xz IP:=(.to (.h0 ([]:List Int) 0))
theorem v1n (l0:List R4) (l1:List R4): ∀s,Xw prog (Zy prog 127) (Ow l0 l1) (Ow l0 l1 s) (H1 l0 l1 s)
 | .h0 v5 v6=>(lb (fun k0=>(lo fun o0=>(lo fun o1=>let e:=rd l0 (tn v6);let b:=v5++[e.a,e.c];let d:=xL (v5.length+2) (v5++[(rd l0 (tn v6)).a,(rd l0 (tn v6)).c]).length;(sl EB 20 [] ⟨[2],[],Li,Lk⟩ ⟨[(5,.len b.length)],[.rowed 1 b.length (Zz b)],[]⟩ [true] (pp d (pp d (pp (xS (v5.length+2) (Zt (Zz v5) 0 v5.length 1 [(ii (rd l0 (tn v6)).a),(ii (rd l0 (tn v6)).c)]) (Zz (v5++[(rd l0 (tn v6)).a,(rd l0 (tn v6)).c]))) (pp (pp (xF (Zt (Zz v5) 0 v5.length 1 [(ii (rd l0 (tn v6)).a),(ii (rd l0 (tn v6)).c)])) nn) (ww o1 (ww o0 (ww o0 (tt k0 nn)))))))))))) (fun k0=>(sl EB 17 [] ⟨[0],[],Lh,Lj⟩ a6 [false] (pp (fl v5 nn) (tt k0 nn)))))
 | .h1 v5 v7=>(lb (fun k0=>(lo fun o0=>(lo fun o1=>let e:=rd l1 (tn v7);let b:=v5++[e.a,e.c];let d:=xL (v5.length+2) (v5++[(rd l1 (tn v7)).a,(rd l1 (tn v7)).c]).length;(sl EB 20 [] ⟨[2],[],Lh,Lj⟩ ⟨[(5,.len b.length)],[.rowed 1 b.length (Zz b)],[]⟩ [true] (pp d (pp d (pp (xS (v5.length+2) (Zt (Zz v5) 0 v5.length 1 [(ii (rd l1 (tn v7)).a),(ii (rd l1 (tn v7)).c)]) (Zz (v5++[(rd l1 (tn v7)).a,(rd l1 (tn v7)).c]))) (pp (pp (xF (Zt (Zz v5) 0 v5.length 1 [(ii (rd l1 (tn v7)).a),(ii (rd l1 (tn v7)).c)])) nn) (ww o1 (ww o0 (ww o0 (tt k0 nn)))))))))))) (fun k0=>(Xh (sl EB (C':=⟨⟨48,0,true⟩,(Vm prog 127 [1,1,1,1,0] 1),(Zg prog 127 [1,1,1,1,0] 1),none,(Zy prog 6),⟨Yj [(46,(.dat v5.length (Zz v5)))],Vk [] 0,0,[],true⟩,[],.leaf⟩) 13 [] ⟨[],[0],[some [46]],[]⟩ ⟨[(46,.frz v5.length v5.length (Zz v5) (Zz v5))],[],[]⟩ [false] (pp (xZ (Cm 1 1 0 v5.length v5.length (Zz v5)) v5.length (Zz v5)) (pp (xL v5.length v5.length) (pp (xS v5.length (Zz v5) (Zz v5)) (pp (fl v5 nn) (tt k0 nn)))))) (lo fun o0=>let f:=Cd (B3 v5);(lr 48 3 [1,1,1,1,0] 1 6 [(4,(.dat f.length (Zz f)))] (sl EB 3 [] (a8 [4]) a6 [] (pp (pp (xr v5) (xw o0)) nn)))))))
theorem w1h (l0:List R4) (l1:List R4):Xw prog (Zy prog 127) (Ow l0 l1) (Zm prog 127 [(.dat l0.length (Zz l0)),(.dat l1.length (Zz l1))] true []) (ZA l0 l1):=(sl EB 15 [(3,1,Zz ([]:List Int))] ⟨[0],[],Li,Lk⟩ ⟨[(5,.grow 0 1)],[],[]⟩ [] (pp (fl ([]:List Int) nn) nn))
theorem u5w (l0:List R4) (l1:List R4) (n:Nat) (vs:List B2) (h:Zo (H1 l0 l1) n (ZA l0 l1)=.ret vs):Uj prog (Zy prog 127) (Zm prog 127 [(.dat l0.length (Zz l0)),(.dat l1.length (Zz l1))] true []) vs:=by have:=Zb (v1n l0 l1) n _ (w1h l0 l1);rwa [h] at this
inductive IN where
 | h0 (v5:List Int) (v6:Int)
 | h1 (v5:List Int) (v7:Int)
def Ov (l0:List R4) (l1:List R4):IN->CB
 | .h0 v5 v6=>⟨⟨48,0,true⟩,none,(Zg prog 128 [1,1,0,1,0,0] 0),none,(Zy prog 6),⟨Yj [(0,(.dat l0.length (Zz l0))),(1,(.dat l1.length (Zz l1))),(5,(.sla 0 1 0 v5.length (.un 1))),(6,(ii v6))],Vk [⟨Ya v5.length (Zz v5),3,some ⟨1,v5.length,(Zz v5)⟩⟩] 0,1,[],true⟩,[],.leaf⟩
 | .h1 v5 v7=>⟨⟨48,0,true⟩,none,(Zg prog 128 [1,1,1,0,1,0,0] 0),none,(Zy prog 6),⟨Yj [(1,(.dat l1.length (Zz l1))),(5,(.sla 0 1 0 v5.length (.un 1))),(7,(ii v7))],Vk [⟨Ya v5.length (Zz v5),3,some ⟨1,v5.length,(Zz v5)⟩⟩] 0,1,[],true⟩,[],.leaf⟩
def Le :List (Option (List Nat)):=[some [0,1,5,6]]
def Lg :List (Option (List Nat)):=[]
def Ld :List (Option (List Nat)):=[some [1,5,7]]
def Lf :List (Option (List Nat)):=[]
def H2 (l0:List R4) (l1:List R4):IN->Xz IN
 | .h0 v5 v6=>(bif (decide (v6<(l0.length:Int))) then (bif ((decide (0<=v6/\v6<(l0.length:Int)))&&true) then (bif (Nat.beq 1 1&&((decide (0+v5.length=v5.length))&&decide ((v5.length+2+1)*(8+1)<=CF))) then (.to (.h0 (v5++[(rd l0 v6.toNat).b,(rd l0 v6.toNat).d]) (wrap .i64 (v6+1)))) else .stuck) else .stuck) else (.to (.h1 v5 0)))
 | .h1 v5 v7=>(bif (decide (v7<(l1.length:Int))) then (bif ((decide (0<=v7/\v7<(l1.length:Int)))&&true) then (bif (Nat.beq 1 1&&((decide (0+v5.length=v5.length))&&decide ((v5.length+2+1)*(8+1)<=CF))) then (.to (.h1 (v5++[(rd l1 v7.toNat).b,(rd l1 v7.toNat).d]) (wrap .i64 (v7+1)))) else .stuck) else .stuck) else (bif (J9 (B3 v5)) then (.ret [(.dat (Cd (B3 v5)).length (Zz (Cd (B3 v5))))]) else .stuck))
def ZB (l0:List R4) (l1:List R4):Xz IN:=(.to (.h0 ([]:List Int) 0))
theorem v1m (l0:List R4) (l1:List R4): ∀s,Xw prog (Zy prog 128) (Ov l0 l1) (Ov l0 l1 s) (H2 l0 l1 s)
 | .h0 v5 v6=>(lb (fun k0=>(lo fun o0=>(lo fun o1=>let e:=rd l0 (tn v6);let a:=v5++[e.b,e.d];let c:=xL (v5.length+2) (v5++[(rd l0 (tn v6)).b,(rd l0 (tn v6)).d]).length;(sl EB 20 [] ⟨[2],[],Le,Lg⟩ ⟨[(5,.len a.length)],[.rowed 1 a.length (Zz a)],[]⟩ [true] (pp c (pp c (pp (xS (v5.length+2) (Zt (Zz v5) 0 v5.length 1 [(ii (rd l0 (tn v6)).b),(ii (rd l0 (tn v6)).d)]) (Zz (v5++[(rd l0 (tn v6)).b,(rd l0 (tn v6)).d]))) (pp (pp (xF (Zt (Zz v5) 0 v5.length 1 [(ii (rd l0 (tn v6)).b),(ii (rd l0 (tn v6)).d)])) nn) (ww o1 (ww o0 (ww o0 (tt k0 nn)))))))))))) (fun k0=>(sl EB 17 [] ⟨[0],[],Ld,Lf⟩ a6 [false] (pp (fl v5 nn) (tt k0 nn)))))
 | .h1 v5 v7=>(lb (fun k0=>(lo fun o0=>(lo fun o1=>let e:=rd l1 (tn v7);let a:=v5++[e.b,e.d];let c:=xL (v5.length+2) (v5++[(rd l1 (tn v7)).b,(rd l1 (tn v7)).d]).length;(sl EB 20 [] ⟨[2],[],Ld,Lf⟩ ⟨[(5,.len a.length)],[.rowed 1 a.length (Zz a)],[]⟩ [true] (pp c (pp c (pp (xS (v5.length+2) (Zt (Zz v5) 0 v5.length 1 [(ii (rd l1 (tn v7)).b),(ii (rd l1 (tn v7)).d)]) (Zz (v5++[(rd l1 (tn v7)).b,(rd l1 (tn v7)).d]))) (pp (pp (xF (Zt (Zz v5) 0 v5.length 1 [(ii (rd l1 (tn v7)).b),(ii (rd l1 (tn v7)).d)])) nn) (ww o1 (ww o0 (ww o0 (tt k0 nn)))))))))))) (fun k0=>(Xh (sl EB (C':=⟨⟨48,0,true⟩,(Vm prog 128 [1,1,1,1,0] 1),(Zg prog 128 [1,1,1,1,0] 1),none,(Zy prog 6),⟨Yj [(46,(.dat v5.length (Zz v5)))],Vk [] 0,0,[],true⟩,[],.leaf⟩) 13 [] ⟨[],[0],[some [46]],[]⟩ ⟨[(46,.frz v5.length v5.length (Zz v5) (Zz v5))],[],[]⟩ [false] (pp (xZ (Cm 1 1 0 v5.length v5.length (Zz v5)) v5.length (Zz v5)) (pp (xL v5.length v5.length) (pp (xS v5.length (Zz v5) (Zz v5)) (pp (fl v5 nn) (tt k0 nn)))))) (lo fun o0=>let f:=Cd (B3 v5);(lr 48 3 [1,1,1,1,0] 1 6 [(4,(.dat f.length (Zz f)))] (sl EB 3 [] (a8 [4]) a6 [] (pp (pp (xr v5) (xw o0)) nn)))))))
theorem w1g (l0:List R4) (l1:List R4):Xw prog (Zy prog 128) (Ov l0 l1) (Zm prog 128 [(.dat l0.length (Zz l0)),(.dat l1.length (Zz l1))] true []) (ZB l0 l1):=(sl EB 15 [(3,1,Zz ([]:List Int))] ⟨[0],[],Le,Lg⟩ ⟨[(5,.grow 0 1)],[],[]⟩ [] (pp (fl ([]:List Int) nn) nn))
theorem u5v (l0:List R4) (l1:List R4) (n:Nat) (vs:List B2) (h:Zo (H2 l0 l1) n (ZB l0 l1)=.ret vs):Uj prog (Zy prog 128) (Zm prog 128 [(.dat l0.length (Zz l0)),(.dat l1.length (Zz l1))] true []) vs:=by have:=Zb (v1m l0 l1) n _ (w1g l0 l1);rwa [h] at this
inductive FL where
 | h0 (v5:List Int) (v6:Int)
 | h1 (v5:List Int) (v7:Int)
def t0p (l0:List R6) (l1:List R6):FL->CB
 | .h0 v5 v6=>⟨⟨52,0,true⟩,none,(Zg prog 107 [1,1,0,1,0,0] 0),none,(Zy prog 6),⟨Yj [(0,(.dat l0.length (Zz l0))),(1,(.dat l1.length (Zz l1))),(5,(.sla 0 1 0 v5.length (.un 1))),(6,(ii v6))],Vk [⟨Ya v5.length (Zz v5),3,some ⟨1,v5.length,(Zz v5)⟩⟩] 0,1,[],true⟩,[],.leaf⟩
 | .h1 v5 v7=>⟨⟨52,0,true⟩,none,(Zg prog 107 [1,1,1,0,1,0,0] 0),none,(Zy prog 6),⟨Yj [(1,(.dat l1.length (Zz l1))),(5,(.sla 0 1 0 v5.length (.un 1))),(7,(ii v7))],Vk [⟨Ya v5.length (Zz v5),3,some ⟨1,v5.length,(Zz v5)⟩⟩] 0,1,[],true⟩,[],.leaf⟩
def j4n :List (Option (List Nat)):=[some [0,1,5,6]]
def j4p :List (Option (List Nat)):=[]
def j4m :List (Option (List Nat)):=[some [1,5,7]]
def j4o :List (Option (List Nat)):=[]
def H6 (l0:List R6) (l1:List R6):FL->Xz FL
 | .h0 v5 v6=>(bif (decide (v6<(l0.length:Int))) then (bif ((decide (0<=v6/\v6<(l0.length:Int)))&&true) then (bif (Nat.beq 1 1&&((decide (0+v5.length=v5.length))&&decide ((v5.length+2+1)*(8+1)<=CF))) then (.to (.h0 (v5++[(rd l0 v6.toNat).c,(rd l0 v6.toNat).f]) (wrap .i64 (v6+1)))) else .stuck) else .stuck) else (.to (.h1 v5 0)))
 | .h1 v5 v7=>(bif (decide (v7<(l1.length:Int))) then (bif ((decide (0<=v7/\v7<(l1.length:Int)))&&true) then (bif (Nat.beq 1 1&&((decide (0+v5.length=v5.length))&&decide ((v5.length+2+1)*(8+1)<=CF))) then (.to (.h1 (v5++[(rd l1 v7.toNat).c,(rd l1 v7.toNat).f]) (wrap .i64 (v7+1)))) else .stuck) else .stuck) else (bif (J9 (B3 v5)) then (.ret [(.dat (Cd (B3 v5)).length (Zz (Cd (B3 v5))))]) else .stuck))
def y0b (l0:List R6) (l1:List R6):Xz FL:=(.to (.h0 ([]:List Int) 0))
theorem w2l (l0:List R6) (l1:List R6): ∀s,Xw prog (Zy prog 107) (t0p l0 l1) (t0p l0 l1 s) (H6 l0 l1 s)
 | .h0 v5 v6=>(lb (fun k0=>(lo fun o0=>(lo fun o1=>let d:=rd l0 (tn v6);let a:=v5++[d.c,d.f];let b:=xL (v5.length+2) (v5++[(rd l0 (tn v6)).c,(rd l0 (tn v6)).f]).length;(sl EB 20 [] ⟨[2],[],j4n,j4p⟩ ⟨[(5,.len a.length)],[.rowed 1 a.length (Zz a)],[]⟩ [true] (pp b (pp b (pp (xS (v5.length+2) (Zt (Zz v5) 0 v5.length 1 [(ii (rd l0 (tn v6)).c),(ii (rd l0 (tn v6)).f)]) (Zz (v5++[(rd l0 (tn v6)).c,(rd l0 (tn v6)).f]))) (pp (pp (xF (Zt (Zz v5) 0 v5.length 1 [(ii (rd l0 (tn v6)).c),(ii (rd l0 (tn v6)).f)])) nn) (ww o1 (ww o0 (ww o0 (tt k0 nn)))))))))))) (fun k0=>(sl EB 17 [] ⟨[0],[],j4m,j4o⟩ a6 [false] (pp (fl v5 nn) (tt k0 nn)))))
 | .h1 v5 v7=>(lb (fun k0=>(lo fun o0=>(lo fun o1=>let d:=rd l1 (tn v7);let a:=v5++[d.c,d.f];let b:=xL (v5.length+2) (v5++[(rd l1 (tn v7)).c,(rd l1 (tn v7)).f]).length;(sl EB 20 [] ⟨[2],[],j4m,j4o⟩ ⟨[(5,.len a.length)],[.rowed 1 a.length (Zz a)],[]⟩ [true] (pp b (pp b (pp (xS (v5.length+2) (Zt (Zz v5) 0 v5.length 1 [(ii (rd l1 (tn v7)).c),(ii (rd l1 (tn v7)).f)]) (Zz (v5++[(rd l1 (tn v7)).c,(rd l1 (tn v7)).f]))) (pp (pp (xF (Zt (Zz v5) 0 v5.length 1 [(ii (rd l1 (tn v7)).c),(ii (rd l1 (tn v7)).f)])) nn) (ww o1 (ww o0 (ww o0 (tt k0 nn)))))))))))) (fun k0=>(Xh (sl EB (C':=⟨⟨52,0,true⟩,(Vm prog 107 [1,1,1,1,0] 1),(Zg prog 107 [1,1,1,1,0] 1),none,(Zy prog 6),⟨Yj [(50,(.dat v5.length (Zz v5)))],Vk [] 0,0,[],true⟩,[],.leaf⟩) 13 [] ⟨[],[0],[some [50]],[]⟩ ⟨[(50,.frz v5.length v5.length (Zz v5) (Zz v5))],[],[]⟩ [false] (pp (xZ (Cm 1 1 0 v5.length v5.length (Zz v5)) v5.length (Zz v5)) (pp (xL v5.length v5.length) (pp (xS v5.length (Zz v5) (Zz v5)) (pp (fl v5 nn) (tt k0 nn)))))) (lo fun o0=>let e:=Cd (B3 v5);(lr 52 3 [1,1,1,1,0] 1 6 [(4,(.dat e.length (Zz e)))] (sl EB 3 [] (a8 [4]) a6 [] (pp (pp (xr v5) (xw o0)) nn)))))))
theorem x7h (l0:List R6) (l1:List R6):Xw prog (Zy prog 107) (t0p l0 l1) (Zm prog 107 [(.dat l0.length (Zz l0)),(.dat l1.length (Zz l1))] true []) (y0b l0 l1):=(sl EB 15 [(3,1,Zz ([]:List Int))] ⟨[0],[],j4n,j4p⟩ ⟨[(5,.grow 0 1)],[],[]⟩ [] (pp (fl ([]:List Int) nn) nn))
theorem v8y (l0:List R6) (l1:List R6) (n:Nat) (vs:List B2) (h:Zo (H6 l0 l1) n (y0b l0 l1)=.ret vs):Uj prog (Zy prog 107) (Zm prog 107 [(.dat l0.length (Zz l0)),(.dat l1.length (Zz l1))] true []) vs:=by have:=Zb (w2l l0 l1) n _ (x7h l0 l1);rwa [h] at this
def EE (l:List R4):List Int:=l.flatMap fun r=>[r.a,r.c]
def Dl (l:List R4):List Int:=l.flatMap fun r=>[r.b,r.d]
def EF (l:List R6):List Int:=l.flatMap fun r=>[r.c,r.f]
def CN (l m:List R4):List Int:=Cd (EE l++EE m)
def ZW (l m:List R4):Bool:=decide (l.length<=10000/\m.length<=10000)
theorem z5t (l:List R4):(EE l).length =2*l.length:=by
 induction l with
 | nil=>rfl
 | cons r l ih=>grind [EE]
theorem x0u (l:List R4) (i:Nat) (h:i<l.length):EE (l.drop i)=EE [rd l i]++EE (l.drop (i+1)):=by rw [Yg h];rfl
theorem j3g (l m:List R4) (hl:l.length<=10000) (hm:m.length<=10000): ∀(k i:Nat) (out:List Int),i+k=m.length->out.length=2*l.length+2*i-> ∃N,Zo (H1 l m) N (.to (.h1 out (i:Int)))=.ret [.dat (Cd (out++EE (m.drop i))).length (Zz (Cd (out++EE (m.drop i))))]
 | 0,i,out,h,ho=>by refine ⟨1,?_⟩;have hw:J9 out=true:=Al (by omega);rw [Zx,As (show m.length<=i by omega),show EE []=[] from rfl,AE];simp (disch:=omega) only [H1,Wu,Yt,Yy,Yh,Wj,Yu,Yd,Yk,Yz,Zj,Zh,C4,C3,Ao,Zw,Yx,Zn,Yc,Zk,Af,Ah,Ai,Ab,Aa,Ay,AB,Zp,Zd,Zq,Jy,Xn,hw]
 | k+1,i,out,h,ho=>by obtain ⟨N,hN⟩:=j3g l m hl hm k (i+1) (out++EE [rd m i]) (by omega) (by grind [z5t]);refine ⟨N+1,?_⟩;rw [x0u m i (by omega),<-AM,Zx];simp (disch:=omega) only [H1,Wu,Yt,Yy,Yh,Wj,Yu,Yd,Yk,Yz,Zj,Zh,C4,C3,Ao,Zw,Yx,Zn,Yc,Zk,Af,Ah,Ai,Ab,Aa,Ay,AB,Zp,Zd,Zq,Jy,Xn];exact hN
theorem j3h (l m:List R4) (hl:l.length<=10000) (hm:m.length<=10000): ∀(k i:Nat) (out:List Int),i+k=l.length->out.length=2*i-> ∃N,Zo (H1 l m) N (.to (.h0 out (i:Int)))=.ret [.dat (Cd (out++EE (l.drop i)++EE m)).length (Zz (Cd (out++EE (l.drop i)++EE m)))]
 | 0,i,out,h,ho=>by obtain ⟨N,hN⟩:=j3g l m hl hm m.length 0 out (Af _) (by omega);refine ⟨N+1,?_⟩;rw [Zx,As (show l.length<=i by omega),show EE []=[] from rfl,AE];simp (disch:=omega) only [H1,Wu,Yt,Yy,Yh,Wj,Yu,Yd,Yk,Yz,Zj,Zh,C4,C3,Ao,Zw,Yx,Zn,Yc,Zk,Af,Ah,Ai,Ab,Aa,Ay,AB,Zp,Zd,Zq,Jy,Xn];exact hN
 | k+1,i,out,h,ho=>by obtain ⟨N,hN⟩:=j3h l m hl hm k (i+1) (out++EE [rd l i]) (by omega) (by grind [z5t]);refine ⟨N+1,?_⟩;rw [x0u l i (by omega),<-AM,Zx];simp (disch:=omega) only [H1,Wu,Yt,Yy,Yh,Wj,Yu,Yd,Yk,Yz,Zj,Zh,C4,C3,Ao,Zw,Yx,Zn,Yc,Zk,Af,Ah,Ai,Ab,Aa,Ay,AB,Zp,Zd,Zq,Jy,Xn];exact hN
theorem j9l (l m:List R4) (h:ZW l m=true): ∃N,Zo (H1 l m) N (ZA l m)=.ret [.dat (CN l m).length (Zz (CN l m))]:=by
 obtain ⟨h1,h2⟩:=Az h;have:=j3h l m h1 h2 l.length 0 [] (Af _) rfl
 simpa [ZA,CN] using this
def CW (l m:List R4):List Int:=Cd (Dl l++Dl m)
def ZX (l m:List R4):Bool:=decide (l.length<=10000/\m.length<=10000)
theorem z5s (l:List R4):(Dl l).length =2*l.length:=by
 induction l with
 | nil=>rfl
 | cons r l ih=>grind [Dl]
theorem x0t (l:List R4) (i:Nat) (h:i<l.length):Dl (l.drop i)=Dl [rd l i]++Dl (l.drop (i+1)):=by rw [Yg h];rfl
theorem j3e (l m:List R4) (hl:l.length<=10000) (hm:m.length<=10000): ∀(k i:Nat) (out:List Int),i+k=m.length->out.length=2*l.length+2*i-> ∃N,Zo (H2 l m) N (.to (.h1 out (i:Int)))=.ret [.dat (Cd (out++Dl (m.drop i))).length (Zz (Cd (out++Dl (m.drop i))))]
 | 0,i,out,h,ho=>by refine ⟨1,?_⟩;have hw:J9 out=true:=Al (by omega);rw [Zx,As (show m.length<=i by omega),show Dl []=[] from rfl,AE];simp (disch:=omega) only [H2,Wu,Yt,Yy,Yh,Wj,Yu,Yd,Yk,Yz,Zj,Zh,C4,C3,Ao,Zw,Yx,Zn,Yc,Zk,Af,Ah,Ai,Ab,Aa,Ay,AB,Zp,Zd,Zq,Jy,Xn,hw]
 | k+1,i,out,h,ho=>by obtain ⟨N,hN⟩:=j3e l m hl hm k (i+1) (out++Dl [rd m i]) (by omega) (by grind [z5s]);refine ⟨N+1,?_⟩;rw [x0t m i (by omega),<-AM,Zx];simp (disch:=omega) only [H2,Wu,Yt,Yy,Yh,Wj,Yu,Yd,Yk,Yz,Zj,Zh,C4,C3,Ao,Zw,Yx,Zn,Yc,Zk,Af,Ah,Ai,Ab,Aa,Ay,AB,Zp,Zd,Zq,Jy,Xn];exact hN
theorem j3f (l m:List R4) (hl:l.length<=10000) (hm:m.length<=10000): ∀(k i:Nat) (out:List Int),i+k=l.length->out.length=2*i-> ∃N,Zo (H2 l m) N (.to (.h0 out (i:Int)))=.ret [.dat (Cd (out++Dl (l.drop i)++Dl m)).length (Zz (Cd (out++Dl (l.drop i)++Dl m)))]
 | 0,i,out,h,ho=>by obtain ⟨N,hN⟩:=j3e l m hl hm m.length 0 out (Af _) (by omega);refine ⟨N+1,?_⟩;rw [Zx,As (show l.length<=i by omega),show Dl []=[] from rfl,AE];simp (disch:=omega) only [H2,Wu,Yt,Yy,Yh,Wj,Yu,Yd,Yk,Yz,Zj,Zh,C4,C3,Ao,Zw,Yx,Zn,Yc,Zk,Af,Ah,Ai,Ab,Aa,Ay,AB,Zp,Zd,Zq,Jy,Xn];exact hN
 | k+1,i,out,h,ho=>by obtain ⟨N,hN⟩:=j3f l m hl hm k (i+1) (out++Dl [rd l i]) (by omega) (by grind [z5s]);refine ⟨N+1,?_⟩;rw [x0t l i (by omega),<-AM,Zx];simp (disch:=omega) only [H2,Wu,Yt,Yy,Yh,Wj,Yu,Yd,Yk,Yz,Zj,Zh,C4,C3,Ao,Zw,Yx,Zn,Yc,Zk,Af,Ah,Ai,Ab,Aa,Ay,AB,Zp,Zd,Zq,Jy,Xn];exact hN
theorem j9k (l m:List R4) (h:ZX l m=true): ∃N,Zo (H2 l m) N (ZB l m)=.ret [.dat (CW l m).length (Zz (CW l m))]:=by
 obtain ⟨h1,h2⟩:=Az h;have:=j3f l m h1 h2 l.length 0 [] (Af _) rfl
 simpa [ZB,CW] using this
def Vn (l m:List R6):List Int:=Cd (EF l++EF m)
def Z5 (l m:List R6):Bool:=decide (l.length<=40000/\m.length<=40000)
theorem z5r (l:List R6):(EF l).length =2*l.length:=by
 induction l with
 | nil=>rfl
 | cons r l ih=>grind [EF]
theorem x0q (l:List R6) (i:Nat) (h:i<l.length):EF (l.drop i)=EF [rd l i]++EF (l.drop (i+1)):=by rw [Yg h];rfl
theorem v8w (l m:List R6) (hl:l.length<=40000) (hm:m.length<=40000): ∀(k i:Nat) (out:List Int),i+k=m.length->out.length=2*l.length+2*i-> ∃N,Zo (H6 l m) N (.to (.h1 out (i:Int)))=.ret [.dat (Cd (out++EF (m.drop i))).length (Zz (Cd (out++EF (m.drop i))))]
 | 0,i,out,h,ho=>by refine ⟨1,?_⟩;have hw:J9 out=true:=Al (by omega);rw [Zx,As (show m.length<=i by omega),show EF []=[] from rfl,AE];simp (disch:=omega) only [H6,Wu,Yt,Yy,Yh,Wj,Yu,Yd,Yk,Yz,Zj,Zh,C4,C3,Ao,Zw,Yx,Zn,Yc,Zk,Af,Ah,Ai,Ab,Aa,Ay,AB,Zp,Zd,Zq,Jy,Xn,hw]
 | k+1,i,out,h,ho=>by obtain ⟨N,hN⟩:=v8w l m hl hm k (i+1) (out++EF [rd m i]) (by omega) (by grind [z5r]);refine ⟨N+1,?_⟩;rw [x0q m i (by omega),<-AM,Zx];simp (disch:=omega) only [H6,Wu,Yt,Yy,Yh,Wj,Yu,Yd,Yk,Yz,Zj,Zh,C4,C3,Ao,Zw,Yx,Zn,Yc,Zk,Af,Ah,Ai,Ab,Aa,Ay,AB,Zp,Zd,Zq,Jy,Xn];exact hN
theorem v8x (l m:List R6) (hl:l.length<=40000) (hm:m.length<=40000): ∀(k i:Nat) (out:List Int),i+k=l.length->out.length=2*i-> ∃N,Zo (H6 l m) N (.to (.h0 out (i:Int)))=.ret [.dat (Cd (out++EF (l.drop i)++EF m)).length (Zz (Cd (out++EF (l.drop i)++EF m)))]
 | 0,i,out,h,ho=>by obtain ⟨N,hN⟩:=v8w l m hl hm m.length 0 out (Af _) (by omega);refine ⟨N+1,?_⟩;rw [Zx,As (show l.length<=i by omega),show EF []=[] from rfl,AE];simp (disch:=omega) only [H6,Wu,Yt,Yy,Yh,Wj,Yu,Yd,Yk,Yz,Zj,Zh,C4,C3,Ao,Zw,Yx,Zn,Yc,Zk,Af,Ah,Ai,Ab,Aa,Ay,AB,Zp,Zd,Zq,Jy,Xn];exact hN
 | k+1,i,out,h,ho=>by obtain ⟨N,hN⟩:=v8x l m hl hm k (i+1) (out++EF [rd l i]) (by omega) (by grind [z5r]);refine ⟨N+1,?_⟩;rw [x0q l i (by omega),<-AM,Zx];simp (disch:=omega) only [H6,Wu,Yt,Yy,Yh,Wj,Yu,Yd,Yk,Yz,Zj,Zh,C4,C3,Ao,Zw,Yx,Zn,Yc,Zk,Af,Ah,Ai,Ab,Aa,Ay,AB,Zp,Zd,Zq,Jy,Xn];exact hN
theorem u7b (l m:List R6) (h:Z5 l m=true): ∃N,Zo (H6 l m) N (y0b l m)=.ret [.dat (Vn l m).length (Zz (Vn l m))]:=by
 obtain ⟨h1,h2⟩:=Az h;have:=v8x l m h1 h2 l.length 0 [] (Af _) rfl
 simpa [y0b,Vn] using this
def fXs :List B2->Option (B2×Bool)
 | [a0,a1]=>match CS R4 a0,CS R4 a1 with
  | some (L0,g0,n0),some (L1,g1,n1)=>some (.dat (CN L0 L1).length (Zz (CN L0 L1)),CO R4 n0 g0&&(CO R4 n1 g1&&(ZW L0 L1)))
  | _,_=>none
 | _=>none
theorem Px {S:B4} (hS:Zv prog S):Zv prog (S.with nXs fXs):=by
 refine Qn hS (by kernel_rfl) fun args v h=> ?_;unfold fXs at h;split at h
 .rename_i a0 a1;split at h
  .rename_i L0 g0 n0 L1 g1 n1 e0 e1;simp only [Ad,Ac,Ae] at h;obtain ⟨rfl,ho0,ho1,hw⟩:=h;obtain ⟨N,hN⟩:=j9l L0 L1 hw;exact ⟨_,_,(.cons (Yn e0 ho0) (.cons (Yn e1 ho1) .nil)),rfl,u5w L0 L1 N _ hN,3,rfl⟩
  .cases h
 .cases h
def fYs :List B2->Option (B2×Bool)
 | [a0,a1]=>match CS R4 a0,CS R4 a1 with
  | some (L0,g0,n0),some (L1,g1,n1)=>some (.dat (CW L0 L1).length (Zz (CW L0 L1)),CO R4 n0 g0&&(CO R4 n1 g1&&(ZX L0 L1)))
  | _,_=>none
 | _=>none
theorem Pw {S:B4} (hS:Zv prog S):Zv prog (S.with nYs fYs):=by
 refine Qn hS (by kernel_rfl) fun args v h=> ?_;unfold fYs at h;split at h
 .rename_i a0 a1;split at h
  .rename_i L0 g0 n0 L1 g1 n1 e0 e1;simp only [Ad,Ac,Ae] at h;obtain ⟨rfl,ho0,ho1,hw⟩:=h;obtain ⟨N,hN⟩:=j9k L0 L1 hw;exact ⟨_,_,(.cons (Yn e0 ho0) (.cons (Yn e1 ho1) .nil)),rfl,u5v L0 L1 N _ hN,3,rfl⟩
  .cases h
 .cases h
def t4d :List B2->Option (B2×Bool)
 | [a0,a1]=>match CS R6 a0,CS R6 a1 with
  | some (L0,g0,n0),some (L1,g1,n1)=>some (.dat (Vn L0 L1).length (Zz (Vn L0 L1)),CO R6 n0 g0&&(CO R6 n1 g1&&(Z5 L0 L1)))
  | _,_=>none
 | _=>none
theorem u9k {S:B4} (hS:Zv prog S):Zv prog (S.with M6 t4d):=by
 refine Qn hS (by kernel_rfl) fun args v h=> ?_;unfold t4d at h;split at h
 .rename_i a0 a1;split at h
  .rename_i L0 g0 n0 L1 g1 n1 e0 e1;simp only [Ad,Ac,Ae] at h;obtain ⟨rfl,ho0,ho1,hw⟩:=h;obtain ⟨N,hN⟩:=u7b L0 L1 hw;exact ⟨_,_,(.cons (Yn e0 ho0) (.cons (Yn e1 ho1) .nil)),rfl,v8y L0 L1 N _ hN,3,rfl⟩
  .cases h
 .cases h
def T2 :B4:=((T1.with nXs fXs).with nYs fYs).with M6 t4d
theorem F9 :Zv prog T2:=u9k (Pw (Px EB))
inductive I0 where
 | h0 (v9:List R4) (v10:List R2) (v11:Int) (v12:Int)
 | h1 (v9:List R4) (v10:List R2) (v11:Int) (v12:Int) (v13:List Bool) (v14:Int)
 | h2 (v9:List R4) (v10:List R2) (v11:Int) (v12:Int) (v15:List R2) (v17:Int)
 | h3 (v9:List R4) (v10:List R2) (v11:Int) (v12:Int) (v16:Int)
abbrev UF (x0:Int) (l1:List R4) (l2:List R4) (v12:Int) (v14:Int):=(KD x0 (EL (B3 l1) (rd (CN (B3 l1) (B3 l2)) (tn v12)) (rd (CW (B3 l1) (B3 l2)) (tn v14))) (EL (B3 l2) (rd (CN (B3 l1) (B3 l2)) (tn v12)) (rd (CW (B3 l1) (B3 l2)) (tn v14))))
abbrev x1z (v9:List R4) (v16:Int) (l1:List R4) (l2:List R4) (v12:Int):=(v9.set (0+(tn v16)) (R4.mk (rd v9 (0+(tn v16))).a (rd v9 (0+(tn v16))).b (rd (CN (B3 l1) (B3 l2)) (tn (wr (v12+1)))) (rd v9 (0+(tn v16))).d))
abbrev x1y (v9:List R4) (l1:List R4) (l2:List R4) (v12:Int) (v15:List R2) (v17:Int):=(v9++[(R4.mk (rd (CN (B3 l1) (B3 l2)) (tn v12)) (rd v15 (tn v17)).a (rd (CN (B3 l1) (B3 l2)) (tn (wr (v12+1)))) (rd v15 (tn v17)).b)])
abbrev F7 (l1:List R4) (l2:List R4):=(CW (B3 l1) (B3 l2))
def w7q (l1:List R4) (l2:List R4):B2:=(.dat (CN (B3 l1) (B3 l2)).length (Zz (CN (B3 l1) (B3 l2))))
def w7p (l1:List R4) (l2:List R4):B2:=(.dat (F7 l1 l2).length (Zz (F7 l1 l2)))
def PG (x0:Int) (l1:List R4) (l2:List R4):I0->CB
 | .h0 v9 v10 v11 v12=>⟨⟨121,0,true⟩,none,(Zg prog 89 [1,1,1,1,1,0,1,0,0] 0),none,(Zy prog 3),⟨Yj [(0,(ii x0)),(1,(.dat l1.length (Zz l1))),(2,(.dat l2.length (Zz l2))),(7,(w7q l1 l2)),(8,(w7p l1 l2)),(9,(.sla 0 4 0 v9.length (.un 4))),(10,(.dat v10.length (Zz v10))),(11,(ii v11)),(12,(ii v12))],Vk [⟨Ya v9.length (Zz v9),116,some ⟨4,v9.length,(Zz v9)⟩⟩] 0,1,[],true⟩,[],.leaf⟩
 | .h1 v9 v10 v11 v12 v13 v14=>⟨⟨121,0,true⟩,none,(Zg prog 89 [1,1,1,1,1,0,1,0,0,1,0,0,1,0,1,0,0] 0),none,(Zy prog 3),⟨Yj [(0,(ii x0)),(1,(.dat l1.length (Zz l1))),(2,(.dat l2.length (Zz l2))),(7,(w7q l1 l2)),(8,(w7p l1 l2)),(9,(.sla 1 4 0 v9.length (.un 4))),(10,(.dat v10.length (Zz v10))),(11,(ii v11)),(12,(ii v12)),(13,(.sla 0 1 0 v13.length (.un 1))),(14,(ii v14))],Vk [⟨Ya v13.length (Zz v13),4,some ⟨1,v13.length,(Zz v13)⟩⟩,⟨Ya v9.length (Zz v9),116,some ⟨4,v9.length,(Zz v9)⟩⟩] 0,2,[],true⟩,[],.leaf⟩
 | .h2 v9 v10 v11 v12 v15 v17=>⟨⟨121,0,true⟩,none,(Zg prog 89 [1,1,1,1,1,0,1,0,0,1,0,0,1,1,1,1,1,1,0,0] 0),none,(Zy prog 3),⟨Yj [(0,(ii x0)),(1,(.dat l1.length (Zz l1))),(2,(.dat l2.length (Zz l2))),(7,(w7q l1 l2)),(8,(w7p l1 l2)),(9,(.sla 0 4 0 v9.length (.un 4))),(10,(.dat v10.length (Zz v10))),(11,(ii v11)),(12,(ii v12)),(15,(.dat v15.length (Zz v15))),(17,(ii v17))],Vk [⟨Ya v9.length (Zz v9),116,some ⟨4,v9.length,(Zz v9)⟩⟩] 0,1,[],true⟩,[],.leaf⟩
 | .h3 v9 v10 v11 v12 v16=>⟨⟨121,0,true⟩,none,(Zg prog 89 [1,1,1,1,1,0,1,0,0,1,0,0,1,1,1,0,1,0,0,1,0,0] 0),none,(Zy prog 3),⟨Yj [(0,(ii x0)),(1,(.dat l1.length (Zz l1))),(2,(.dat l2.length (Zz l2))),(7,(w7q l1 l2)),(8,(w7p l1 l2)),(9,(.sla 0 4 0 v9.length (.un 4))),(10,(.dat v10.length (Zz v10))),(11,(ii v11)),(12,(ii v12)),(16,(ii v16))],Vk [⟨Ya v9.length (Zz v9),116,some ⟨4,v9.length,(Zz v9)⟩⟩] 0,1,[],true⟩,[],.leaf⟩
def t0b :List (Option (List Nat)):=[some [0,1,2,7,8,9,10,11,12]]
def t0d :List (Option (List Nat)):=[]
def MG :List (Option (List Nat)):=[some [0,1,2,7,8,9,10,11,12,13,14]]
def MI :List (Option (List Nat)):=[]
def t0a :List (Option (List Nat)):=[some [0,1,2,7,8,9,10,11,12,15,17]]
def t0c :List (Option (List Nat)):=[]
def MF :List (Option (List Nat)):=[some [0,1,2,7,8,9,10,11,12,16]]
def MH :List (Option (List Nat)):=[]
def Ux (x0:Int) (l1:List R4) (l2:List R4):I0->Xz I0
 | .h0 v9 v10 v11 v12=>(bif (decide ((wrap .i64 (v12+1))<(((CN (B3 l1) (B3 l2)).length :Nat):Int))) then (.to (.h1 v9 v10 v11 v12 ([]:List Bool) 0)) else (.ret [(.dat v9.length (Zz v9))]))
 | .h1 v9 v10 v11 v12 v13 v14=>(bif (decide (v14<(((CW (B3 l1) (B3 l2)).length :Nat):Int))) then (bif (SX (B3 l1) (rd (CN (B3 l1) (B3 l2)) v12.toNat) (rd (CW (B3 l1) (B3 l2)) v14.toNat)) then (bif ((decide (0<=v12/\v12<(((CN (B3 l1) (B3 l2)).length :Nat):Int)))&&true) then (bif ((decide (0<=v14/\v14<(((CW (B3 l1) (B3 l2)).length :Nat):Int)))&&true) then (bif (SX (B3 l2) (rd (CN (B3 l1) (B3 l2)) v12.toNat) (rd (CW (B3 l1) (B3 l2)) v14.toNat)) then (bif (Nat.beq 1 1&&((decide (0+v13.length=v13.length))&&decide ((v13.length+1+1)*(1+1)<=CF))) then (.to (.h1 v9 v10 v11 v12 (v13++[(KD x0 (EL (B3 l1) (rd (CN (B3 l1) (B3 l2)) v12.toNat) (rd (CW (B3 l1) (B3 l2)) v14.toNat)) (EL (B3 l2) (rd (CN (B3 l1) (B3 l2)) v12.toNat) (rd (CW (B3 l1) (B3 l2)) v14.toNat)))]) (wrap .i64 (v14+1)))) else .stuck) else .stuck) else .stuck) else .stuck) else .stuck) else (bif (Z0 (B3 (CW (B3 l1) (B3 l2))) (B3 v13)) then (bif (decide (v12>0)) then (bif (Uf (B3 (DV (B3 (CW (B3 l1) (B3 l2))) (B3 v13))) (B3 v10)) then (bif (EW (B3 (DV (B3 (CW (B3 l1) (B3 l2))) (B3 v13))) (B3 v10)) then (.to (.h3 v9 v10 v11 v12 v11)) else (.to (.h2 v9 (DV (B3 (CW (B3 l1) (B3 l2))) (B3 v13)) (v9.length:Int) v12 (DV (B3 (CW (B3 l1) (B3 l2))) (B3 v13)) 0))) else .stuck) else (.to (.h2 v9 (DV (B3 (CW (B3 l1) (B3 l2))) (B3 v13)) (v9.length:Int) v12 (DV (B3 (CW (B3 l1) (B3 l2))) (B3 v13)) 0))) else .stuck))
 | .h2 v9 v10 v11 v12 v15 v17=>(bif (decide (v17<(v15.length:Int))) then (bif ((decide (0<=v12/\v12<(((CN (B3 l1) (B3 l2)).length :Nat):Int)))&&true) then (bif ((decide (0<=(wrap .i64 (v12+1))/\(wrap .i64 (v12+1))<(((CN (B3 l1) (B3 l2)).length :Nat):Int)))&&true) then (bif ((decide (0<=v17/\v17<(v15.length:Int)))&&true) then (bif (Nat.beq 4 4&&((decide (0+v9.length=v9.length))&&decide ((v9.length+1+1)*(32+1)<=CF))) then (.to (.h2 (v9++[(R4.mk (rd (CN (B3 l1) (B3 l2)) v12.toNat) (rd v15 v17.toNat).a (rd (CN (B3 l1) (B3 l2)) (Int.toNat (wrap .i64 (v12+1)))) (rd v15 v17.toNat).b)]) v10 v11 v12 v15 (wrap .i64 (v17+1)))) else .stuck) else .stuck) else .stuck) else .stuck) else (.to (.h0 v9 v10 v11 (wrap .i64 (v12+1)))))
 | .h3 v9 v10 v11 v12 v16=>(bif (decide (v16<(v9.length:Int))) then (bif ((decide (0<=(wrap .i64 (v12+1))/\(wrap .i64 (v12+1))<(((CN (B3 l1) (B3 l2)).length :Nat):Int)))&&true) then (bif ((decide (0<=v16/\v16<(v9.length:Int)))&&true) then (bif (decide ((0+v16.toNat)<v9.length)) then (.to (.h3 (v9.set (0+v16.toNat) (R4.mk (rd v9 (0+v16.toNat)).a (rd v9 (0+v16.toNat)).b (rd (CN (B3 l1) (B3 l2)) (Int.toNat (wrap .i64 (v12+1)))) (rd v9 (0+v16.toNat)).d)) v10 v11 v12 (wrap .i64 (v16+1)))) else .stuck) else .stuck) else .stuck) else (.to (.h0 v9 v10 v11 (wrap .i64 (v12+1)))))
def Y2 (x0:Int) (l1:List R4) (l2:List R4):Xz I0:=(bif (ZW (B3 l1) (B3 l2)) then (bif (ZX (B3 l1) (B3 l2)) then (.to (.h0 ([]:List R4) ([]:List R2) 0 0)) else .stuck) else .stuck)
theorem v1y (x0:Int) (l1:List R4) (l2:List R4): ∀s,Xw prog (Zy prog 89) (PG x0 l1 l2) (PG x0 l1 l2 s) (Ux x0 l1 l2 s)
 | .h0 v9 v10 v11 v12=>(lb (fun k0=>(sl F9 24 [(4,1,Zz ([]:List Bool))] ⟨[1,0],[],MG,MI⟩ ⟨[(13,.grow 0 1)],[],[]⟩ [true] (pp (fl ([]:List Bool) (fl v9 nn)) (tt k0 nn)))) (fun k0=>(lr 121 3 [1,1,1,1,0] 1 3 [(6,(.dat v9.length (Zz v9)))] (sl F9 16 [] ⟨[],[0],[some [6]],[]⟩ ⟨[(6,.frz v9.length v9.length (Zz v9) (Zz v9))],[],[]⟩ [false] (pp (xZ (Cm 4 4 0 v9.length v9.length (Zz v9)) v9.length (Zz v9)) (pp (xL v9.length v9.length) (pp (xS v9.length (Zz v9) (Zz v9)) (pp (fl v9 nn) (tt k0 nn)))))))))
 | .h1 v9 v10 v11 v12 v13 v14=>(lb (fun k0=>(lo fun o0=>(lo fun o1=>(lo fun o2=>(lo fun o3=>(lo fun o4=>let a:=v13++[(UF x0 l1 l2 v12 v14)];let b:=xL (v13.length+1) (v13++[(UF x0 l1 l2 v12 v14)]).length;(sl F9 20 [] ⟨[3,1],[],MG,MI⟩ ⟨[(13,.len a.length)],[.rowed 1 a.length (Zz a),.keep],[]⟩ [true] (pp b (pp b (pp (xS (v13.length+1) (Zt (Zz v13) 0 v13.length 1 [(.bool (UF x0 l1 l2 v12 v14))]) (Zz (v13++[(UF x0 l1 l2 v12 v14)]))) (pp (pp (xF (Zt (Zz v13) 0 v13.length 1 [(.bool (UF x0 l1 l2 v12 v14))])) (fl v9 nn)) (ww o4 (pp (pp (xr l2) (xw o3)) (ww o2 (ww o1 (pp (pp (xr l1) (xw o0)) (ww o2 (ww o1 (tt k0 nn))))))))))))))))))) (fun k0=>let d:=F7 l1 l2;let e:=CN (B3 l1) (B3 l2);(Xh (sl F9 (C':=⟨⟨121,0,true⟩,(Vm prog 89 [1,1,1,1,1,0,1,0,0,1,0,0,1,1,0] 2),(Zg prog 89 [1,1,1,1,1,0,1,0,0,1,0,0,1,1,0] 1),none,(Zy prog 3),⟨Yj [(0,(ii x0)),(1,(.dat l1.length (Zz l1))),(2,(.dat l2.length (Zz l2))),(7,(.dat e.length (Zz e))),(8,(.dat d.length (Zz d))),(9,(.sla 0 4 0 v9.length (.un 4))),(10,(.dat v10.length (Zz v10))),(11,(ii v11)),(12,(ii v12)),(62,(.dat d.length (Zz d))),(63,(.dat v13.length (Zz v13)))],Vk [⟨Ya v9.length (Zz v9),116,some ⟨4,v9.length,(Zz v9)⟩⟩] 0,1,[],true⟩,[],.leaf⟩) 14 [] ⟨[1],[0],[some [0,1,2,7,8,9,10,11,12,62,63]],[]⟩ ⟨[(63,.frz v13.length v13.length (Zz v13) (Zz v13))],[],[]⟩ [false] (pp (xZ (Cm 1 1 0 v13.length v13.length (Zz v13)) v13.length (Zz v13)) (pp (xL v13.length v13.length) (pp (xS v13.length (Zz v13) (Zz v13)) (pp (fl v9 nn) (pp (fl v13 nn) (tt k0 nn))))))) (lo fun aE=>let c:=pp (xr v13) (xw aE);(lb (fun k1=>(lo fun bU=>let f:=pp (xr v10) (xw bU);(lb (fun k2=>(sl F9 23 [] ⟨[0],[],MF,MH⟩ a6 (CA 4 []) (pp (fl v9 nn) (tt k2 (pp (pp (xI R2 (DV (B3 (F7 l1 l2)) (B3 v13)).length (Zz (DV (B3 (F7 l1 l2)) (B3 v13)))) f) (tt k1 (pp (pp (xI Int (F7 l1 l2).length (Zz (F7 l1 l2))) c) nn))))))) (fun k2=>(sl F9 30 [] ⟨[0],[],t0a,t0c⟩ a6 (CA 3 [false]) (pp (fl v9 nn) (tt k2 (pp (pp (xI R2 (DV (B3 (F7 l1 l2)) (B3 v13)).length (Zz (DV (B3 (F7 l1 l2)) (B3 v13)))) f) (tt k1 (pp (pp (xI Int (F7 l1 l2).length (Zz (F7 l1 l2))) c) nn)))))))))) (fun k1=>(sl F9 30 [] ⟨[0],[],t0a,t0c⟩ a6 (bl 4 0) (pp (fl v9 nn) (tt k1 (pp (pp (xI Int (F7 l1 l2).length (Zz (F7 l1 l2))) c) nn))))))))))
 | .h2 v9 v10 v11 v12 v15 v17=>(lb (fun k0=>(lo fun o0=>(lo fun o1=>(lo fun o2=>(lo fun o3=>let c:=xL (v9.length+1) (x1y v9 l1 l2 v12 v15 v17).length;let d:=x1y v9 l1 l2 v12 v15 v17;(sl F9 20 [] ⟨[2],[],t0a,t0c⟩ ⟨[(9,.len d.length)],[.rowed 4 d.length (Zz d)],[]⟩ [true] (pp c (pp c (pp (xS (v9.length+1) (Zt (Zz v9) 0 v9.length 4 [(ii (rd (CN (B3 l1) (B3 l2)) (tn v12))),(ii (rd v15 (tn v17)).a),(ii (rd (CN (B3 l1) (B3 l2)) (tn (wr (v12+1))))),(ii (rd v15 (tn v17)).b)]) (Zz (x1y v9 l1 l2 v12 v15 v17))) (pp (pp (xF (Zt (Zz v9) 0 v9.length 4 [(ii (rd (CN (B3 l1) (B3 l2)) (tn v12))),(ii (rd v15 (tn v17)).a),(ii (rd (CN (B3 l1) (B3 l2)) (tn (wr (v12+1))))),(ii (rd v15 (tn v17)).b)])) nn) (ww o3 (ww o2 (ww o1 (ww o2 (ww o0 (tt k0 nn)))))))))))))))) (fun k0=>(sl F9 17 [] ⟨[0],[],t0b,t0d⟩ a6 [false] (pp (fl v9 nn) (tt k0 nn)))))
 | .h3 v9 v10 v11 v12 v16=>(lb (fun k0=>(lo fun o0=>(lo fun o1=>(lo fun o2=>let a:=xL v9.length (x1z v9 v16 l1 l2 v12).length;let b:=x1z v9 v16 l1 l2 v12;(sl F9 31 [] ⟨[0],[],MF,MH⟩ ⟨[(9,.len b.length)],[.rowed 4 b.length (Zz b)],[]⟩ [true] (pp a (pp a (pp (xS v9.length (Xa (Zz v9) (0+(tn v16)) 2 [(ii (rd (CN (B3 l1) (B3 l2)) (tn (wr (v12+1)))))]) (Zz (x1z v9 v16 l1 l2 v12))) (pp (pp (xF (Xa (Zz v9) (0+(tn v16)) 2 [(ii (rd (CN (B3 l1) (B3 l2)) (tn (wr (v12+1)))))])) nn) (ww o2 (ww o1 (ww o0 (tt k0 nn))))))))))))) (fun k0=>(sl F9 17 [] ⟨[0],[],t0b,t0d⟩ a6 [false] (pp (fl v9 nn) (tt k0 nn)))))
theorem w1t (x0:Int) (l1:List R4) (l2:List R4):Xw prog (Zy prog 89) (PG x0 l1 l2) (Zm prog 89 [(.int .i64 x0),(.dat l1.length (Zz l1)),(.dat l2.length (Zz l2))] true []) (Y2 x0 l1 l2):=(lo fun o0=>(lo fun o1=>(sl F9 34 [(116,4,Zz ([]:List R4))] ⟨[0],[],t0b,t0d⟩ ⟨[(9,.grow 0 4),(10,.list 0 (Zz ([]:List R2)))],[],[]⟩ [] (pp (fl ([]:List R4) nn) (pp (pp (xr l1) (pp (xr l2) (xw o1))) (pp (pp (xr l1) (pp (xr l2) (xw o0))) nn))))))
theorem u6i (x0:Int) (l1:List R4) (l2:List R4) (n:Nat) (vs:List B2) (h:Zo (Ux x0 l1 l2) n (Y2 x0 l1 l2)=.ret vs):Uj prog (Zy prog 89) (Zm prog 89 [(.int .i64 x0),(.dat l1.length (Zz l1)),(.dat l2.length (Zz l2))] true []) vs:=by have:=Zb (v1y x0 l1 l2) n _ (w1t x0 l1 l2);rwa [h] at this
theorem z3y : ∀(l out:List Int),(l.foldl Dy out).length <=out.length+l.length
 | [],out=>Aq _
 | x::l,out=>AF (z3y l (Dy out x)) (by have:=y9a out x;simp;omega)
theorem z8c (l:List Int):(Cd l).length <=l.length:=by grind [z3y,Cd]
theorem y9p (cuts:List Int) (ins:List Bool): ∀(k i:Nat) (out:List R2),(GM cuts ins k i out).length <=out.length+k
 | 0,_,out=>Aq _
 | k+1,i,out=>by
  unfold GM;refine AF (y9p cuts ins k (i+1) _) ?_;cases rd ins i
  .simp only [Aa];omega
  .simp only [Ab];cases (decide (0<out.length)&&((rd out (out.length - 1)).b == rd cuts i)) <;> simp <;> omega
theorem w5v (cuts:List Int) (ins:List Bool):(DV cuts ins).length <=cuts.length:=by grind [y9p,DV]
section
variable (kind:Int) (l m:List R4)
def HN (x:Int) (y:Int):Bool:=KD kind (EL l x y) (EL m x y)
def Dz (x:Int):List R2:=DV (CW l m) ((CW l m).map (HN kind l m x))
def HO (out:List R4) (first:Nat) (x:Int):List R4:=out.take first++(out.drop first).map fun r=>⟨r.a,r.b,x,r.d⟩
def OT (x x':Int) (s:List R2):List R4:=s.map fun p=>⟨x,p.a,x',p.b⟩
def jF :Nat->Nat->List R4->List R2->Nat->List R4
 | 0,_,out,_,_=>out
 | k+1,i,out,last,first=>
  bif decide (0<i)&&EW (Dz kind l m (rd (CN l m) i)) last then jF k (i+1) (HO out first (rd (CN l m) (i+1))) last first
  else jF k (i+1) (out++OT (rd (CN l m) i) (rd (CN l m) (i+1)) (Dz kind l m (rd (CN l m) i))) (Dz kind l m (rd (CN l m) i)) out.length
def Ca :List R4:=jF kind l m ((CN l m).length - 1) 0 [] [] 0
end
def J2 (_:Int) (l m:List R4):Bool:=decide (l.length<=10000/\m.length<=10000)
theorem Qr (l m:List R4):(CN l m).length <=2*l.length+2*m.length:=by
 refine AF (z8c _) ?_
 grind [z5t]
theorem x0r (l m:List R4):(CW l m).length <=2*l.length+2*m.length:=by
 refine AF (z8c _) ?_
 grind [z5s]
section
variable (kind:Int) (l m:List R4) (hl:l.length<=10000) (hm:m.length<=10000)
include hl hm
theorem j3z (out:List R4) (last:List R2) (first:Int) (i:Nat) (hi:i+1<(CN l m).length): ∀(k j:Nat) (acc:List Bool),j+k=(CW l m).length ->acc.length=j->
  ∃n,∀N,Zo (Ux kind l m) (N+n) (.to (.h1 out last first (i:Int) acc (j:Int)))=Zo (Ux kind l m) N (.to (.h1 out last first (i:Int) (acc++((CW l m).drop j).map (HN kind l m (rd (CN l m) i))) ((CW l m).length :Int)))
 | 0,j,acc,h,ha=>by
  refine ⟨0,fun N=> ?_⟩
  grind
 | k+1,j,acc,h,ha=>by
  have hx:=Qr l m;have hy:=x0r l m;obtain ⟨n,hn⟩:=j3z out last first i hi k (j+1) (acc++[HN kind l m (rd (CN l m) i) (rd (CW l m) j)]) (by omega) (by simp [ha])
  refine ⟨n+1,fun N=> ?_⟩;have w1: ∀x y,SX l x y=true:=fun x y=>Al (by omega);have w2: ∀x y,SX m x y=true:=fun x y=>Al (by omega);rw [Yg (show j<(CW l m).length by omega),AT,<-AD,Zx];simp (disch:=omega) only [Ux,Zd,Zq,w1,w2,Yy,Yz,Yd,Yk,Zh,Zj,Zw,Yc,Zk,Af,Ao,Ah,Ai,Ab];have:=hn N;rw [AM] at this;exact this
theorem j3y (last:List R2) (first:Int) (i:Nat) (hi:i+1<(CN l m).length) (s:List R2) (hs:s.length<=1000000): ∀(k j:Nat) (out:List R4),j+k=s.length->out.length<=10000000000+j->
  ∃n,∀N,Zo (Ux kind l m) (N+n) (.to (.h2 out last first (i:Int) s (j:Int)))=Zo (Ux kind l m) N (.to (.h0 (out++OT (rd (CN l m) i) (rd (CN l m) (i+1)) (s.drop j)) last first ((i+1:Nat):Int)))
 | 0,j,out,h,ho=>by
  have hx:=Qr l m;refine ⟨1,fun N=> ?_⟩
  grind [Zx,Ux,Zj,OT]
 | k+1,j,out,h,ho=>by
  have hx:=Qr l m;obtain ⟨n,hn⟩:=j3y last first i hi s hs k (j+1) (out++OT (rd (CN l m) i) (rd (CN l m) (i+1)) [rd s j]) (by omega) (by simp [OT];omega)
  refine ⟨n+1,fun N=> ?_⟩;have:=hn N;rw [Yg (show j<s.length by omega),<-AD,Zx];simp (disch:=omega) only [Ux,Zd,Zq,Yy,Yz,Yd,Yk,Zh,Zj,Zw,Yc,Zk,Af,Ao,Ah,Ai,Ab];rw [AM] at this;exact this
theorem u9m (out:List R4) (j:Nat) (x:Int) (h:j<out.length):HO (out.set j ⟨(rd out j).a,(rd out j).b,x,(rd out j).d⟩) (j+1) x=HO out j x:=by
 have _uhl:=hl;have _uhm:=hm;unfold HO;rw [Yg h,AT];have e1:(out.set j ⟨(rd out j).a,(rd out j).b,x,(rd out j).d⟩).take (j+1)=out.take j++[⟨(rd out j).a,(rd out j).b,x,(rd out j).d⟩]:=by
  apply BJ;all_goals grind
 have e2:(out.set j ⟨(rd out j).a,(rd out j).b,x,(rd out j).d⟩).drop (j+1)=out.drop (j+1):=by rw [List.drop_set];grind
 grind
theorem j3x (last:List R2) (first:Int) (i:Nat) (hi:i+1<(CN l m).length): ∀(k j:Nat) (out:List R4),j+k=out.length->out.length<=10000000000->
  ∃n,∀N,Zo (Ux kind l m) (N+n) (.to (.h3 out last first (i:Int) (j:Int)))=Zo (Ux kind l m) N (.to (.h0 (HO out j (rd (CN l m) (i+1))) last first ((i+1:Nat):Int)))
 | 0,j,out,h,ho=>by
  have hx:=Qr l m;refine ⟨1,fun N=> ?_⟩;have e:HO out j (rd (CN l m) (i+1))=out:=by
   grind [HO]
  grind [Zx,Ux,Zj]
 | k+1,j,out,h,ho=>by
  have hx:=Qr l m;obtain ⟨n,hn⟩:=j3x last first i hi k (j+1) (out.set j ⟨(rd out j).a,(rd out j).b,rd (CN l m) (i+1),(rd out j).d⟩) (by simp;omega) (by grind)
  refine ⟨n+1,fun N=> ?_⟩;have:=hn N;rw [u9m l m hl hm out j _ (by omega)] at this;rw [<-AD,Zx];simp (disch:=omega) only [Ux,Zd,Zq,Yy,Yz,Yu,Yd,Yk,Zh,Zj,Zw,Yc,Zk,Af,Ao,Ah,Ai,Ab];exact this
theorem v8h : ∀(k i:Nat) (out:List R4) (last:List R2) (first:Nat),k=(CN l m).length - 1 - i->i<=(CN l m).length ->out.length<=i*40000->last.length<=40000->first<=out.length->
  ∃n,Zo (Ux kind l m) n (.to (.h0 out last (first:Int) (i:Int)))=.ret [.dat (jF kind l m k i out last first).length (Zz (jF kind l m k i out last first))]
 | 0,i,out,last,first,h,hi,ho,hla,hf=>by
  have hx:=Qr l m;refine ⟨1,?_⟩
  grind [Zx,Ux,Zd,Zj,Zp,jF]
 | k+1,i,out,last,first,h,hi,ho,hla,hf=>by
  have hx:=Qr l m;have hy:=x0r l m;have hi1:i+1<(CN l m).length :=by omega
  have hsl:(Dz kind l m (rd (CN l m) i)).length <=40000:=AF (w5v _ _) (by omega);have hbig:i*40000<=40000*40000:=AC _ (by omega);obtain ⟨n1,h1⟩:=j3z kind l m hl hm out last first i hi1 (CW l m).length 0 [] (Af _) rfl
  simp only [AS,Bc,Du] at h1;have w3:Z0 (CW l m) ((CW l m).map (HN kind l m (rd (CN l m) i)))=true:=Al ⟨by omega,by grind⟩;have w4:Uf (DV (CW l m) ((CW l m).map (HN kind l m (rd (CN l m) i)))) last=true:=Al (AF hsl (by omega));have hy2:((CW l m).length :Int)=(((CW l m).length :Nat):Int):=rfl;unfold jF;rcases Zs (decide (0<i)&&EW (Dz kind l m (rd (CN l m) i)) last) with q | q
  .obtain ⟨n3,h3⟩:=j3x kind l m hl hm last first i hi1 (out.length - first) first out (by omega) (by omega)
   obtain ⟨n0,h0⟩:=v8h k (i+1) (HO out first (rd (CN l m) (i+1))) last first (by omega) (by omega) (by simp [HO];omega) hla (by simp [HO];omega)
   refine ⟨n0+n3+1+n1+1,?_⟩;rw [q,Ab,Zx];simp only [Ae,Ar] at q;have q2:EW (DV (CW l m) ((CW l m).map (HN kind l m (rd (CN l m) i)))) last=true:=q.2;simp (disch:=omega) only [Ux,Zd,Zq,Yy,Zj,Zw,Ab];simp_all [Zx,Ux,Zd]
  .obtain ⟨n2,h2⟩:=j3y kind l m hl hm (Dz kind l m (rd (CN l m) i)) (out.length:Int) i hi1 (Dz kind l m (rd (CN l m) i)) (by omega) (Dz kind l m (rd (CN l m) i)).length 0 out (Af _) (by omega);obtain ⟨n0,h0⟩:=v8h k (i+1) (out++OT (rd (CN l m) i) (rd (CN l m) (i+1)) (Dz kind l m (rd (CN l m) i))) (Dz kind l m (rd (CN l m) i)) out.length (by omega) (by omega) (by simp [OT];omega) hsl (by simp);refine ⟨n0+n2+1+n1+1,?_⟩;rw [q,Aa,Zx];simp (disch:=omega) only [Ux,Zd,Zq,Yy,Zj,Zw,Ab];have h1':=h1 (n0+n2+1);rw [h1',Zx];have h2':=h2 n0;simp only [AS,Du] at h2';by_cases hi0:0<i
   .rw [Al hi0,Ai] at q;have q2:EW (DV (CW l m) ((CW l m).map (HN kind l m (rd (CN l m) i)))) last=false:=q;simp (disch:=omega) only [Ux,Zd,Zq,Yh,Yt,q2,w3,w4,Ab,Aa];rw [<-h0];exact h2'
   .simp (disch:=omega) only [Ux,Zd,Zq,Yh,Wu,w3,w4,Ab,Aa];rw [<-h0];exact h2'
end
theorem j9z (kind:Int) (l m:List R4) (h:J2 kind l m=true): ∃N,Zo (Ux kind l m) N (Y2 kind l m)=.ret [.dat (Ca kind l m).length (Zz (Ca kind l m))]:=by obtain ⟨hl,hm⟩:=Az h;obtain ⟨N,hN⟩:=v8h kind l m hl hm ((CN l m).length - 1) 0 [] [] 0 rfl (AA _) (AA _) (AA _) (Aq _);refine ⟨N,?_⟩;have w1:ZW l m=true:=Al ⟨hl,hm⟩;have w2:ZX l m=true:=Al ⟨hl,hm⟩;simp only [Y2,Zd,Zq,w1,w2,Ab];exact hN
theorem Em {P:Program} {S:B4} (hS:Zv P S) {f:FuncId} {F:List B2->Option (B2×Bool)} (hf:(P.funcs[f]?).any (fun fn=>fn.body.isSome)=true)
  (hF: ∀args v,F args=some (v,true)-> ∃bs vs,Vi Di args bs/\(∀(ρ:B6) (u:Value),VRel ρ (Ut vs) u->VRel ρ v u)/\Uj P (Zy P f) (Zm P f bs true []) vs/\ ∃d,pf d (Ut vs)=true):Zv P (S.with f F):=
 v0a hS hf fun args v h=>by obtain ⟨bs,vs,h1,h2,h3,d,h4⟩:=hF args v h;exact ⟨vs,h2,x8n h1 h3,d,h4⟩
theorem GW {cs cs':List B2} (h:DL cs cs') (ρ:B6) (u:Value) (hv:VRel ρ (.tup cs) u):VRel ρ (.tup cs') u:=by
 cases hv with
 | tup _ vs hl hh=>exact .tup cs' vs (by rw [<-h.len];exact hl) fun i h1 h2=>h.sound i (by rw [h.len];exact h1) h1 (hh i (by rw [h.len];exact h1) h2)
theorem G4 (α:Type) [Xc α]:Di .nils (.dat ([]:List α).length (Zz ([]:List α))):=.nild _
def fJo :List B2->Option (B2×Bool)
 | [.int .i64 x0,a1,a2]=>match CS R4 a1,CS R4 a2 with
  | some (L1,g1,n1),some (L2,g2,n2)=>some (.dat (Ca x0 L1 L2).length (Zz (Ca x0 L1 L2)),CO R4 n1 g1&&(CO R4 n2 g2&&(J2 x0 L1 L2)))
  | _,_=>none
 | _=>none
theorem Q6 {S:B4} (hS:Zv prog S):Zv prog (S.with j5k fJo):=by
 refine Qn hS (by kernel_rfl) fun args v h=> ?_;unfold fJo at h;split at h
 .rename_i x0 a1 a2;split at h
  .rename_i L1 g1 n1 L2 g2 n2 e1 e2;simp only [Ad,Ac,Ae] at h;obtain ⟨rfl,ho1,ho2,hw⟩:=h;obtain ⟨N,hN⟩:=j9z x0 L1 L2 hw;exact ⟨_,_,(.cons (.refl _) (.cons (Yn e1 ho1) (.cons (Yn e2 ho2) .nil))),rfl,u6i x0 L1 L2 N _ hN,3,rfl⟩
  .cases h
 .cases h
def T3 :B4:=T2.with j5k fJo
theorem Fa :Zv prog T3:=Q6 F9
open Go.Sort
def Re (r:R3):Bool:=decide (-1000000000<=r.a/\r.a<=1000000000)
def DZ (l:List R3):Bool:=l.all Re
abbrev E3 :={r:R3 // Re r=true}
instance : Inhabited E3:=⟨⟨⟨0,0,0⟩,rfl⟩⟩
def R9 (x y:E3):Int:=x.1.a - y.1.a
def lt3 (x y:E3):Bool:=decide (R9 x y<0)
theorem VI :SWO lt3 where
 irrefl x:=by unfold lt3 R9;simp
 trans x y z h1 h2:=by unfold lt3 R9 at*;simp at*;omega
 ntrans x y z h1 h2:=by unfold lt3 R9 at*;simp at*;omega
def EN :(l:List R3)->DZ l=true->List E3
 | [],_=>[]
 | r::l,h=>⟨r,by simp [DZ] at h;exact h.1⟩::EN l (by simp [DZ] at h ⊢;exact h.2)
theorem YA : ∀(l:List R3) (h:DZ l=true),(EN l h).map Subtype.val=l
 | [],_=>rfl
 | r::l,h=>by rw [EN,AT,YA l]
theorem S0 (l:List R3) (h:DZ l=true):(EN l h).length =l.length:=by
 have:=AR List.length (YA l h)
 simpa using this
def Cj (l:List R3):List R3:=if h:DZ l=true then (pdq lt3 (EN l h).toArray 0 l.length (Lib.bitLen l.length) true true).toList.map Subtype.val else l
theorem J8 (l:List R3) (h:DZ l=true):(Cj l).Perm l/\ ∀i j,i<j->j<(Cj l).length ->(rd (Cj l) i).a <=(rd (Cj l) j).a :=by
 have hp:=pdq_sorts lt3 VI (EN l h).toArray 0 l.length (Lib.bitLen l.length) true true (AA _) (by simp [S0]) (Or.inl rfl);obtain ⟨⟨h1,h2,h3⟩,h4⟩:=hp;have e:Cj l=(pdq lt3 (EN l h).toArray 0 l.length (Lib.bitLen l.length) true true).toList.map Subtype.val:=by unfold Cj;rw [dif_pos h]
 generalize pdq lt3 (EN l h).toArray 0 l.length (Lib.bitLen l.length) true true=d at*;have hs:d.size=l.length:=by rw [h1];simp [S0]
 constructor
 .rw [e];have x1:(d.extract 0 l.length).toList =d.toList:=by rw [<-hs];simp
  have x2:((EN l h).toArray.extract 0 l.length).toList =EN l h:=by rw [show l.length=(EN l h).toArray.size by simp [S0]];simp
  rw [x1,x2] at h3;have:=h3.map Subtype.val;rw [YA] at this;exact this
 .intro i j hij hj;rw [e] at hj ⊢;have hj':j<d.size:=by simpa using hj
  have:=h4 i j (AA _) hij (by omega);rw [getElem!_pos d i (by omega),getElem!_pos d j hj'] at this;rw [Yo (by simp;omega),Yo hj];simp only [List.getElem_map,Array.getElem_toList];unfold lt3 R9 at this;have:=Bf this;omega
open Go.RowKit Go.Shelf
variable {P:Program} {ρ:B6}
def EA :B2->Value
 | .int k n=>.int k n
 | .bool b=>.bool b
 | _=>.tuple #[]
def Nz :B2->Bool
 | .int _ _=>true
 | .bool _=>true
 | _=>false
theorem v5q {a:B2} (h:Nz a=true):VRel ρ a (EA a):=by
 cases a <;> first
  | exact .int _ _
  | exact .bool _
  | (simp [Nz] at h;done)
theorem v8r {a:B2} {v:Value} (h:Nz a=true) (hv:VRel ρ a v):v=EA a:=by
 cases hv <;> first
  | rfl
  | (simp [Nz] at h;done)
class j6t (α:Type) extends Xc α where
 num: ∀a:α,(cells a).all Nz=true
instance : j6t R2 where num _:=rfl
instance : j6t R3 where num _:=rfl
instance : j6t R4 where num _:=rfl
instance : j6t R6 where num _:=rfl
instance {α :Type} [Xc α]:Inhabited α:=⟨Xc.d⟩
section
variable {α:Type} [j6t α]
def Fe (a:α):List Value:=(Xc.cells a).map EA
theorem w5b (a:α):(Fe a).length =Xc.w α:=by rw [Fe,Bu,Xc.len]
theorem w9i (L:List α) (t:Nat) (h:t<L.length*Xc.w α):(flatK Fe (Xc.w α) L.toArray)[t]? =(Xc.cells (rd L (t / Xc.w α)))[t %Xc.w α]?.map EA:=by
 have hw:=Xc.pos (α:=α);have hq:t / Xc.w α<L.length:=A9 (by grind);have hj:t %Xc.w α<Xc.w α:=Bq _ hw
 grind [flatK,Fe,Yo,Xc.len]
theorem v8b (L:List α) (N t:Nat) (h:t<N*Xc.w α):(Ya N (Zz L))[t]? =(Xc.cells (rd L (t / Xc.w α)))[t %Xc.w α]? :=by have hw:=Xc.pos (α:=α);have:=Vf (get:=Zz L) (sz:=Xc.w α) N (fun _ _=>Xc.len _) (t / Xc.w α) (t %Xc.w α) (A9 (by grind)) (Bq _ hw);rw [show t / Xc.w α*Xc.w α+t %Xc.w α=t by rw [BC];exact Bt t _] at this;exact this
theorem XE (L:List α) (N:Nat):(Ya N (Zz L)).length =N*Xc.w α:=Ye N fun _ _=>Xc.len _
theorem y9d (w:World) (n blk off:Nat) (d:Array Value) (os:Array Obj) (k:Nat) (hk:k<w.heap.size):
  (grow (putRow id (Go.Sort.ahead w n) blk off d) os).heap[k]? =if k=blk then (w.heap[k]?).map (onCells (putCells id off d)) else w.heap[k]? :=by
 show (((Go.Sort.ahead w n).heap.modify blk (onCells (putCells id off d)))++os)[k]? =_;rw [Array.getElem?_append_left (by simp_all),Array.getElem?_modify];show (if blk=k then _ else _)=_;by_cases h:k=blk
 .simp_all
 .rw [Aw (fun e=>h e.symm),Aw h];rfl
def w9j (α:Type) [Xc α] (srt:List α->List α) (bnd:List α->Bool) (g:FuncId) (args:List B2) (mem:CD):Option (B2×Nat×CG×Bool):=match args with
 | [.sla b sz off n cap,.fn f []]=>bif Nat.beq f g then match Yr mem b with
  | some ⟨_,ty,some A⟩=>some (.tup [],b,⟨Ya A.n (Zz (srt (Cn α n A.get))),ty,some ⟨Xc.w α,A.n,Zz (srt (Cn α n A.get))⟩⟩,
    Nat.beq sz (Xc.w α)&&(Nat.beq A.sz (Xc.w α)&&(Nat.beq off 0&&((decide (n=A.n)&&(CO α n A.get&&decide (n<4611686018427387904)))&&bnd (Cn α n A.get)))))
  | _=>none
  else none
 | _=>none
theorem u2d {f g:FuncId} {srt:List α->List α} {bnd:List α->Bool} (hsl: ∀L,(srt L).length =L.length)
  (hC: ∀(blk off cap:Nat) (L:List α) (w:World),bnd L=true->HoldsK Fe (Xc.w α) w blk off L.toArray->blk<w.heap.size->L.length<4611686018427387904->
   Calls P f #[.slice (some ⟨blk,off,none⟩) L.length cap,.func (.func g) #[] #[]] w fun e w'=>e=.returned (.tuple #[])/\ ∃n os,w'=sortWorldK Fe (Xc.w α) w blk off n (srt L).toArray os)
  (hN: ∀(p:Option Addr) (cap:Nat) (fv:Value) (w:World),Calls P f #[.slice p 0 cap,fv] w fun e w'=>e=.returned (.tuple #[])/\w'=w):KJ P f (w9j α srt bnd g):=by
 intro args mem v b blk h gA ρ next floor vals w hfl dX dU
 have hw0:=Xc.pos (α:=α);unfold w9j at h;split at h
 .rename_i b0 sz off n cap f0;obtain ⟨hfg,h'⟩:=H4 h;clear h;obtain rfl:=Aj hfg;have h:=h';clear h';split at h
  .rename_i cells ty A hm;obtain ⟨asz,an,get⟩:=A;simp only [Ad,Ac,Ae] at h;obtain ⟨rfl,rfl,rfl,h1,h2,h3,⟨h4,h5,h6⟩,h7⟩:=h;have g1:=Aj h1;have g2:=Aj h2;have g3:=Aj h3;have g4:n=an:=Az h4;have h6:n<4611686018427387904:=Az h6;have g2:asz=Xc.w α:=g2;subst g1;subst g2;subst g3;subst g4;have h7:bnd (Cn α n get.get)=true:=h7;have eD:=w8z h5;have eD: ∀i,i<n->get.get i=Zz (Cn α n get.get) i:=eD;have hrows:Ya n get.get=Ya n (Zz (Cn α n get.get)):=y1z n eD;obtain ⟨u,hu,hvals⟩: ∃u,VRel ρ (.sla b0 (Xc.w α) 0 n cap) u/\vals= #[u,.func (.func f0) #[] #[]]:=by
    obtain ⟨vl⟩:=vals;cases dX with
    | cons q1 q2=>cases q2 with
     | cons q3 q4=>
      cases q4;cases q3 with
      | fn _ _ cvs hl _=>
       grind
   subst hvals;have hlt:b0<next:=by
    rcases A7 b0 next with q | q
    .exact q
    .have:=dU.bd b0 q;grind
   show Calls P f _ w _;have hAget:(GS.get ⟨Xc.w α,n,get⟩)=get.get:=rfl;rw [hAget] at*;generalize hI:Cn α n get.get=I at*;have hIl:I.length=n:=by rw [<-hI];exact x2q _ _
   generalize hL:srt I=L;have hLl:L.length=n:=by grind
   have hnn:ρ b0=none-> ∀cs ty',Yr mem b0≠some ⟨cs,ty',none⟩:=fun _ cs ty' e=>by grind
   cases hu with
   | sla _ _ _ _ _ l cc e hc dV=>
    have hbk:=dU.blk b0 l _ e hm;obtain ⟨har,_,_⟩:=hbk.arr _ rfl;have har:cells=Ya n get.get:=har;rw [hrows] at har;subst har;obtain ⟨cur,el,hh,hsz,dZ⟩:=hbk.cells;simp only [XE] at dZ;have htot:=hbk.tot;have hln:=hbk.n;simp only [XE] at hln;have fD: ∀t,t<n*Xc.w α->cur[l.base+t]? =(Xc.cells (rd I (t / Xc.w α)))[t %Xc.w α]?.map EA:=fun t ht=>by
     obtain ⟨v,e1,e2⟩:=dZ t ht;have hj:t %Xc.w α<Xc.w α:=Bq _ hw0;have hl2:t %Xc.w α<(Xc.cells (rd I (t / Xc.w α))).length :=by rw [Xc.len];exact hj
     have e3:=v8b I n t ht
     grind [v8r,j6t.num]
    have fI:=dU.real b0 l e;have hH:HoldsK Fe (Xc.w α) w l.blk (l.base+0*Xc.w α) I.toArray:=fun j hj=>by
     have hj:j<n*Xc.w α:=(by simp_all);have hs:j<(flatK Fe (Xc.w α) I.toArray).size :=(by grind);have e1:=w9i I j (by grind)
     grind [World.cell?,World.frozen?]
    have eI:=hC l.blk (l.base+0*Xc.w α) cc I w h7 hH fI (by omega);rw [hIl,hL] at eI;refine eI.mono fun e' w' ⟨he,q,os,hw'⟩=>⟨_,he,?_,?_,?_⟩
    .exact .tup [] #[] rfl fun i h1 h2=>absurd h1 (AL _)
    .subst hw';refine B7.setArr ?_ ⟨Xc.w α,n,.flat (Zz L)⟩ rfl hw0 fun _ _=>Xc.len _;refine B7.rewritten dU e hm (by simp only [XE]) (fun k hk hne=> ?_) ?_ ?_
     .exact (y9d _ _ _ _ _ _ _ hk).trans (Aw hne)
     .show _<=(((Go.Sort.ahead w q).heap.modify _ _)++os).size;simp_all
     .refine ⟨putCells id (l.base+0*Xc.w α) (flatK Fe (Xc.w α) L.toArray) cur,el,?_,?_,fun i hi=> ?_⟩
      .refine (y9d _ _ _ _ _ _ _ fI).trans ?_;rw [AG rfl,hh];rfl
      .grind [putCells]
      .rw [XE] at hi;have hj:i %Xc.w α<Xc.w α:=Bq _ hw0;have hl2:i %Xc.w α<(Xc.cells (rd L (i / Xc.w α))).length :=by rw [Xc.len];exact hj
       have hl3:i %Xc.w α<(Xc.cells (rd I (i / Xc.w α))).length :=(by grind);have e1:=w9i L i (by grind);rw [Au hl2,Option.map_some] at e1;have hs:i<(flatK Fe (Xc.w α) L.toArray).size :=(by grind);rw [Bz hs] at e1;have e3:=v8b L n i hi;rw [Au (by grind),Au hl2] at e3;refine ⟨EA (Xc.cells (rd L (i / Xc.w α)))[i %Xc.w α],?_,?_⟩
       .simp_all [putCells]
       grind [v5q,j6t.num]
    .subst hw';refine Ev.rewritten dU _ (fun l' _=>hfl) hnn (fun k hk hne=> ?_) ?_ rfl rfl rfl
     .exact (y9d _ _ _ _ _ _ _ hk).trans (Aw (hne l e))
     .show _<=(((Go.Sort.ahead w q).heap.modify _ _)++os).size;simp_all
   | slan=>
    have hI0:I=[]:=List.eq_nil_of_length_eq_zero hIl;have hL0:L=[]:=List.eq_nil_of_length_eq_zero hLl;refine (hN none 0 _ w).mono fun e' w' ⟨he,hw'⟩=>⟨_,he,?_,?_,?_⟩
    .exact .tup [] #[] rfl fun i h1 h2=>absurd h1 (AL _)
    .subst hw';refine dU.reblk hm fun l hρ hbk=> ?_;obtain ⟨har,fQ,_⟩:=hbk.arr _ rfl;have har:cells=Ya 0 get.get:=har;subst har;exact ⟨hbk.n,hbk.tot,fun B hB=>by obtain rfl:=Ag hB;exact ⟨rfl,hw0,fun i hi=>absurd hi (AL _)⟩,hbk.cells⟩
    grind [Ev.rewritten]
  .cases h
 .cases h
end
def B4.withE (S:B4) (f:FuncId) (F:List B2->CD->Option (B2×Nat×CG×Bool)):B4:=fun g=>bif Nat.beq g f then some (.eff F) else S g
theorem x3o {P:Program} {S:B4} (hS:Zv P S) {f:FuncId} {F:List B2->CD->Option (B2×Nat×CG×Bool)} (hf:(P.funcs[f]?).any (fun fn=>fn.body.isSome)=true) (hF:KJ P f F):Zv P (S.withE f F):=by
 intro g G hg;unfold B4.withE at hg;cases hgf:Nat.beq g f with
 | false=>rw [hgf] at hg;exact hS g G hg
 | true=>
  rw [hgf] at hg;obtain rfl:Fy.eff F=G:=Ag hg;obtain rfl:g=f:=Aj hgf;refine ⟨?_,hF⟩
  grind
end Go.Am
namespace Go.Proofs
open Go.Proofs.Tryz
open Go.Shelf
def Tryz.lays189_ren :Go.Shelf.Ren:=⟨fun | 189=>111 | 125=>151 | 257=>150 | 128=>174 | 129=>175 | 294=>165 | 295=>166 | 296=>167 | 297=>168 | 298=>169 | 299=>170 | 216=>171 | 300=>172 | 301=>173 | 328=>185 | 329=>186 | 330=>187 | 331=>188 | 332=>189 | 215=>190 | 343=>196 | n=>n,fun | 28=>125 | 3=>3 | 46=>191 | 0=>0 | 51=>216 | 53=>218 | 4=>4 | 183=>208 | 182=>207 | 131=>213 | 5=>5 | 9=>9 | 218=>228 | 222=>232 | 228=>241 | 229=>119 | n=>n,fun | n=>n⟩
theorem Tryz.lays189 :Go.Proofs.Lays.n189 prog Tryz.lays189_ren:={
 mixed:=by kernel_rfl
 f125:=Tryz.func151.trans (congrArg some (by kernel_rfl))
 f128:=Tryz.func174.trans (congrArg some (by kernel_rfl))
 f129:=Tryz.func175.trans (congrArg some (by kernel_rfl))
 f189:=Tryz.func111.trans (congrArg some (by kernel_rfl))
 f215:=Tryz.func190.trans (congrArg some (by kernel_rfl))
 f216:=Tryz.func171.trans (congrArg some (by kernel_rfl))
 f257:=Tryz.func150.trans (congrArg some (by kernel_rfl))
 f294:=Tryz.func165.trans (congrArg some (by kernel_rfl))
 f295:=Tryz.func166.trans (congrArg some (by kernel_rfl))
 f296:=Tryz.func167.trans (congrArg some (by kernel_rfl))
 f297:=Tryz.func168.trans (congrArg some (by kernel_rfl))
 f298:=Tryz.func169.trans (congrArg some (by kernel_rfl))
 f299:=Tryz.func170.trans (congrArg some (by kernel_rfl))
 f300:=Tryz.func172.trans (congrArg some (by kernel_rfl))
 f301:=Tryz.func173.trans (congrArg some (by kernel_rfl))
 f328:=Tryz.func185.trans (congrArg some (by kernel_rfl))
 f329:=Tryz.func186.trans (congrArg some (by kernel_rfl))
 f330:=Tryz.func187.trans (congrArg some (by kernel_rfl))
 f331:=Tryz.func188.trans (congrArg some (by kernel_rfl))
 f332:=Tryz.func189.trans (congrArg some (by kernel_rfl))
 f343:=Tryz.func196.trans (congrArg some (by kernel_rfl))
 t0:=Tryz.underlying0
 a0:=Tryz.isAgg0
 z0:=Tryz.sizeOf0
 v0:=Tryz.zeroValue0
 t3:=Tryz.underlying3
 a3:=Tryz.isAgg3
 z3:=Tryz.sizeOf3
 v3:=Tryz.zeroValue3
 t4:=Tryz.underlying4
 a4:=Tryz.isAgg4
 z4:=Tryz.sizeOf4
 v4:=Tryz.zeroValue4
 t5:=Tryz.underlying5
 a5:=Tryz.isAgg5
 z5:=Tryz.sizeOf5
 v5:=Tryz.zeroValue5
 t9:=Tryz.underlying9
 a9:=Tryz.isAgg9
 z9:=Tryz.sizeOf9
 v9:=Tryz.zeroValue9
 t28:=Tryz.underlying125
 a28:=Tryz.isAgg125
 z28:=Tryz.sizeOf125
 v28:=Tryz.zeroValue125
 t46:=Tryz.underlying191
 a46:=Tryz.isAgg191
 z46:=Tryz.sizeOf191
 v46:=Tryz.zeroValue191
 t51:=Tryz.underlying216
 a51:=Tryz.isAgg216
 z51:=Tryz.sizeOf216
 v51:=Tryz.zeroValue216
 t53:=Tryz.underlying218
 a53:=Tryz.isAgg218
 z53:=Tryz.sizeOf218
 v53:=Tryz.zeroValue218
 t131:=Tryz.underlying213
 a131:=Tryz.isAgg213
 z131:=Tryz.sizeOf213
 v131:=Tryz.zeroValue213
 t182:=Tryz.underlying207
 a182:=Tryz.isAgg207
 z182:=Tryz.sizeOf207
 v182:=Tryz.zeroValue207
 t183:=Tryz.underlying208
 a183:=Tryz.isAgg208
 z183:=Tryz.sizeOf208
 v183:=Tryz.zeroValue208
 t218:=Tryz.underlying228
 a218:=Tryz.isAgg228
 z218:=Tryz.sizeOf228
 v218:=Tryz.zeroValue228
 t222:=Tryz.underlying232
 a222:=Tryz.isAgg232
 z222:=Tryz.sizeOf232
 v222:=Tryz.zeroValue232
 t228:=Tryz.underlying241
 a228:=Tryz.isAgg241
 z228:=Tryz.sizeOf241
 v228:=Tryz.zeroValue241
 t229:=Tryz.underlying119
 a229:=Tryz.isAgg119
 z229:=Tryz.sizeOf119
 v229:=Tryz.zeroValue119}
open Go.Sort Go.RowKit in
theorem Tryz.slices_Sort_int (blk off cap:Nat) (zs:List Int) (w:World) (hH:Holds (Value.int .i64) w blk off zs.toArray) (fI:blk<w.heap.size) (hsz:zs.length<4611686018427387904):
  Calls prog 111 #[.slice (some ⟨blk,off,none⟩) zs.length cap] w fun e w'=>
   e=.returned (.tuple #[])/\ ∃n os,w'=grow (putRow (Value.int .i64) (Sort.ahead w n) blk off (zs.mergeSort fun x y=>decide (x<=y)).toArray) os:=Any.slices_Sort_int Tryz.lays189 blk off cap zs w hH fI hsz
def Tryz.laysNm220_ren :Go.Shelf.Ren:=⟨fun | 20=>113 | n=>n,fun | 22=>125 | 3=>3 | 4=>4 | 0=>0 | n=>n,fun | n=>n⟩
theorem Tryz.laysNm220 :Go.Proofs.Lays2.n20 prog Tryz.laysNm220_ren:={
 mixed:=by kernel_rfl
 f20:=Tryz.func113.trans (congrArg some (by kernel_rfl))
 t0:=Tryz.underlying0
 a0:=Tryz.isAgg0
 z0:=Tryz.sizeOf0
 v0:=Tryz.zeroValue0
 t3:=Tryz.underlying3
 a3:=Tryz.isAgg3
 z3:=Tryz.sizeOf3
 v3:=Tryz.zeroValue3
 t4:=Tryz.underlying4
 a4:=Tryz.isAgg4
 z4:=Tryz.sizeOf4
 v4:=Tryz.zeroValue4
 t22:=Tryz.underlying125
 a22:=Tryz.isAgg125
 z22:=Tryz.sizeOf125
 v22:=Tryz.zeroValue125
 i3:=by kernel_rfl}
open Go.RowKit Go.Lib Go.Sort in
theorem Tryz.slices_Compact_int (blk off cap:Nat) (zs:List Int) (w:World) (hH:Holds (Value.int .i64) w blk off zs.toArray) (hsz:zs.length<=9223372036854775807) (eC:zs.length<=cap):
  Calls prog 113 #[.slice (some ⟨blk,off,none⟩) zs.length cap] w fun e w'=>e=.returned (.slice (some ⟨blk,off,none⟩) (Lib.compact zs).length cap)/\ ∃q,w'=putRow (Value.int .i64) (Sort.ahead w q) blk off (Lib.compact zs++List.replicate (zs.length - (Lib.compact zs).length) 0).toArray :=Any.slices_Compact_int Tryz.laysNm220 blk off cap zs w hH hsz eC
open Go.RowKit Go.Lib Go.Sort in
theorem Tryz.slices_Compact_int_empty (a:Option Addr) (cap:Nat) (w:World):
  Calls prog 113 #[.slice a 0 cap] w fun e w'=>e=.returned (.slice a 0 cap)/\w'=w:=Any.slices_Compact_int_empty Tryz.laysNm220 a cap w
open Go.RowKit Go.Sort in
theorem Tryz.slices_Sort_int_none (p:Option Addr) (cap:Nat) (w:World):
  Calls prog 111 #[.slice p 0 cap] w fun e w'=>e=.returned (.tuple #[])/\w'=w:=Any.slices_Sort_int_none Tryz.lays189 p cap w
def Tryz.sortEnd_ren :Go.Shelf.Ren:=⟨fun | 6=>193 | 15=>151 | 14=>197 | 28=>174 | 29=>175 | 20=>199 | 21=>200 | 22=>201 | 23=>202 | 24=>203 | 25=>204 | 26=>205 | 27=>206 | 46=>207 | 47=>186 | 48=>187 | 49=>208 | 50=>209 | 57=>210 | n=>n,fun | 22=>236 | 24=>227 | 25=>238 | 3=>3 | 39=>191 | 0=>0 | 53=>216 | 55=>218 | 4=>4 | 46=>208 | 45=>207 | 50=>213 | 5=>5 | 9=>9 | 66=>228 | 70=>232 | 76=>241 | 77=>119 | n=>n,fun | n=>n⟩
theorem Tryz.sortEnd :Go.Proofs.SlLaysF0.n6 prog Tryz.sortEnd_ren:={
 mixed:=by kernel_rfl
 f6:=⟨Tryz.f193.name,by decide,Tryz.func193.trans (congrArg some (by kernel_rfl))⟩
 f14:=⟨Tryz.f197.name,by decide,Tryz.func197.trans (congrArg some (by kernel_rfl))⟩
 f15:=Tryz.func151.trans (congrArg some (by kernel_rfl))
 f20:=⟨Tryz.f199.name,by decide,Tryz.func199.trans (congrArg some (by kernel_rfl))⟩
 f21:=⟨Tryz.f200.name,by decide,Tryz.func200.trans (congrArg some (by kernel_rfl))⟩
 f22:=⟨Tryz.f201.name,by decide,Tryz.func201.trans (congrArg some (by kernel_rfl))⟩
 f23:=⟨Tryz.f202.name,by decide,Tryz.func202.trans (congrArg some (by kernel_rfl))⟩
 f24:=⟨Tryz.f203.name,by decide,Tryz.func203.trans (congrArg some (by kernel_rfl))⟩
 f25:=⟨Tryz.f204.name,by decide,Tryz.func204.trans (congrArg some (by kernel_rfl))⟩
 f26:=⟨Tryz.f205.name,by decide,Tryz.func205.trans (congrArg some (by kernel_rfl))⟩
 f27:=⟨Tryz.f206.name,by decide,Tryz.func206.trans (congrArg some (by kernel_rfl))⟩
 f28:=Tryz.func174.trans (congrArg some (by kernel_rfl))
 f29:=Tryz.func175.trans (congrArg some (by kernel_rfl))
 f46:=⟨Tryz.f207.name,by decide,Tryz.func207.trans (congrArg some (by kernel_rfl))⟩
 f47:=Tryz.func186.trans (congrArg some (by kernel_rfl))
 f48:=Tryz.func187.trans (congrArg some (by kernel_rfl))
 f49:=⟨Tryz.f208.name,by decide,Tryz.func208.trans (congrArg some (by kernel_rfl))⟩
 f50:=⟨Tryz.f209.name,by decide,Tryz.func209.trans (congrArg some (by kernel_rfl))⟩
 f57:=⟨Tryz.f210.name,by decide,Tryz.func210.trans (congrArg some (by kernel_rfl))⟩
 t0:=Tryz.underlying0
 a0:=Tryz.isAgg0
 z0:=Tryz.sizeOf0
 v0:=Tryz.zeroValue0
 t3:=Tryz.underlying3
 a3:=Tryz.isAgg3
 z3:=Tryz.sizeOf3
 v3:=Tryz.zeroValue3
 t4:=Tryz.underlying4
 a4:=Tryz.isAgg4
 z4:=Tryz.sizeOf4
 v4:=Tryz.zeroValue4
 t5:=Tryz.underlying5
 a5:=Tryz.isAgg5
 z5:=Tryz.sizeOf5
 v5:=Tryz.zeroValue5
 t9:=Tryz.underlying9
 a9:=Tryz.isAgg9
 z9:=Tryz.sizeOf9
 v9:=Tryz.zeroValue9
 t22:=Tryz.underlying236
 a22:=Tryz.isAgg236
 z22:=Tryz.sizeOf236
 v22:=Tryz.zeroValue236
 t25:=Tryz.underlying238
 a25:=Tryz.isAgg238
 z25:=Tryz.sizeOf238
 v25:=Tryz.zeroValue238
 t39:=Tryz.underlying191
 a39:=Tryz.isAgg191
 z39:=Tryz.sizeOf191
 v39:=Tryz.zeroValue191
 t45:=Tryz.underlying207
 a45:=Tryz.isAgg207
 z45:=Tryz.sizeOf207
 v45:=Tryz.zeroValue207
 t46:=Tryz.underlying208
 a46:=Tryz.isAgg208
 z46:=Tryz.sizeOf208
 v46:=Tryz.zeroValue208
 t50:=Tryz.underlying213
 a50:=Tryz.isAgg213
 z50:=Tryz.sizeOf213
 v50:=Tryz.zeroValue213
 t53:=Tryz.underlying216
 a53:=Tryz.isAgg216
 z53:=Tryz.sizeOf216
 v53:=Tryz.zeroValue216
 t55:=Tryz.underlying218
 a55:=Tryz.isAgg218
 z55:=Tryz.sizeOf218
 v55:=Tryz.zeroValue218
 t66:=Tryz.underlying228
 a66:=Tryz.isAgg228
 z66:=Tryz.sizeOf228
 v66:=Tryz.zeroValue228
 t70:=Tryz.underlying232
 a70:=Tryz.isAgg232
 z70:=Tryz.sizeOf232
 v70:=Tryz.zeroValue232
 t76:=Tryz.underlying241
 a76:=Tryz.isAgg241
 z76:=Tryz.sizeOf241
 v76:=Tryz.zeroValue241
 t77:=Tryz.underlying119
 a77:=Tryz.isAgg119
 z77:=Tryz.sizeOf119
 v77:=Tryz.zeroValue119}
open Go.RowKit Go.Lib Go.Sort
theorem Tryz.cmpEnd (a b c a' b' c':Int) (h: -1000000000<=a/\a<=1000000000) (h': -1000000000<=a'/\a'<=1000000000) (W:World):
  Calls prog 194 #[.agg #[.int .i64 a,.int .i64 b,.int .i64 c],.agg #[.int .i64 a',.int .i64 b',.int .i64 c']] W fun e w'=>e=.returned (.int .i64 (a - a'))/\ ∃q os',w'=grow (W.drewN q) os':=by
 go_enter Tryz.func194,Tryz.ntmps194
 go_wp2
 go_ret
 exact ⟨rfl,0,_,by rw [alloc_eq_grow,alloc_eq_grow,grow_grow];rfl⟩
end Go.Proofs
end
