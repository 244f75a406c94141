/- A part of a proof: several texts in one. -/
import Derived.Test.YtijpnpkolglajaaGreatKj2
import Derived.Shelf.GgSortFunc.InsertionK
import Derived.Shelf.Sort.Plain
import Derived.Ground.Names2Prog
import Derived.Shelf.Slices.CompactI
import Derived.Shelf.Slices.SearchI
import Derived.Shelf.Slices.Cells
import Derived.Shelf.Slices.In.SortNone
import Derived.Shelf.SlSortCmp.WholeK
import Derived.Ground.SlsfProg
import Derived.Test.YtijpnpkolglajaaGreatProg
import Derived.Shelf.SlSortCmp.NoneTotal
set_option maxRecDepth 1000000
set_option maxHeartbeats 8000000
set_option linter.unusedVariables false
set_option linter.unusedSimpArgs false
noncomputable section
namespace Go.Am
open Go.Sort Go.RowKit Go.Proofs Go.Shelf
variable {P:Program} {ρ:Rho}
def valOf :AVal→Value
 | .int k n=>.int k n
 | .bool b=>.bool b
 | _=>.tuple #[]
def x7k :AVal→Bool
 | .int _ _=>true
 | .bool _=>true
 | _=>false
theorem w6b {a:AVal} (h:x7k a=true):Ym ρ a (valOf a):=by
 cases a <;> first
  | exact .int _ _
  | exact .bool _
  | (simp [x7k] at h;done)
theorem w8q {a:AVal} {v:Value} (h:x7k a=true) (hv:Ym ρ a v):v=valOf a:=by
 cases hv <;> first
  | rfl
  | (simp [x7k] at h;done)
class u4w (α:Type) extends Xu α where
 num: ∀a:α,(cells a).all x7k=true
instance : u4w R2 where num _:=rfl
instance : u4w R3 where num _:=rfl
instance : u4w R4 where num _:=rfl
instance : u4w R6 where num _:=rfl
instance {α :Type} [Xu α]:Inhabited α:=⟨Xu.d⟩
section
variable {α:Type} [u4w α]
def y8v (a:α):List Value:=(Xu.cells a).map valOf
theorem y4w (a:α):(y8v a).length =Xu.w α:=by rw [y8v,List.length_map,Xu.len]
theorem w1s (L:List α) (t:Nat) (h:t<L.length*Xu.w α):(flatK y8v (Xu.w α) L.toArray)[t]? =(Xu.cells (rd L (t / Xu.w α)))[t %Xu.w α]?.map valOf:=by
 have hw:=Xu.pos (α:=α);have hq:t / Xu.w α<L.length:=Nat.div_lt_of_lt_mul (by rw [Nat.mul_comm];exact h);have hj:t %Xu.w α<Xu.w α:=Nat.mod_lt _ hw;have hs:t<(flatK y8v (Xu.w α) L.toArray).size :=by rw [size_flatK];exact h
 rw [Array.getElem?_eq_getElem hs,←getElem!_pos (flatK y8v (Xu.w α) L.toArray) t hs,get_flatK y8v (Xu.w α) L.toArray t (by simpa using h)];have e1:L.toArray[t / Xu.w α]! =rd L (t / Xu.w α):=by rw [Yt hq,getElem!_pos L.toArray _ (by simpa using hq)];simp
 rw [e1];have hl:t %Xu.w α<(y8v (rd L (t / Xu.w α))).length :=by rw [y4w];exact hj
 have hl2:t %Xu.w α<(Xu.cells (rd L (t / Xu.w α))).length :=by rw [Xu.len];exact hj
 rw [getElem!_pos (y8v (rd L (t / Xu.w α))) _ hl,List.getElem?_eq_getElem hl2];simp [y8v]
theorem w7w (L:List α) (N t:Nat) (h:t<N*Xu.w α):(rows N (Zz L))[t]? =(Xu.cells (rd L (t / Xu.w α)))[t %Xu.w α]? :=by have hw:=Xu.pos (α:=α);have:=Wo (get:=Zz L) (sz:=Xu.w α) N (fun _ _=>Xu.len _) (t / Xu.w α) (t %Xu.w α) (Nat.div_lt_of_lt_mul (by rw [Nat.mul_comm];exact h)) (Nat.mod_lt _ hw);rw [show t / Xu.w α*Xu.w α+t %Xu.w α=t by rw [Nat.mul_comm];exact Nat.div_add_mod t _] at this;exact this
theorem z1f (L:List α) (N:Nat):(rows N (Zz L)).length =N*Xu.w α:=Ya N fun _ _=>Xu.len _
theorem y4i (w:World) (n blk off:Nat) (d:Array Value) (os:Array Obj) (k:Nat) (hk:k<w.heap.size):
  (grow (putRow id (Go.Sort.ahead w n) blk off d) os).heap[k]? =if k=blk then (w.heap[k]?).map (onCells (putCells id off d)) else w.heap[k]? :=by
 show (((Go.Sort.ahead w n).heap.modify blk (onCells (putCells id off d)))++os)[k]? =_;rw [Array.getElem?_append_left (by simp;exact hk),Array.getElem?_modify];show (if blk=k then _ else _)=_;by_cases h:k=blk
 ·rw [if_pos h.symm,if_pos h];rfl
 ·rw [if_neg (fun e=>h e.symm),if_neg h];rfl
def w1t (α:Type) [Xu α] (srt:List α→List α) (bnd:List α→Bool) (g:FuncId) (args:List AVal) (mem:Mem):Option (AVal×Nat×ABlk×Bool):=match args with
 | [.sla b sz off n cap,.fn f []]=>bif Nat.beq f g then match Xv mem b with
  | some ⟨_,ty,some A⟩=>some (.tup [],b,⟨rows A.n (Zz (srt (lst α n A.get))),ty,some ⟨Xu.w α,A.n,Zz (srt (lst α n A.get))⟩⟩,
    Nat.beq sz (Xu.w α)&&(Nat.beq A.sz (Xu.w α)&&(Nat.beq off 0&&((decide (n=A.n)&&(isT α n A.get&&decide (n<4611686018427387904)))&&bnd (lst α n A.get)))))
  | _=>none
  else none
 | _=>none
theorem v1p {f g:FuncId} {srt:List α→List α} {bnd:List α→Bool} (hsl: ∀L,(srt L).length =L.length)
  (hC: ∀(blk off cap:Nat) (L:List α) (w:World),bnd L=true→HoldsK y8v (Xu.w α) w blk off L.toArray→blk<w.heap.size→L.length<4611686018427387904→
   Calls P f #[.slice (some ⟨blk,off,none⟩) L.length cap,.func (.func g) #[] #[]] w fun e w'=>e=.returned (.tuple #[])∧ ∃n os,w'=sortWorldK y8v (Xu.w α) w blk off n (srt L).toArray os)
  (hN: ∀(p:Option Addr) (cap:Nat) (fv:Value) (w:World),Calls P f #[.slice p 0 cap,fv] w fun e w'=>e=.returned (.tuple #[])∧w'=w):x4u P f (w1t α srt bnd g):=by
 intro args mem v b blk h hsome ρ next floor vals w hfl eL eG
 have hw0:=Xu.pos (α:=α);unfold w1t at h;split at h
 ·rename_i b0 sz off n cap f0;obtain ⟨hfg,h'⟩:=Qb h;clear h;obtain rfl:=Nat.eq_of_beq_eq_true hfg;have h:=h';clear h';split at h
  ·rename_i cells ty A hm;obtain ⟨asz,an,get⟩:=A;simp only [Option.some.injEq,Prod.mk.injEq,Bool.and_eq_true] at h;obtain ⟨rfl,rfl,rfl,h1,h2,h3,⟨h4,h5,h6⟩,h7⟩:=h;have g1:=Nat.eq_of_beq_eq_true h1;have g2:=Nat.eq_of_beq_eq_true h2;have g3:=Nat.eq_of_beq_eq_true h3;have g4:n=an:=of_decide_eq_true h4;have h6:n<4611686018427387904:=of_decide_eq_true h6;have g2:asz=Xu.w α:=g2;subst g1;subst g2;subst g3;subst g4;have h7:bnd (lst α n get.get)=true:=h7;have eQ:=w1i h5;have eQ: ∀i,i<n→get.get i=Zz (lst α n get.get) i:=eQ;have hrows:rows n get.get=rows n (Zz (lst α n get.get)):=z4n n eQ;obtain ⟨u,hu,hvals⟩: ∃u,Ym ρ (.sla b0 (Xu.w α) 0 n cap) u∧vals= #[u,.func (.func f0) #[] #[]]:=by
    obtain ⟨vl⟩:=vals;cases eL with
    | cons q1 q2=>cases q2 with
     | cons q3 q4=>
      cases q4;cases q3 with
      | fn _ _ cvs hl _=>have:cvs= #[]:=Array.eq_empty_of_size_eq_zero (by simpa using hl.symm);subst this;exact ⟨_,q1,rfl⟩
   subst hvals;have hlt:b0<next:=by
    rcases Nat.lt_or_ge b0 next with q | q
    ·exact q
    ·have:=eG.bd b0 q;rw [hm] at this;cases this
   show Calls P f _ w _;have hAget:(Arr.get ⟨Xu.w α,n,get⟩)=get.get:=rfl;rw [hAget] at*;generalize hI:lst α n get.get=I at*;have hIl:I.length=n:=by rw [←hI];exact z8y _ _
   generalize hL:srt I=L;have hLl:L.length=n:=by rw [←hL,hsl,hIl]
   have hnn:ρ b0=none→ ∀cs ty',Xv mem b0≠some ⟨cs,ty',none⟩:=fun _ cs ty' e=>by rw [hm] at e;cases e
   cases hu with
   | sla _ _ _ _ _ l cc e hc eH=>
    have hbk:=eG.blk b0 l _ e hm;obtain ⟨har,_,_⟩:=hbk.arr _ rfl;have har:cells=rows n get.get:=har;rw [hrows] at har;subst har;obtain ⟨cur,el,hh,hsz,eO⟩:=hbk.cells;simp only [z1f] at eO;have htot:=hbk.tot;have hln:=hbk.n;simp only [z1f] at hln;have fC: ∀t,t<n*Xu.w α→cur[l.base+t]? =(Xu.cells (rd I (t / Xu.w α)))[t %Xu.w α]?.map valOf:=fun t ht=>by
     obtain ⟨v,e1,e2⟩:=eO t ht;have hj:t %Xu.w α<Xu.w α:=Nat.mod_lt _ hw0;have hl2:t %Xu.w α<(Xu.cells (rd I (t / Xu.w α))).length :=by rw [Xu.len];exact hj
     have e3:=w7w I n t ht;rw [List.getElem?_eq_getElem (by rw [z1f];exact ht),List.getElem?_eq_getElem hl2] at e3;rw [Option.some.inj e3] at e2;rw [e1,List.getElem?_eq_getElem hl2,Option.map_some,w8q (List.all_eq_true.1 (u4w.num _) _ (List.getElem_mem hl2)) e2]
    have fR:=eG.real b0 l e;have hH:HoldsK y8v (Xu.w α) w l.blk (l.base+0*Xu.w α) I.toArray:=fun j hj=>by
     have hj:j<n*Xu.w α:=(by simpa [hIl] using hj);have hs:j<(flatK y8v (Xu.w α) I.toArray).size :=(by simpa [hIl] using hj);have e1:=w1s I j (by rw [hIl];exact hj);rw [Array.getElem?_eq_getElem hs] at e1;refine ⟨?_,?_⟩
     ·simp only [World.cell?,hh,Nat.zero_mul,Nat.add_zero,id];rw [fC j hj,←e1,getElem!_pos (flatK y8v (Xu.w α) I.toArray) j hs];simp
     ·simp [World.frozen?,hh]
    have fA:=hC l.blk (l.base+0*Xu.w α) cc I w h7 hH fR (by omega);rw [hIl,hL] at fA;refine fA.mono fun e' w' ⟨he,q,os,hw'⟩=>⟨_,he,?_,?_,?_⟩
    ·exact .tup [] #[] rfl fun i h1 h2=>absurd h1 (Nat.not_lt_zero _)
    ·subst hw';refine Rel.setArr ?_ ⟨Xu.w α,n,.flat (Zz L)⟩ rfl hw0 fun _ _=>Xu.len _;refine Rel.rewritten eG e hm (by simp only [z1f]) (fun k hk hne=> ?_) ?_ ?_
     ·exact (y4i _ _ _ _ _ _ _ hk).trans (if_neg hne)
     ·show _≤(((Go.Sort.ahead w q).heap.modify _ _)++os).size;simp only [Array.size_append,Array.size_modify];exact Nat.le_add_right _ _
     ·refine ⟨putCells id (l.base+0*Xu.w α) (flatK y8v (Xu.w α) L.toArray) cur,el,?_,?_,fun i hi=> ?_⟩
      ·refine (y4i _ _ _ _ _ _ _ fR).trans ?_;rw [if_pos rfl,hh];rfl
      ·simp only [putCells,Array.size_mapIdx];exact hsz
      ·rw [z1f] at hi;have hj:i %Xu.w α<Xu.w α:=Nat.mod_lt _ hw0;have hl2:i %Xu.w α<(Xu.cells (rd L (i / Xu.w α))).length :=by rw [Xu.len];exact hj
       have hl3:i %Xu.w α<(Xu.cells (rd I (i / Xu.w α))).length :=by rw [Xu.len];exact hj
       have e1:=w1s L i (by rw [hLl];exact hi);rw [List.getElem?_eq_getElem hl2,Option.map_some] at e1;have hs:i<(flatK y8v (Xu.w α) L.toArray).size :=(by simpa [hLl] using hi);rw [Array.getElem?_eq_getElem hs] at e1;have e3:=w7w L n i hi;rw [List.getElem?_eq_getElem (by rw [z1f];exact hi),List.getElem?_eq_getElem hl2] at e3;refine ⟨valOf (Xu.cells (rd L (i / Xu.w α)))[i %Xu.w α],?_,?_⟩
       ·have hc0:=fC i hi;rw [List.getElem?_eq_getElem hl3,Option.map_some] at hc0;simp only [putCells,Array.getElem?_mapIdx,hc0,Option.map_some,Nat.zero_mul,Nat.add_zero];rw [if_pos ⟨by omega,by omega⟩]
        congr 1
        rw [show l.base+i - l.base=i by omega,id,getElem!_pos (flatK y8v (Xu.w α) L.toArray) i hs];exact Option.some.inj e1
       ·rw [Option.some.inj e3];exact w6b (List.all_eq_true.1 (u4w.num _) _ (List.getElem_mem hl2))
    ·subst hw';refine Ev.rewritten eG _ (fun l' _=>hfl) hnn (fun k hk hne=> ?_) ?_ rfl rfl rfl
     ·exact (y4i _ _ _ _ _ _ _ hk).trans (if_neg (hne l e))
     ·show _≤(((Go.Sort.ahead w q).heap.modify _ _)++os).size;simp only [Array.size_append,Array.size_modify];exact Nat.le_add_right _ _
   | slan=>
    have hI0:I=[]:=List.eq_nil_of_length_eq_zero hIl;have hL0:L=[]:=List.eq_nil_of_length_eq_zero hLl;refine (hN none 0 _ w).mono fun e' w' ⟨he,hw'⟩=>⟨_,he,?_,?_,?_⟩
    ·exact .tup [] #[] rfl fun i h1 h2=>absurd h1 (Nat.not_lt_zero _)
    ·subst hw';refine eG.reblk hm fun l hρ hbk=> ?_;obtain ⟨har,gH,_⟩:=hbk.arr _ rfl;have har:cells=rows 0 get.get:=har;subst har;exact ⟨hbk.n,hbk.tot,fun B hB=>by obtain rfl:=Option.some.inj hB;exact ⟨rfl,hw0,fun i hi=>absurd hi (Nat.not_lt_zero _)⟩,hbk.cells⟩
    ·subst hw';exact Ev.rewritten eG _ (fun l' _=>hfl) hnn (fun _ _ _=>rfl) (Nat.le_refl _) rfl rfl rfl
  ·cases h
 ·cases h
end
def Specs.withE (S:Specs) (f:FuncId) (F:List AVal→Mem→Option (AVal×Nat×ABlk×Bool)):Specs:=fun g=>bif Nat.beq g f then some (.eff F) else S g
theorem y9j {P:Program} {S:Specs} (hS:Zq P S) {f:FuncId} {F:List AVal→Mem→Option (AVal×Nat×ABlk×Bool)} (hf:(P.funcs[f]?).any (fun fn=>fn.body.isSome)=true) (hF:x4u P f F):Zq P (S.withE f F):=by
 intro g G hg;unfold Specs.withE at hg;cases hgf:Nat.beq g f with
 | false=>rw [hgf] at hg;exact hS g G hg
 | true=>
  rw [hgf] at hg;obtain rfl:Spec.eff F=G:=Option.some.inj hg;obtain rfl:g=f:=Nat.eq_of_beq_eq_true hgf;refine ⟨?_,hF⟩;cases hfn:P.funcs[g]? with
  | none=>rw [hfn] at hf;cases hf
  | some fn=>rw [hfn] at hf;exact ⟨fn,rfl,hf⟩
end Go.Am
namespace Go.Proofs
open Go.Proofs.Tryz
open Go.Shelf
def Tryz.lays189_ren :Go.Shelf.Ren:=⟨fun | 189=>119 | 125=>142 | 257=>141 | 128=>164 | 129=>165 | 294=>155 | 295=>156 | 296=>157 | 297=>158 | 298=>159 | 299=>160 | 216=>161 | 300=>162 | 301=>163 | 328=>175 | 329=>176 | 330=>177 | 331=>178 | 332=>179 | 215=>180 | 343=>190 | n=>n,fun | 28=>47 | 3=>3 | 46=>165 | 0=>0 | 51=>213 | 53=>215 | 4=>4 | 183=>205 | 182=>204 | 131=>210 | 5=>5 | 9=>9 | 218=>227 | 222=>231 | 228=>242 | 229=>27 | n=>n,fun | n=>n⟩
theorem Tryz.lays189 :Go.Proofs.Lays.n189 prog Tryz.lays189_ren:={
 mixed:=by kernel_rfl
 f125:=Tryz.func142.trans (congrArg some (by kernel_rfl))
 f128:=Tryz.func164.trans (congrArg some (by kernel_rfl))
 f129:=Tryz.func165.trans (congrArg some (by kernel_rfl))
 f189:=Tryz.func119.trans (congrArg some (by kernel_rfl))
 f215:=Tryz.func180.trans (congrArg some (by kernel_rfl))
 f216:=Tryz.func161.trans (congrArg some (by kernel_rfl))
 f257:=Tryz.func141.trans (congrArg some (by kernel_rfl))
 f294:=Tryz.func155.trans (congrArg some (by kernel_rfl))
 f295:=Tryz.func156.trans (congrArg some (by kernel_rfl))
 f296:=Tryz.func157.trans (congrArg some (by kernel_rfl))
 f297:=Tryz.func158.trans (congrArg some (by kernel_rfl))
 f298:=Tryz.func159.trans (congrArg some (by kernel_rfl))
 f299:=Tryz.func160.trans (congrArg some (by kernel_rfl))
 f300:=Tryz.func162.trans (congrArg some (by kernel_rfl))
 f301:=Tryz.func163.trans (congrArg some (by kernel_rfl))
 f328:=Tryz.func175.trans (congrArg some (by kernel_rfl))
 f329:=Tryz.func176.trans (congrArg some (by kernel_rfl))
 f330:=Tryz.func177.trans (congrArg some (by kernel_rfl))
 f331:=Tryz.func178.trans (congrArg some (by kernel_rfl))
 f332:=Tryz.func179.trans (congrArg some (by kernel_rfl))
 f343:=Tryz.func190.trans (congrArg some (by kernel_rfl))
 t0:=Tryz.underlying0
 a0:=Tryz.isAgg0
 z0:=Tryz.sizeOf0
 v0:=Tryz.zeroValue0
 t3:=Tryz.underlying3
 a3:=Tryz.isAgg3
 z3:=Tryz.sizeOf3
 v3:=Tryz.zeroValue3
 t4:=Tryz.underlying4
 a4:=Tryz.isAgg4
 z4:=Tryz.sizeOf4
 v4:=Tryz.zeroValue4
 t5:=Tryz.underlying5
 a5:=Tryz.isAgg5
 z5:=Tryz.sizeOf5
 v5:=Tryz.zeroValue5
 t9:=Tryz.underlying9
 a9:=Tryz.isAgg9
 z9:=Tryz.sizeOf9
 v9:=Tryz.zeroValue9
 t28:=Tryz.underlying47
 a28:=Tryz.isAgg47
 z28:=Tryz.sizeOf47
 v28:=Tryz.zeroValue47
 t46:=Tryz.underlying165
 a46:=Tryz.isAgg165
 z46:=Tryz.sizeOf165
 v46:=Tryz.zeroValue165
 t51:=Tryz.underlying213
 a51:=Tryz.isAgg213
 z51:=Tryz.sizeOf213
 v51:=Tryz.zeroValue213
 t53:=Tryz.underlying215
 a53:=Tryz.isAgg215
 z53:=Tryz.sizeOf215
 v53:=Tryz.zeroValue215
 t131:=Tryz.underlying210
 a131:=Tryz.isAgg210
 z131:=Tryz.sizeOf210
 v131:=Tryz.zeroValue210
 t182:=Tryz.underlying204
 a182:=Tryz.isAgg204
 z182:=Tryz.sizeOf204
 v182:=Tryz.zeroValue204
 t183:=Tryz.underlying205
 a183:=Tryz.isAgg205
 z183:=Tryz.sizeOf205
 v183:=Tryz.zeroValue205
 t218:=Tryz.underlying227
 a218:=Tryz.isAgg227
 z218:=Tryz.sizeOf227
 v218:=Tryz.zeroValue227
 t222:=Tryz.underlying231
 a222:=Tryz.isAgg231
 z222:=Tryz.sizeOf231
 v222:=Tryz.zeroValue231
 t228:=Tryz.underlying242
 a228:=Tryz.isAgg242
 z228:=Tryz.sizeOf242
 v228:=Tryz.zeroValue242
 t229:=Tryz.underlying27
 a229:=Tryz.isAgg27
 z229:=Tryz.sizeOf27
 v229:=Tryz.zeroValue27}
open Go.Sort Go.RowKit in
theorem Tryz.slices_Sort_int (blk off cap:Nat) (zs:List Int) (w:World) (hH:Holds (Value.int .i64) w blk off zs.toArray) (fR:blk<w.heap.size) (hsz:zs.length<4611686018427387904):
  Calls prog 119 #[.slice (some ⟨blk,off,none⟩) zs.length cap] w fun e w'=>
   e=.returned (.tuple #[])∧ ∃n os,w'=grow (putRow (Value.int .i64) (Sort.ahead w n) blk off (zs.mergeSort fun x y=>decide (x≤y)).toArray) os:=Any.slices_Sort_int Tryz.lays189 blk off cap zs w hH fR hsz
def Tryz.laysNm220_ren :Go.Shelf.Ren:=⟨fun | 20=>120 | n=>n,fun | 22=>47 | 3=>3 | 4=>4 | 0=>0 | n=>n,fun | n=>n⟩
theorem Tryz.laysNm220 :Go.Proofs.Lays2.n20 prog Tryz.laysNm220_ren:={
 mixed:=by kernel_rfl
 f20:=Tryz.func120.trans (congrArg some (by kernel_rfl))
 t0:=Tryz.underlying0
 a0:=Tryz.isAgg0
 z0:=Tryz.sizeOf0
 v0:=Tryz.zeroValue0
 t3:=Tryz.underlying3
 a3:=Tryz.isAgg3
 z3:=Tryz.sizeOf3
 v3:=Tryz.zeroValue3
 t4:=Tryz.underlying4
 a4:=Tryz.isAgg4
 z4:=Tryz.sizeOf4
 v4:=Tryz.zeroValue4
 t22:=Tryz.underlying47
 a22:=Tryz.isAgg47
 z22:=Tryz.sizeOf47
 v22:=Tryz.zeroValue47
 i3:=by kernel_rfl}
open Go.RowKit Go.Lib Go.Sort in
theorem Tryz.slices_Compact_int (blk off cap:Nat) (zs:List Int) (w:World) (hH:Holds (Value.int .i64) w blk off zs.toArray) (hsz:zs.length≤9223372036854775807) (eN:zs.length≤cap):
  Calls prog 120 #[.slice (some ⟨blk,off,none⟩) zs.length cap] w fun e w'=>e=.returned (.slice (some ⟨blk,off,none⟩) (Lib.compact zs).length cap)∧ ∃q,w'=putRow (Value.int .i64) (Sort.ahead w q) blk off (Lib.compact zs++List.replicate (zs.length - (Lib.compact zs).length) 0).toArray :=Any.slices_Compact_int Tryz.laysNm220 blk off cap zs w hH hsz eN
open Go.RowKit Go.Lib Go.Sort in
theorem Tryz.slices_Compact_int_empty (a:Option Addr) (cap:Nat) (w:World):
  Calls prog 120 #[.slice a 0 cap] w fun e w'=>e=.returned (.slice a 0 cap)∧w'=w:=Any.slices_Compact_int_empty Tryz.laysNm220 a cap w
open Go.RowKit Go.Sort in
theorem Tryz.slices_Sort_int_none (p:Option Addr) (cap:Nat) (w:World):
  Calls prog 119 #[.slice p 0 cap] w fun e w'=>e=.returned (.tuple #[])∧w'=w:=Any.slices_Sort_int_none Tryz.lays189 p cap w
def Tryz.sortEnd_ren :Go.Shelf.Ren:=⟨fun | 6=>192 | 15=>142 | 14=>196 | 28=>164 | 29=>165 | 20=>198 | 21=>199 | 22=>200 | 23=>201 | 24=>202 | 25=>203 | 26=>204 | 27=>205 | 46=>206 | 47=>176 | 48=>177 | 49=>207 | 50=>208 | 57=>209 | n=>n,fun | 22=>245 | 24=>240 | 25=>247 | 3=>3 | 39=>165 | 0=>0 | 53=>213 | 55=>215 | 4=>4 | 46=>205 | 45=>204 | 50=>210 | 5=>5 | 9=>9 | 66=>227 | 70=>231 | 76=>242 | 77=>27 | n=>n,fun | n=>n⟩
theorem Tryz.sortEnd :Go.Proofs.SlLaysF0.n6 prog Tryz.sortEnd_ren:={
 mixed:=by kernel_rfl
 f6:=⟨Tryz.f192.name,by decide,Tryz.func192.trans (congrArg some (by kernel_rfl))⟩
 f14:=⟨Tryz.f196.name,by decide,Tryz.func196.trans (congrArg some (by kernel_rfl))⟩
 f15:=Tryz.func142.trans (congrArg some (by kernel_rfl))
 f20:=⟨Tryz.f198.name,by decide,Tryz.func198.trans (congrArg some (by kernel_rfl))⟩
 f21:=⟨Tryz.f199.name,by decide,Tryz.func199.trans (congrArg some (by kernel_rfl))⟩
 f22:=⟨Tryz.f200.name,by decide,Tryz.func200.trans (congrArg some (by kernel_rfl))⟩
 f23:=⟨Tryz.f201.name,by decide,Tryz.func201.trans (congrArg some (by kernel_rfl))⟩
 f24:=⟨Tryz.f202.name,by decide,Tryz.func202.trans (congrArg some (by kernel_rfl))⟩
 f25:=⟨Tryz.f203.name,by decide,Tryz.func203.trans (congrArg some (by kernel_rfl))⟩
 f26:=⟨Tryz.f204.name,by decide,Tryz.func204.trans (congrArg some (by kernel_rfl))⟩
 f27:=⟨Tryz.f205.name,by decide,Tryz.func205.trans (congrArg some (by kernel_rfl))⟩
 f28:=Tryz.func164.trans (congrArg some (by kernel_rfl))
 f29:=Tryz.func165.trans (congrArg some (by kernel_rfl))
 f46:=⟨Tryz.f206.name,by decide,Tryz.func206.trans (congrArg some (by kernel_rfl))⟩
 f47:=Tryz.func176.trans (congrArg some (by kernel_rfl))
 f48:=Tryz.func177.trans (congrArg some (by kernel_rfl))
 f49:=⟨Tryz.f207.name,by decide,Tryz.func207.trans (congrArg some (by kernel_rfl))⟩
 f50:=⟨Tryz.f208.name,by decide,Tryz.func208.trans (congrArg some (by kernel_rfl))⟩
 f57:=⟨Tryz.f209.name,by decide,Tryz.func209.trans (congrArg some (by kernel_rfl))⟩
 t0:=Tryz.underlying0
 a0:=Tryz.isAgg0
 z0:=Tryz.sizeOf0
 v0:=Tryz.zeroValue0
 t3:=Tryz.underlying3
 a3:=Tryz.isAgg3
 z3:=Tryz.sizeOf3
 v3:=Tryz.zeroValue3
 t4:=Tryz.underlying4
 a4:=Tryz.isAgg4
 z4:=Tryz.sizeOf4
 v4:=Tryz.zeroValue4
 t5:=Tryz.underlying5
 a5:=Tryz.isAgg5
 z5:=Tryz.sizeOf5
 v5:=Tryz.zeroValue5
 t9:=Tryz.underlying9
 a9:=Tryz.isAgg9
 z9:=Tryz.sizeOf9
 v9:=Tryz.zeroValue9
 t22:=Tryz.underlying245
 a22:=Tryz.isAgg245
 z22:=Tryz.sizeOf245
 v22:=Tryz.zeroValue245
 t25:=Tryz.underlying247
 a25:=Tryz.isAgg247
 z25:=Tryz.sizeOf247
 v25:=Tryz.zeroValue247
 t39:=Tryz.underlying165
 a39:=Tryz.isAgg165
 z39:=Tryz.sizeOf165
 v39:=Tryz.zeroValue165
 t45:=Tryz.underlying204
 a45:=Tryz.isAgg204
 z45:=Tryz.sizeOf204
 v45:=Tryz.zeroValue204
 t46:=Tryz.underlying205
 a46:=Tryz.isAgg205
 z46:=Tryz.sizeOf205
 v46:=Tryz.zeroValue205
 t50:=Tryz.underlying210
 a50:=Tryz.isAgg210
 z50:=Tryz.sizeOf210
 v50:=Tryz.zeroValue210
 t53:=Tryz.underlying213
 a53:=Tryz.isAgg213
 z53:=Tryz.sizeOf213
 v53:=Tryz.zeroValue213
 t55:=Tryz.underlying215
 a55:=Tryz.isAgg215
 z55:=Tryz.sizeOf215
 v55:=Tryz.zeroValue215
 t66:=Tryz.underlying227
 a66:=Tryz.isAgg227
 z66:=Tryz.sizeOf227
 v66:=Tryz.zeroValue227
 t70:=Tryz.underlying231
 a70:=Tryz.isAgg231
 z70:=Tryz.sizeOf231
 v70:=Tryz.zeroValue231
 t76:=Tryz.underlying242
 a76:=Tryz.isAgg242
 z76:=Tryz.sizeOf242
 v76:=Tryz.zeroValue242
 t77:=Tryz.underlying27
 a77:=Tryz.isAgg27
 z77:=Tryz.sizeOf27
 v77:=Tryz.zeroValue27}
end Go.Proofs
namespace Go.Proofs
open Go.Proofs.Tryz
open Go.Shelf Go.RowKit Go.Lib Go.Sort
theorem Tryz.cmpEnd (a b c a' b' c':Int) (h: -1000000000≤a∧a≤1000000000) (h': -1000000000≤a'∧a'≤1000000000) (W:World):
  Calls prog 193 #[.agg #[.int .i64 a,.int .i64 b,.int .i64 c],.agg #[.int .i64 a',.int .i64 b',.int .i64 c']] W fun e w'=>e=.returned (.int .i64 (a - a'))∧ ∃q os',w'=grow (W.drewN q) os':=by
 go_enter Tryz.func193,Tryz.ntmps193
 go_wp2
 go_ret
 exact ⟨rfl,0,_,by rw [alloc_eq_grow,alloc_eq_grow,grow_grow];rfl⟩
end Go.Proofs
namespace Go.Am
open Go.Proofs.Tryz
open Go.Proofs
inductive rjsS where
 | h0 (v9:List R6) (v10:List R4) (v11:Int) (v12:Int)
 | h1 (v9:List R6) (v10:List R4) (v11:Int) (v12:Int) (v13:List R4) (v15:Int)
 | h2 (v9:List R6) (v10:List R4) (v11:Int) (v12:Int) (v14:Int)
abbrev w0c (l1:List R6) (l2:List R6) (v12:Int):=(rd (Vz (cvT l1) (cvT l2)) (tn v12))
abbrev y7g (v9:List R6) (v14:Int) (l1:List R6) (l2:List R6) (v12:Int):=(v9.set (0+(tn v14)) (R6.mk (rd v9 (0+(tn v14))).a (rd v9 (0+(tn v14))).b (rd v9 (0+(tn v14))).c (rd v9 (0+(tn v14))).d (rd v9 (0+(tn v14))).e (rd (Vz (cvT l1) (cvT l2)) (tn (wr (v12+1))))))
abbrev y7f (v9:List R6) (v13:List R4) (v15:Int) (l1:List R6) (l2:List R6) (v12:Int):=(v9++[(R6.mk (rd v13 (tn v15)).a (rd v13 (tn v15)).b (w0c l1 l2 v12) (rd v13 (tn v15)).c (rd v13 (tn v15)).d (rd (Vz (cvT l1) (cvT l2)) (tn (wr (v12+1)))))])
abbrev Vm (l1:List R6) (l2:List R6) (v12:Int):=(atV (cvT l1) (w0c l1 l2 v12))
abbrev Uk (l2:List R6) (l1:List R6) (v12:Int):=(atV (cvT l2) (w0c l1 l2 v12))
abbrev u1d (v9:List R6) (v13:List R4) (v15:Int) (l1:List R6) (l2:List R6) (v12:Int):=(Zt (Zz v9) 0 v9.length 6 [(ii (rd v13 (tn v15)).a),(ii (rd v13 (tn v15)).b),(ii (w0c l1 l2 v12)),(ii (rd v13 (tn v15)).c),(ii (rd v13 (tn v15)).d),(ii (rd (Vz (cvT l1) (cvT l2)) (tn (wr (v12+1)))))])
def w8c (l1:List R6) (l2:List R6):AVal:=(.dat (Vz (cvT l1) (cvT l2)).length (Zz (Vz (cvT l1) (cvT l2))))
def rjsC (x0:Int) (l1:List R6) (l2:List R6):rjsS→Cfg
 | .h0 v9 v10 v11 v12=>⟨⟨137,0,true⟩,none,(Zb prog 79 [1,1,1,1,1,0,1,0,0] 0),none,(Zy prog 23),⟨Yq [(0,(ii x0)),(1,(.dat l1.length (Zz l1))),(2,(.dat l2.length (Zz l2))),(8,(w8c l1 l2)),(9,(.sla 0 6 0 v9.length (.un 6))),(10,(.dat v10.length (Zz v10))),(11,(ii v11)),(12,(ii v12))],Uv [⟨rows v9.length (Zz v9),68,some ⟨6,v9.length,(Zz v9)⟩⟩] 0,1,[],true⟩,[],.leaf⟩
 | .h1 v9 v10 v11 v12 v13 v15=>⟨⟨137,0,true⟩,none,(Zb prog 79 [1,1,1,1,1,0,1,0,0,1,0,0,1,1,1,1,1,0,0] 0),none,(Zy prog 23),⟨Yq [(0,(ii x0)),(1,(.dat l1.length (Zz l1))),(2,(.dat l2.length (Zz l2))),(8,(w8c l1 l2)),(9,(.sla 0 6 0 v9.length (.un 6))),(10,(.dat v10.length (Zz v10))),(11,(ii v11)),(12,(ii v12)),(13,(.dat v13.length (Zz v13))),(15,(ii v15))],Uv [⟨rows v9.length (Zz v9),68,some ⟨6,v9.length,(Zz v9)⟩⟩] 0,1,[],true⟩,[],.leaf⟩
 | .h2 v9 v10 v11 v12 v14=>⟨⟨137,0,true⟩,none,(Zb prog 79 [1,1,1,1,1,0,1,0,0,1,0,0,1,1,0,1,0,0,1,0,0] 0),none,(Zy prog 23),⟨Yq [(0,(ii x0)),(1,(.dat l1.length (Zz l1))),(2,(.dat l2.length (Zz l2))),(8,(w8c l1 l2)),(9,(.sla 0 6 0 v9.length (.un 6))),(10,(.dat v10.length (Zz v10))),(11,(ii v11)),(12,(ii v12)),(14,(ii v14))],Uv [⟨rows v9.length (Zz v9),68,some ⟨6,v9.length,(Zz v9)⟩⟩] 0,1,[],true⟩,[],.leaf⟩
def u6u :List (Option (List Nat)):=[some [0,1,2,8,9,10,11,12]]
def u6w :List (Option (List Nat)):=[]
def u6t :List (Option (List Nat)):=[some [0,1,2,8,9,10,11,12,13,15]]
def u6v :List (Option (List Nat)):=[]
def rjsN2 :List (Option (List Nat)):=[some [0,1,2,8,9,10,11,12,14]]
def rjsM2 :List (Option (List Nat)):=[]
def Vh (x0:Int) (l1:List R6) (l2:List R6):rjsS→Xe rjsS
 | .h0 v9 v10 v11 v12=>(bif (decide ((IntKind.wrap .i64 (v12+1))<(((Vz (cvT l1) (cvT l2)).length :Nat):Int))) then (bif (z5g (cvT l1) (rd (Vz (cvT l1) (cvT l2)) v12.toNat)) then (bif ((decide (0≤v12∧v12<(((Vz (cvT l1) (cvT l2)).length :Nat):Int)))&&true) then (bif (z5g (cvT l2) (rd (Vz (cvT l1) (cvT l2)) v12.toNat)) then (bif (z0u x0 (cvT (atV (cvT l1) (rd (Vz (cvT l1) (cvT l2)) v12.toNat))) (cvT (atV (cvT l2) (rd (Vz (cvT l1) (cvT l2)) v12.toNat)))) then (bif (decide ((((joV x0 (cvT (atV (cvT l1) (rd (Vz (cvT l1) (cvT l2)) v12.toNat))) (cvT (atV (cvT l2) (rd (Vz (cvT l1) (cvT l2)) v12.toNat)))).length :Nat):Int)>400)) then (.ret [.nils,(.bool false)]) else (bif (z0u 2 (cvT (atV (cvT l1) (rd (Vz (cvT l1) (cvT l2)) v12.toNat))) ([]:List R4)) then (bif (decide ((((joV 2 (cvT (atV (cvT l1) (rd (Vz (cvT l1) (cvT l2)) v12.toNat))) ([]:List R4)).length :Nat):Int)>400)) then (.ret [.nils,(.bool false)]) else (bif (z0u 2 (cvT (atV (cvT l2) (rd (Vz (cvT l1) (cvT l2)) v12.toNat))) ([]:List R4)) then (bif (decide ((((joV 2 (cvT (atV (cvT l2) (rd (Vz (cvT l1) (cvT l2)) v12.toNat))) ([]:List R4)).length :Nat):Int)>400)) then (.ret [.nils,(.bool false)]) else (bif (decide (v12>0)) then (bif (Xg (cvT (joV x0 (cvT (atV (cvT l1) (rd (Vz (cvT l1) (cvT l2)) v12.toNat))) (cvT (atV (cvT l2) (rd (Vz (cvT l1) (cvT l2)) v12.toNat))))) (cvT v10)) then (bif (Vw (cvT (joV x0 (cvT (atV (cvT l1) (rd (Vz (cvT l1) (cvT l2)) v12.toNat))) (cvT (atV (cvT l2) (rd (Vz (cvT l1) (cvT l2)) v12.toNat))))) (cvT v10)) then (.to (.h2 v9 v10 v11 v12 v11)) else (.to (.h1 v9 (joV x0 (cvT (atV (cvT l1) (rd (Vz (cvT l1) (cvT l2)) v12.toNat))) (cvT (atV (cvT l2) (rd (Vz (cvT l1) (cvT l2)) v12.toNat)))) (v9.length:Int) v12 (joV x0 (cvT (atV (cvT l1) (rd (Vz (cvT l1) (cvT l2)) v12.toNat))) (cvT (atV (cvT l2) (rd (Vz (cvT l1) (cvT l2)) v12.toNat)))) 0))) else .stuck) else (.to (.h1 v9 (joV x0 (cvT (atV (cvT l1) (rd (Vz (cvT l1) (cvT l2)) v12.toNat))) (cvT (atV (cvT l2) (rd (Vz (cvT l1) (cvT l2)) v12.toNat)))) (v9.length:Int) v12 (joV x0 (cvT (atV (cvT l1) (rd (Vz (cvT l1) (cvT l2)) v12.toNat))) (cvT (atV (cvT l2) (rd (Vz (cvT l1) (cvT l2)) v12.toNat)))) 0)))) else .stuck)) else .stuck)) else .stuck) else .stuck) else .stuck) else .stuck) else (.ret [(.dat v9.length (Zz v9)),(.bool (decide ((v9.length:Int)≤400)))]))
 | .h1 v9 v10 v11 v12 v13 v15=>(bif (decide (v15<(v13.length:Int))) then (bif ((decide (0≤v12∧v12<(((Vz (cvT l1) (cvT l2)).length :Nat):Int)))&&true) then (bif ((decide (0≤v15∧v15<(v13.length:Int)))&&true) then (bif ((decide (0≤(IntKind.wrap .i64 (v12+1))∧(IntKind.wrap .i64 (v12+1))<(((Vz (cvT l1) (cvT l2)).length :Nat):Int)))&&true) then (bif (Nat.beq 6 6&&((decide (0+v9.length=v9.length))&&decide ((v9.length+1+1)*(48+1)≤Un))) then (.to (.h1 (v9++[(R6.mk (rd v13 v15.toNat).a (rd v13 v15.toNat).b (rd (Vz (cvT l1) (cvT l2)) v12.toNat) (rd v13 v15.toNat).c (rd v13 v15.toNat).d (rd (Vz (cvT l1) (cvT l2)) (Int.toNat (IntKind.wrap .i64 (v12+1)))))]) v10 v11 v12 v13 (IntKind.wrap .i64 (v15+1)))) else .stuck) else .stuck) else .stuck) else .stuck) else (.to (.h0 v9 v10 v11 (IntKind.wrap .i64 (v12+1)))))
 | .h2 v9 v10 v11 v12 v14=>(bif (decide (v14<(v9.length:Int))) then (bif ((decide (0≤(IntKind.wrap .i64 (v12+1))∧(IntKind.wrap .i64 (v12+1))<(((Vz (cvT l1) (cvT l2)).length :Nat):Int)))&&true) then (bif ((decide (0≤v14∧v14<(v9.length:Int)))&&true) then (bif (decide ((0+v14.toNat)<v9.length)) then (.to (.h2 (v9.set (0+v14.toNat) (R6.mk (rd v9 (0+v14.toNat)).a (rd v9 (0+v14.toNat)).b (rd v9 (0+v14.toNat)).c (rd v9 (0+v14.toNat)).d (rd v9 (0+v14.toNat)).e (rd (Vz (cvT l1) (cvT l2)) (Int.toNat (IntKind.wrap .i64 (v12+1)))))) v10 v11 v12 (IntKind.wrap .i64 (v14+1)))) else .stuck) else .stuck) else .stuck) else (.to (.h0 v9 v10 v11 (IntKind.wrap .i64 (v12+1)))))
def y1s (x0:Int) (l1:List R6) (l2:List R6):Xe rjsS:=(bif (z8e (cvT l1) (cvT l2)) then (.to (.h0 ([]:List R6) ([]:List R4) 0 0)) else .stuck)
theorem w3f (x0:Int) (l1:List R6) (l2:List R6): ∀s,Xr prog (Zy prog 79) (rjsC x0 l1 l2) (rjsC x0 l1 l2 s) (Vh x0 l1 l2 s)
 | .h0 v9 v10 v11 v12=>(lb (fun k0=>(lo fun aJ=>(lo fun bJ=>(lo fun cJ=>(lo fun dL=>(lb (fun k1=>(lr 137 79 [1,1,1,1,1,0,1,0,0,1,0,0,1,0,1,0,0] 1 23 [(6,.nils),(7,(.bool false))] (sl z9q 50 [] ⟨[],[],[some [6,7]],[]⟩ ⟨[],[],[]⟩ (trs 20 []) (tt k1 (pp (pp (xI R4 (Vm l1 l2 v12).length (Zz (Vm l1 l2 v12))) (pp (xI R4 (Uk l2 l1 v12).length (Zz (Uk l2 l1 v12))) (xw dL))) (pp (pp (xr l2) (xw cJ)) (ww bJ (pp (pp (xr l1) (xw aJ)) (ww bJ (tt k0 nn)))))))))) (fun k1=>(lo fun cK=>(lb (fun k2=>(lr 137 79 [1,1,1,1,1,0,1,0,0,1,0,0,1,0,1,0,0] 1 23 [(6,.nils),(7,(.bool false))] (sl z9q 50 [] ⟨[],[],[some [6,7]],[]⟩ ⟨[],[],[]⟩ (bl 20 1047553) (tt k2 (pp (pp (xI R4 (Vm l1 l2 v12).length (Zz (Vm l1 l2 v12))) (pp (xI R4 0 (fun _=>[])) (xw cK))) (pp (pp (xr l1) (xw aJ)) (ww bJ (tt k1 (pp (pp (xI R4 (Vm l1 l2 v12).length (Zz (Vm l1 l2 v12))) (pp (xI R4 (Uk l2 l1 v12).length (Zz (Uk l2 l1 v12))) (xw dL))) (pp (pp (xr l2) (xw cJ)) (ww bJ (pp (pp (xr l1) (xw aJ)) (ww bJ (tt k0 nn)))))))))))))) (fun k2=>(lo fun cP=>(lb (fun k3=>(lr 137 79 [1,1,1,1,1,0,1,0,0,1,0,0,1,0,1,0,0] 1 23 [(6,.nils),(7,(.bool false))] (sl z9q 50 [] ⟨[],[],[some [6,7]],[]⟩ ⟨[],[],[]⟩ (bl 20 524289) (tt k3 (pp (pp (xI R4 (Uk l2 l1 v12).length (Zz (Uk l2 l1 v12))) (pp (xI R4 0 (fun _=>[])) (xw cP))) (pp (pp (xr l2) (xw cJ)) (ww bJ (tt k2 (pp (pp (xI R4 (Vm l1 l2 v12).length (Zz (Vm l1 l2 v12))) (pp (xI R4 0 (fun _=>[])) (xw cK))) (pp (pp (xr l1) (xw aJ)) (ww bJ (tt k1 (pp (pp (xI R4 (Vm l1 l2 v12).length (Zz (Vm l1 l2 v12))) (pp (xI R4 (Uk l2 l1 v12).length (Zz (Uk l2 l1 v12))) (xw dL))) (pp (pp (xr l2) (xw cJ)) (ww bJ (pp (pp (xr l1) (xw aJ)) (ww bJ (tt k0 nn)))))))))))))))))) (fun k3=>(lb (fun k4=>(lo fun cL=>(lb (fun k5=>(sl z9q 66 [] ⟨[0],[],rjsN2,rjsM2⟩ ⟨[],[],[]⟩ (bl 24 15728641) (pp (fl v9 nn) (tt k5 (pp (pp (xI R4 (joV x0 (cvT (Vm l1 l2 v12)) (cvT (Uk l2 l1 v12))).length (Zz (joV x0 (cvT (Vm l1 l2 v12)) (cvT (Uk l2 l1 v12))))) (pp (xr v10) (xw cL))) (tt k4 (tt k3 (pp (pp (xI R4 (Uk l2 l1 v12).length (Zz (Uk l2 l1 v12))) (pp (xI R4 0 (fun _=>[])) (xw cP))) (pp (pp (xr l2) (xw cJ)) (ww bJ (tt k2 (pp (pp (xI R4 (Vm l1 l2 v12).length (Zz (Vm l1 l2 v12))) (pp (xI R4 0 (fun _=>[])) (xw cK))) (pp (pp (xr l1) (xw aJ)) (ww bJ (tt k1 (pp (pp (xI R4 (Vm l1 l2 v12).length (Zz (Vm l1 l2 v12))) (pp (xI R4 (Uk l2 l1 v12).length (Zz (Uk l2 l1 v12))) (xw dL))) (pp (pp (xr l2) (xw cJ)) (ww bJ (pp (pp (xr l1) (xw aJ)) (ww bJ (tt k0 nn))))))))))))))))))))) (fun k5=>(sl z9q 73 [] ⟨[0],[],u6t,u6v⟩ ⟨[],[],[]⟩ (bl 24 7340033) (pp (fl v9 nn) (tt k5 (pp (pp (xI R4 (joV x0 (cvT (Vm l1 l2 v12)) (cvT (Uk l2 l1 v12))).length (Zz (joV x0 (cvT (Vm l1 l2 v12)) (cvT (Uk l2 l1 v12))))) (pp (xr v10) (xw cL))) (tt k4 (tt k3 (pp (pp (xI R4 (Uk l2 l1 v12).length (Zz (Uk l2 l1 v12))) (pp (xI R4 0 (fun _=>[])) (xw cP))) (pp (pp (xr l2) (xw cJ)) (ww bJ (tt k2 (pp (pp (xI R4 (Vm l1 l2 v12).length (Zz (Vm l1 l2 v12))) (pp (xI R4 0 (fun _=>[])) (xw cK))) (pp (pp (xr l1) (xw aJ)) (ww bJ (tt k1 (pp (pp (xI R4 (Vm l1 l2 v12).length (Zz (Vm l1 l2 v12))) (pp (xI R4 (Uk l2 l1 v12).length (Zz (Uk l2 l1 v12))) (xw dL))) (pp (pp (xr l2) (xw cJ)) (ww bJ (pp (pp (xr l1) (xw aJ)) (ww bJ (tt k0 nn)))))))))))))))))))))))) (fun k4=>(sl z9q 73 [] ⟨[0],[],u6t,u6v⟩ ⟨[],[],[]⟩ (bl 24 1) (pp (fl v9 nn) (tt k4 (tt k3 (pp (pp (xI R4 (Uk l2 l1 v12).length (Zz (Uk l2 l1 v12))) (pp (xI R4 0 (fun _=>[])) (xw cP))) (pp (pp (xr l2) (xw cJ)) (ww bJ (tt k2 (pp (pp (xI R4 (Vm l1 l2 v12).length (Zz (Vm l1 l2 v12))) (pp (xI R4 0 (fun _=>[])) (xw cK))) (pp (pp (xr l1) (xw aJ)) (ww bJ (tt k1 (pp (pp (xI R4 (Vm l1 l2 v12).length (Zz (Vm l1 l2 v12))) (pp (xI R4 (Uk l2 l1 v12).length (Zz (Uk l2 l1 v12))) (xw dL))) (pp (pp (xr l2) (xw cJ)) (ww bJ (pp (pp (xr l1) (xw aJ)) (ww bJ (tt k0 nn))))))))))))))))))))))))))))))))) (fun k0=>(lr 137 3 [1,1,1,1,1,1,0] 1 23 [(6,(.dat v9.length (Zz v9))),(7,(.bool (decide ((v9.length:Int)≤400))))] (sl z9q 20 [] ⟨[],[0],[some [6,7]],[]⟩ ⟨[(6,.frz v9.length v9.length (Zz v9) (Zz v9))],[],[]⟩ [false] (pp (xZ (z2u 6 6 0 v9.length v9.length (Zz v9)) v9.length (Zz v9)) (pp (xL v9.length v9.length) (pp (xS v9.length (Zz v9) (Zz v9)) (pp (fl v9 nn) (tt k0 nn)))))))))
 | .h1 v9 v10 v11 v12 v13 v15=>(lb (fun k0=>(lo fun o0=>(lo fun o1=>(lo fun o2=>(lo fun o3=>(sl z9q 20 [] ⟨[2],[],u6t,u6v⟩ ⟨[(9,.len (y7f v9 v13 v15 l1 l2 v12).length)],[.rowed 6 (y7f v9 v13 v15 l1 l2 v12).length (Zz (y7f v9 v13 v15 l1 l2 v12))],[]⟩ [true] (pp (xL (v9.length+1) (y7f v9 v13 v15 l1 l2 v12).length) (pp (xL (v9.length+1) (y7f v9 v13 v15 l1 l2 v12).length) (pp (xS (v9.length+1) (u1d v9 v13 v15 l1 l2 v12) (Zz (y7f v9 v13 v15 l1 l2 v12))) (pp (pp (xF (u1d v9 v13 v15 l1 l2 v12)) nn) (ww o3 (ww o2 (ww o1 (ww o1 (ww o0 (ww o1 (ww o1 (tt k0 nn)))))))))))))))))) (fun k0=>(sl z9q 17 [] ⟨[0],[],u6u,u6w⟩ ⟨[],[],[]⟩ [false] (pp (fl v9 nn) (tt k0 nn)))))
 | .h2 v9 v10 v11 v12 v14=>(lb (fun k0=>(lo fun o0=>(lo fun o1=>(lo fun o2=>(sl z9q 32 [] ⟨[0],[],rjsN2,rjsM2⟩ ⟨[(9,.len (y7g v9 v14 l1 l2 v12).length)],[.rowed 6 (y7g v9 v14 l1 l2 v12).length (Zz (y7g v9 v14 l1 l2 v12))],[]⟩ [true] (pp (xL v9.length (y7g v9 v14 l1 l2 v12).length) (pp (xL v9.length (y7g v9 v14 l1 l2 v12).length) (pp (xS v9.length (Xj (Zz v9) (0+(tn v14)) 5 [(ii (rd (Vz (cvT l1) (cvT l2)) (tn (wr (v12+1)))))]) (Zz (y7g v9 v14 l1 l2 v12))) (pp (pp (xF (Xj (Zz v9) (0+(tn v14)) 5 [(ii (rd (Vz (cvT l1) (cvT l2)) (tn (wr (v12+1)))))])) nn) (ww o2 (ww o1 (ww o0 (tt k0 nn))))))))))))) (fun k0=>(sl z9q 17 [] ⟨[0],[],u6u,u6w⟩ ⟨[],[],[]⟩ [false] (pp (fl v9 nn) (tt k0 nn)))))
theorem x6c (x0:Int) (l1:List R6) (l2:List R6):Xr prog (Zy prog 79) (rjsC x0 l1 l2) (Zi prog 79 [(.int .i64 x0),(.dat l1.length (Zz l1)),(.dat l2.length (Zz l2))] true []) (y1s x0 l1 l2):=(lo fun o0=>(sl z9q 31 [(68,6,Zz ([]:List R6))] ⟨[0],[],u6u,u6w⟩ ⟨[(9,.grow 0 6),(10,.list 0 (Zz ([]:List R4)))],[],[]⟩ [] (pp (fl ([]:List R6) nn) (pp (pp (xr l1) (pp (xr l2) (xw o0))) nn))))
theorem v4t (x0:Int) (l1:List R6) (l2:List R6) (n:Nat) (vs:List AVal) (h:Yj (Vh x0 l1 l2) n (y1s x0 l1 l2)=.ret vs):Kg prog (Zy prog 79) (Zi prog 79 [(.int .i64 x0),(.dat l1.length (Zz l1)),(.dat l2.length (Zz l2))] true []) vs:=by have:=Yw (w3f x0 l1 l2) n _ (x6c x0 l1 l2);rwa [h] at this
end Go.Am
namespace Go.Am
open Go.Proofs.Tryz
open Go.Proofs
theorem Kd (l m:List R6):(Vz l m).length ≤2*l.length+2*m.length:=by refine Nat.le_trans (z5s _) ?_;rw [List.length_append,z0k,z0k];omega
theorem z1r (l:List R6) (z:Int):(atV l z).length ≤l.length:=by unfold atV;rw [List.length_map];exact List.length_filter_le _ _
def v3g (out:List R6) (first:Nat) (z:Int):List R6:=out.take first++(out.drop first).map fun r=>⟨r.a,r.b,r.c,r.d,r.e,z⟩
def u7o (z z':Int) (s:List R4):List R6:=s.map fun p=>⟨p.a,p.b,z,p.c,p.d,z'⟩
section
variable (kind:Int) (l m:List R6)
def x1s (z:Int):List R4:=joV kind (atV l z) (atV m z)
def y0t (z:Int):Bool:=decide (400<(x1s kind l m z).length)||(decide (400<(joV 2 (atV l z) []).length)||decide (400<(joV 2 (atV m z) []).length))
def jsF :Nat→Nat→List R6→List R4→Nat→Option (List R6)
 | 0,_,out,_,_=>some out
 | k+1,i,out,last,first=>
  bif y0t kind l m (rd (Vz l m) i) then none
  else bif decide (0<i)&&Vw (x1s kind l m (rd (Vz l m) i)) last then jsF k (i+1) (v3g out first (rd (Vz l m) (i+1))) last first
  else jsF k (i+1) (out++u7o (rd (Vz l m) i) (rd (Vz l m) (i+1)) (x1s kind l m (rd (Vz l m) i))) (x1s kind l m (rd (Vz l m) i)) out.length
def jsO :Option (List R6):=jsF kind l m ((Vz l m).length - 1) 0 [] [] 0
def x7i :Option (List R6)→List AVal
 | none=>[.nils,.bool false]
 | some out=>[.dat out.length (Zz out),.bool (decide ((out.length:Int)≤400))]
def z6d :List R6:=(jsO kind l m).getD []
def x3i :Bool:=match jsO kind l m with
 | none=>false
 | some out=>decide ((out.length:Int)≤400)
end
def y2b (_:Int) (l m:List R6):Bool:=decide (l.length≤5000∧m.length≤5000)
section
variable (kind:Int) (l m:List R6) (hl:l.length≤5000) (hm:m.length≤5000)
include hl hm
theorem u1c (last:List R4) (first:Int) (i:Nat) (hi:i+1<(Vz l m).length) (s:List R4) (hs:s.length≤1000000): ∀(k j:Nat) (out:List R6),j+k=s.length→out.length≤10000000000+j→
  ∃n,∀N,Yj (Vh kind l m) (N+n) (.to (.h1 out last first (i:Int) s (j:Int)))=Yj (Vh kind l m) N (.to (.h0 (out++u7o (rd (Vz l m) i) (rd (Vz l m) (i+1)) (s.drop j)) last first ((i+1:Nat):Int)))
 | 0,j,out,h,ho=>by have hx:=Kd l m;refine ⟨1,fun N=> ?_⟩;rw [List.drop_eq_nil_of_le (by omega),Zw];simp (disch:=omega) only [Vh,Zp,Zk,Zo,Zu,Zx,cond_false,u7o,List.map_nil,List.append_nil]
 | k+1,j,out,h,ho=>by
  have hx:=Kd l m;obtain ⟨n,hn⟩:=u1c last first i hi s hs k (j+1) (out++u7o (rd (Vz l m) i) (rd (Vz l m) (i+1)) [rd s j]) (by omega) (by simp [u7o];omega)
  refine ⟨n+1,fun N=> ?_⟩;have:=hn N;rw [Yc (show j<s.length by omega),←Nat.add_assoc,Zw];simp (disch:=omega) only [Vh,Zp,Zk,Zd,Ze,Yz,Yx,Zc,Zu,Zx,Yu,Zj,Nat.zero_add,decide_true,Bool.and_true,Bool.true_and,cond_true];rw [List.append_assoc] at this;exact this
omit hl hm in
theorem v7t (out:List R6) (j:Nat) (x:Int) (h:j<out.length):v3g (out.set j ⟨(rd out j).a,(rd out j).b,(rd out j).c,(rd out j).d,(rd out j).e,x⟩) (j+1) x=v3g out j x:=by
 unfold v3g;rw [Yc h,List.map_cons];have e1:(out.set j ⟨(rd out j).a,(rd out j).b,(rd out j).c,(rd out j).d,(rd out j).e,x⟩).take (j+1)=out.take j++[⟨(rd out j).a,(rd out j).b,(rd out j).c,(rd out j).d,(rd out j).e,x⟩]:=by
  apply List.ext_getElem
  ·simp;omega
  ·intro n h1 h2;simp only [List.getElem_take,List.getElem_set];by_cases e:j=n
   ·subst e;rw [if_pos rfl,List.getElem_append_right (by simp only [List.length_take];omega)];simp
   ·rw [if_neg e,List.getElem_append_left (by simp at h1 ⊢;omega),List.getElem_take]
 have e2:(out.set j ⟨(rd out j).a,(rd out j).b,(rd out j).c,(rd out j).d,(rd out j).e,x⟩).drop (j+1)=out.drop (j+1):=by rw [List.drop_set];rw [if_pos (by omega)]
 rw [e1,e2,List.append_assoc];rfl
theorem u1b (last:List R4) (first:Int) (i:Nat) (hi:i+1<(Vz l m).length): ∀(k j:Nat) (out:List R6),j+k=out.length→out.length≤10000000000→
  ∃n,∀N,Yj (Vh kind l m) (N+n) (.to (.h2 out last first (i:Int) (j:Int)))=Yj (Vh kind l m) N (.to (.h0 (v3g out j (rd (Vz l m) (i+1))) last first ((i+1:Nat):Int)))
 | 0,j,out,h,ho=>by
  have hx:=Kd l m;refine ⟨1,fun N=> ?_⟩;have e:v3g out j (rd (Vz l m) (i+1))=out:=by unfold v3g;rw [List.drop_eq_nil_of_le (by omega),List.map_nil,List.append_nil,List.take_of_length_le (by omega)]
  rw [e,Zw];simp (disch:=omega) only [Vh,Zp,Zk,Zo,Zu,Zx,cond_false]
 | k+1,j,out,h,ho=>by
  have hx:=Kd l m;obtain ⟨n,hn⟩:=u1b last first i hi k (j+1) (out.set j ⟨(rd out j).a,(rd out j).b,(rd out j).c,(rd out j).d,(rd out j).e,rd (Vz l m) (i+1)⟩) (by simp;omega) (by simpa using ho)
  refine ⟨n+1,fun N=> ?_⟩;have:=hn N;rw [v7t out j _ (by omega)] at this;rw [←Nat.add_assoc,Zw];simp (disch:=omega) only [Vh,Zp,Zk,Zd,Ze,Zs,Yz,Yx,Zc,Zu,Zx,Yu,Zj,Nat.zero_add,decide_true,Bool.and_true,Bool.true_and,cond_true];exact this
theorem w8b : ∀(k i:Nat) (out:List R6) (last:List R4) (first:Nat),k=(Vz l m).length - 1 - i→i≤(Vz l m).length →out.length≤i*400→last.length≤400→first≤out.length→
  ∃n,Yj (Vh kind l m) n (.to (.h0 out last (first:Int) (i:Int)))=.ret (x7i (jsF kind l m k i out last first))
 | 0,i,out,last,first,h,hi,ho,hla,hf=>by have hx:=Kd l m;refine ⟨1,?_⟩;rw [Zw];simp (disch:=omega) only [Vh,Zp,Zk,Zo,Zu,Zx,cond_false,Zg,jsF,x7i]
 | k+1,i,out,last,first,h,hi,ho,hla,hf=>by
  have hx:=Kd l m;have hi1:i+1<(Vz l m).length :=by omega
  have hbig:i*400≤20000*400:=Nat.mul_le_mul_right _ (by omega);have a1:=fun z=>z1r l z;have a2:=fun z=>z1r m z;have w1: ∀z,z5g l z=true:=fun z=>decide_eq_true (by omega);have w2: ∀z,z5g m z=true:=fun z=>decide_eq_true (by omega);have w3: ∀k z,z0u k (atV l z) (atV m z)=true:=fun k z=>decide_eq_true (by have:=a1 z;have:=a2 z;omega);have w4: ∀k z,z0u k (atV l z) ([]:List R4)=true:=fun k z=>decide_eq_true (by have:=a1 z;simp;omega);have w5: ∀k z,z0u k (atV m z) ([]:List R4)=true:=fun k z=>decide_eq_true (by have:=a2 z;simp;omega);unfold jsF;have fK:x1s kind l m (rd (Vz l m) i)=joV kind (atV l (rd (Vz l m) i)) (atV m (rd (Vz l m) i)):=rfl;by_cases c1:400<(x1s kind l m (rd (Vz l m) i)).length
  ·refine ⟨1,?_⟩;have hb:y0t kind l m (rd (Vz l m) i)=true:=by unfold y0t;rw [decide_eq_true c1];rfl
   rw [hb,cond_true,Zw];rw [fK] at c1;simp (disch:=omega) only [Vh,Zp,Zk,Zd,Ye,Ze,Zu,Zx,Zj,w1,w2,w3,w4,w5,Bool.and_true,cond_true,Zg,x7i]
  by_cases c2:400<(joV 2 (atV l (rd (Vz l m) i)) []).length
  ·refine ⟨1,?_⟩;have hb:y0t kind l m (rd (Vz l m) i)=true:=by unfold y0t;rw [decide_eq_true c2,Bool.true_or,Bool.or_true]
   rw [hb,cond_true,Zw];rw [fK] at c1;simp (disch:=omega) only [Vh,Zp,Zk,Zd,Ye,Ys,Ze,Zu,Zx,Zj,w1,w2,w3,w4,w5,Bool.and_true,cond_true,cond_false,Zg,x7i]
  by_cases c3:400<(joV 2 (atV m (rd (Vz l m) i)) []).length
  ·refine ⟨1,?_⟩;have hb:y0t kind l m (rd (Vz l m) i)=true:=by unfold y0t;rw [decide_eq_true c3,Bool.or_true,Bool.or_true]
   rw [hb,cond_true,Zw];rw [fK] at c1;simp (disch:=omega) only [Vh,Zp,Zk,Zd,Ye,Ys,Ze,Zu,Zx,Zj,w1,w2,w3,w4,w5,Bool.and_true,cond_true,cond_false,Zg,x7i]
  have hb:y0t kind l m (rd (Vz l m) i)=false:=by unfold y0t;rw [decide_eq_false c1,decide_eq_false c2,decide_eq_false c3];rfl
  rw [hb,cond_false];have w6:Xg (joV kind (atV l (rd (Vz l m) i)) (atV m (rd (Vz l m) i))) last=true:=decide_eq_true (by rw [←fK];omega);rcases Yv (decide (0<i)&&Vw (x1s kind l m (rd (Vz l m) i)) last) with q | q
  ·obtain ⟨n3,h3⟩:=u1b kind l m hl hm last first i hi1 (out.length - first) first out (by omega) (by omega)
   obtain ⟨n0,h0⟩:=w8b k (i+1) (v3g out first (rd (Vz l m) (i+1))) last first (by omega) (by omega) (by simp [v3g];omega) hla (by simp [v3g];omega)
   refine ⟨n0+n3+1,?_⟩;rw [q,cond_true,Zw];simp only [Bool.and_eq_true,decide_eq_true_eq] at q;obtain ⟨q1,q2⟩:=q;rw [fK] at c1 q2;simp (disch:=omega) only [Vh,Zp,Zk,Zd,Ye,Ys,Ze,Zu,Zx,Zj,w1,w2,w3,w4,w5,w6,q2,Bool.and_true,cond_true,cond_false];rw [h3 n0,h0]
  ·obtain ⟨n2,h2⟩:=u1c kind l m hl hm (x1s kind l m (rd (Vz l m) i)) (out.length:Int) i hi1 (x1s kind l m (rd (Vz l m) i)) (by omega) (x1s kind l m (rd (Vz l m) i)).length 0 out (Nat.zero_add _) (by omega);obtain ⟨n0,h0⟩:=w8b k (i+1) (out++u7o (rd (Vz l m) i) (rd (Vz l m) (i+1)) (x1s kind l m (rd (Vz l m) i))) (x1s kind l m (rd (Vz l m) i)) out.length (by omega) (by omega) (by simp [u7o];omega) (by omega) (by simp);refine ⟨n0+n2+1,?_⟩;rw [q,cond_false,Zw];have h2':=h2 n0;simp only [List.drop_zero,Qv] at h2';have c1':=c1;rw [fK] at c1';by_cases hi0:0<i
   ·rw [decide_eq_true hi0,Bool.true_and,fK] at q;simp (disch:=omega) only [Vh,Zp,Zk,Zd,Ye,Ys,Ze,Zu,Zx,Zj,w1,w2,w3,w4,w5,w6,q,Bool.and_true,cond_true,cond_false];rw [←h0];exact h2'
   ·simp (disch:=omega) only [Vh,Zp,Zk,Zd,Ye,Ys,Ze,Zu,Zx,Zj,w1,w2,w3,w4,w5,w6,Bool.and_true,cond_true,cond_false];rw [←h0];exact h2'
end
theorem u6s (kind:Int) (l m:List R6) (h:y2b kind l m=true): ∃N,Yj (Vh kind l m) N (y1s kind l m)=.ret (x7i (jsO kind l m)):=by obtain ⟨hl,hm⟩:=of_decide_eq_true h;obtain ⟨N,hN⟩:=w8b kind l m hl hm ((Vz l m).length - 1) 0 [] [] 0 rfl (Nat.zero_le _) (Nat.zero_le _) (Nat.zero_le _) (Nat.le_refl _);refine ⟨N,?_⟩;have w1:z8e l m=true:=decide_eq_true ⟨by omega,by omega⟩;simp only [y1s,Zp,Zk,w1,cond_true];exact hN
def fJs :List AVal→Option (AVal×Bool)
 | [.int .i64 x0,a1,a2]=>match asL R6 a1,asL R6 a2 with
  | some (L1,g1,n1),some (L2,g2,n2)=>some (.tup [.dat (z6d x0 L1 L2).length (Zz (z6d x0 L1 L2)),.bool (x3i x0 L1 L2)],isT R6 n1 g1&&(isT R6 n2 g2&&(y2b x0 L1 L2)))
  | _,_=>none
 | _=>none
theorem fJs_ok {S:Specs} (hS:Zq prog S):Zq prog (S.with u2l fJs):=by
 refine v1i hS (by kernel_rfl) fun args v h=> ?_;unfold fJs at h;split at h
 ·rename_i x0 a1 a2;split at h
  ·rename_i L1 g1 n1 L2 g2 n2 e1 e2;simp only [Option.some.injEq,Prod.mk.injEq,Bool.and_eq_true] at h;obtain ⟨rfl,ho1,ho2,hw⟩:=h;obtain ⟨N,hN⟩:=u6s x0 L1 L2 hw;refine ⟨_,x7i (jsO x0 L1 L2),(.cons (.refl _) (.cons (asL_le e1 ho1) (.cons (asL_le e2 ho2) .nil))),?_,v4t x0 L1 L2 N _ hN,3,?_⟩
   ·unfold z6d x3i;cases jsO x0 L1 L2 with
    | none=>exact fun ρ u hu=>z6n (.cons (z2f R6) (RLe.refl _)) ρ u hu
    | some out=>exact fun ρ u hu=>hu
   ·cases jsO x0 L1 L2 <;> rfl
  ·cases h
 ·cases h
def T4 :Specs:=T3.with u2l fJs
theorem T4_ok :Zq prog T4:=fJs_ok z9q
end Go.Am
namespace Go.Am
open Go.Proofs.Tryz
open Go.Proofs Go.Sort Go.Shelf Go.RowKit Go.Lib
def j0r (x:E3):List Value:=y8v x.1
theorem j0q (l:List R3) (h:y0v l=true):Go.Sort.flatK j0r 3 (x1t l h).toArray =Go.Sort.flatK y8v 3 l.toArray:=by
 have hl:=Ke l h;unfold Go.Sort.flatK;rw [show (x1t l h).toArray.size =l.toArray.size by simpa using hl];apply Array.ext
 ·simp
 ·intro t h1 h2;simp only [Array.getElem_map,Array.getElem_range];have ht:t<l.length*3:=by simpa using h1
  have hq:t / 3<l.length:=by omega
  congr 1
  rw [getElem!_pos (x1t l h).toArray (t / 3) (by simpa [hl] using hq),getElem!_pos l.toArray (t / 3) (by simpa using hq)];unfold j0r
  congr 1
  have:=y2p l h;have e:=congrArg (fun z:List R3=>z[t / 3]?) this;simp only [List.getElem?_map] at e;rw [List.getElem?_eq_getElem (by rw [hl];exact hq),List.getElem?_eq_getElem hq] at e
  simpa using e
theorem v7k (d:Array E3):Go.Sort.flatK j0r 3 d=Go.Sort.flatK y8v 3 (d.toList.map Subtype.val).toArray :=by
 unfold Go.Sort.flatK;rw [show d.size=(d.toList.map Subtype.val).toArray.size by simp];apply Array.ext
 ·simp
 ·intro t h1 h2;simp only [Array.getElem_map,Array.getElem_range];have ht:t<d.size*3:=by simpa using h1
  have hq:t / 3<d.size:=by omega
  congr 1
  rw [getElem!_pos d (t / 3) hq,getElem!_pos (d.toList.map Subtype.val).toArray (t / 3) (by simpa using hq)];simp [j0r]
theorem z7o (l:List R3):x0m l.length (z0n (cvT l)).length =true:=Vu (by
 rw [Zp];by_cases h:y0v l=true
 ·exact (Ks l h).1.length_eq.symm
 ·unfold z0n;rw [dif_neg h])
theorem isAgg3 : ∀w,(isAgg (Tryz.sortEnd_ren.t 24)).run prog w=.ok true w:=fun w=>by rfl
theorem size3 : ∀w,(Go.sizeOf (Tryz.sortEnd_ren.t 24)).run prog w=.ok 3 w:=fun w=>by rfl
theorem w6p :x4u prog u2g (w1t R3 z0n y0v w0w):=by
 refine v1p (fun L=> ?_) (fun blk off cap L w hb hH fR hsz=> ?_) fun p cap fv w=>AnyF.slices_SortFunc_none Tryz.sortEnd p cap fv w
 ·by_cases h:y0v L=true
  ·exact (Ks L h).1.length_eq
  ·unfold z0n;rw [dif_neg h]
 ·have eg: ∀args w,(callFunc 193 args).run prog w=.ok (.enter 193 args) w:=enters_of Tryz.func193 (by kernel_rfl) rfl;have hcmp:CmpLays prog 193 #[] j0r 3 cf3 blk off (x1t L hb).toArray.size w:=fun m os dk _ x y=>by have hx:=of_decide_eq_true x.2;have hy:=of_decide_eq_true y.2;exact Tryz.cmpEnd x.1.a x.1.b x.1.c y.1.a y.1.b y.1.c hx hy _
  have hH':HoldsK j0r 3 w blk off (x1t L hb).toArray :=by unfold HoldsK;rw [j0q L hb];exact hH
  have hcon:=AnyQ.slices_SortFunc_eq Tryz.sortEnd 3 isAgg3 size3 j0r (fun x=>y4w x.1) (fun x v hv=>by
   obtain ⟨a,ha,rfl⟩:=List.mem_map.1 hv;have:x7k a=true:=List.all_eq_true.1 (u4w.num x.1) a ha;cases a <;> first | rfl | (simp [x7k] at this;done)) cf3 swo3 193 #[] blk off cap (x1t L hb).toArray w eg hcmp hH' fR (by simpa [Ke] using hsz)
  have hs:(x1t L hb).toArray.size =L.length:=by simp [Ke]
  rw [hs] at hcon;refine Calls.mono hcon fun e w' ⟨he,n,os,hw⟩=>⟨he,n,os,?_⟩
  rw [hw];unfold sortWorldK putRowK;rw [v7k];unfold z0n;rw [dif_pos hb];rfl
def Yh (zs:List Int):List Int:=zs.mergeSort fun x y=>decide (x≤y)
theorem w6o :x4u prog nSort (fRow Yh):=
 j0s (fun zs=>List.length_mergeSort zs) (fun blk off cap zs w hH hb hz=>Tryz.slices_Sort_int blk off cap zs w hH hb hz) fun p cap w=>Tryz.slices_Sort_int_none p cap w
def Xx (zs:List Int):List Int:=compact zs++List.replicate (zs.length - (compact zs).length) 0
def v1z (zs:List Int):Nat:=(compact zs).length
theorem Wa (zs:List Int):(Xx zs).length =zs.length:=by have:=compact_length_le zs;simp [Xx];omega
theorem Qz (n:Nat) (c:Nat→Int):x0m n (Xx (Yp n c)).length =true:=Vu (by rw [Wa];simp [Yp])
theorem v0w (w:World):grow w #[]=w:=by simp [grow]
theorem x8r :x4u prog w0y (fCut Xx v1z):=
 j0t (fun zs=>by have:=compact_length_le zs;simp [Xx];omega) (fun zs=>compact_length_le zs)
  (fun blk off cap zs w hH hb hz eN=>(Tryz.slices_Compact_int blk off cap zs w hH (by omega) eN).mono fun e w' ⟨he,q,hw⟩=>⟨he,q, #[],by rw [hw,v0w];rfl⟩)
  fun p cap w=>Tryz.slices_Compact_int_empty p cap w
def T5 :Specs:=((T4.withE u2g (w1t R3 z0n y0v w0w)).withE nSort (fRow Yh)).withE w0y (fCut Xx v1z)
theorem Qd :Zq prog T5:=y9j (y9j (y9j T4_ok (by kernel_rfl) w6p) (by kernel_rfl) w6o) (by kernel_rfl) x8r
end Go.Am
namespace Go.Am
open Go.Proofs.Tryz
open Go.Proofs
-- h2: index into an array (choices [true, true, false, false])
-- h2: index into an array (choices [true, false, true, false, false])
-- h2: index into an array (choices [true, false, false, true, true, false, false])
-- h2: index into an array (choices [true, false, false, true, false, false, false])
-- h2: index into an array (choices [true, false, false, false, false, false])
inductive spmS where
 | h0 (v8:Int)
 | h1 (v3:List R3) (v17:Int)
 | h2 (v5:List R3) (v6:Int) (v7:Int) (aB:Int) (bU:Int) (aE:Int) (aC:Bool) (aD:List R2)
abbrev Uu (aD:List R2) (aE:Int) (v5:List R3) (v7:Int):=(aD++[(R2.mk aE (rd v5 (0+(tn v7))).a)])
abbrev z9x (aD:List R2) (aE:Int) (v5:List R3) (v7:Int):=(Zt (Zz aD) 0 aD.length 2 [(ii aE),(ii (rd v5 (0+(tn v7))).a)])
abbrev y6l (v3:List R3) (l0:List R2) (v17:Int):=(v3++[(R3.mk (rd l0 (tn v17)).a 0 1),(R3.mk (rd l0 (tn v17)).b 0 (-1))])
def v9s (l0:List R2):AFr:=⟨⟨11,0,true⟩,(Wd prog 174 [1,1,1,0] 1),(Zb prog 174 [1,1,1,0] 1),none,(Zy prog 77),Yq [(9,(.dat l0.length (Zz l0)))]⟩
def spmC (l0:List R2):spmS→Cfg
 | .h0 v8=>⟨⟨19,0,true⟩,none,(Zb prog 195 [1,0,1,0,0] 0),none,(Zy prog 3),⟨Yq [(0,(.dat l0.length (Zz l0))),(1,(.fn 188 [])),(7,(ii (l0.length:Int))),(8,(ii v8))],Uv [] 0,0,[],true⟩,[⟨⟨9,0,true⟩,(Wd prog 187 [1,0] 2),(Zb prog 187 [1,0] 1),none,(Zy prog 3),Yq [(5,(.dat l0.length (Zz l0))),(6,(.fn 188 []))]⟩,⟨⟨11,0,true⟩,(Wd prog 174 [1,1,0,0] 1),(Zb prog 174 [1,1,0,0] 1),none,(Zy prog 77),Yq [(0,(.dat l0.length (Zz l0))),(7,(.dat l0.length (Zz l0)))]⟩],.leaf⟩
 | .h1 v3 v17=>⟨⟨38,0,true⟩,none,(Zb prog 185 [1,1,0,1,0,0,1,1,0,0,1,1,0,0] 0),none,(Zy prog 15),⟨Yq [(3,(.sla 7 3 0 v3.length (.un 3))),(4,(ii 0)),(8,(.sl 0 0 2 (.un 1))),(9,(ii 2)),(10,(ii 0)),(15,(.dat l0.length (Zz l0))),(16,(ii (l0.length:Int))),(17,(ii v17))],Uv [⟨[(.dat l0.length (Zz l0)),.nils],158,none⟩,⟨[(.fn 189 [])],198,none⟩,⟨[(ii 0),(ii 0)],235,none⟩,⟨[.nils],158,none⟩,⟨[(ii 0)],3,none⟩,⟨[(.bool false)],4,none⟩,⟨[(.fn 184 [(.ptr 5 0),(.ptr 4 0),(.ptr 3 0)])],236,none⟩,⟨rows v3.length (Zz v3),240,some ⟨3,v3.length,(Zz v3)⟩⟩] 0,8,[],true⟩,[⟨⟨42,0,true⟩,(Wd prog 170 [1,1,1,1,1,0,0] 3),(Zb prog 170 [1,1,1,1,1,0,0] 1),none,(Zy prog 4),Yq [(5,(.ptr 1 0)),(6,.nils),(7,(.ptr 2 0)),(8,(.ptr 3 0)),(9,(.ptr 4 0)),(10,(.ptr 5 0)),(11,(.ptr 6 0)),(16,(.sl 0 0 2 (.un 1)))]⟩,(v9s l0)],.leaf⟩
 | .h2 v5 v6 v7 aB bU aE aC aD=>⟨⟨16,0,true⟩,none,(Zb prog 197 [1,0,0] 0),none,[],⟨Yq [(0,(.yld 0)),(5,(.sla 7 3 0 v5.length (.un 3))),(6,(ii v6)),(7,(ii v7))],z0z [(1,⟨[(.fn 189 [])],198,none⟩),(2,⟨[(ii aB),(ii bU)],235,none⟩),(3,⟨[(ii aE)],3,none⟩),(4,⟨[(.bool aC)],4,none⟩),(5,⟨[(.fn 184 [(.ptr 4 0),(.ptr 3 0),(.ptr 6 0)])],236,none⟩),(6,⟨[(.sla 8 2 0 aD.length (.un 2))],158,none⟩),(7,⟨rows v5.length (Zz v5),240,some ⟨3,v5.length,(Zz v5)⟩⟩),(8,⟨rows aD.length (Zz aD),110,some ⟨2,aD.length,(Zz aD)⟩⟩)],9,[],true⟩,[⟨⟨42,0,true⟩,none,(.inRangeFunc 0::(Zb prog 170 [1,1,1,1,1,0,1,0] 1)),none,(Zy prog 4),Yq [(6,.nils),(8,(.ptr 6 0))]⟩,(v9s l0)],(z5j [(0,⟨.ready,none,42,Yq [(5,(.ptr 1 0)),(7,(.ptr 2 0)),(9,(.ptr 3 0)),(10,(.ptr 4 0)),(11,(.ptr 5 0))],[18],(Xd prog 170 [1,1,1,1,1,0,1,0,0]),(Xd prog 170 [1,1,1,1,1,0,1,0,1])⟩)])⟩
def spmN0 :List (Option (List Nat)):=[some [0,1,7,8],some [5,6],some [0,7]]
def spmM0 :List (Option (List Nat)):=[]
def w6j :List (Option (List Nat)):=[some [3,4,8,9,10,15,16,17],some [5,6,7,8,9,10,11,16],some [9]]
def w6k :List (Option (List Nat)):=[]
def y2y :List (Option (List Nat)):=[some [0,5,6,7],some [6,8],some [9]]
def y2z :List (Option (List Nat)):=[some [5,7,9,10,11],none,none,none,none,none,none,none,none]
def Uq (l0:List R2):spmS→Xe spmS
 | .h0 v8=>(bif (decide (v8<(l0.length:Int))) then (bif ((decide (0≤v8∧v8<(l0.length:Int)))&&true) then (bif (decide ((rd l0 v8.toNat).a <(rd l0 v8.toNat).b)) then (bif (decide ((rd l0 v8.toNat).a ≥(-1000000))) then (bif (!(decide ((rd l0 v8.toNat).b ≤1000000))) then (bif (decide (v8≥0)) then (.ret [.nils,(.int .i64 8)]) else (.to (.h1 ([]:List R3) 0))) else (.to (.h0 (IntKind.wrap .i64 (v8+1))))) else (bif (decide (v8≥0)) then (.ret [.nils,(.int .i64 8)]) else (.to (.h1 ([]:List R3) 0)))) else (bif (decide (v8≥0)) then (.ret [.nils,(.int .i64 8)]) else (.to (.h1 ([]:List R3) 0)))) else .stuck) else (.to (.h1 ([]:List R3) 0)))
 | .h1 v3 v17=>(bif (decide (v17<(l0.length:Int))) then (bif ((decide (0≤v17∧v17<(l0.length:Int)))&&true) then (bif (Nat.beq 3 3&&((decide (0+v3.length=v3.length))&&decide ((v3.length+2+1)*(24+1)≤Un))) then (.to (.h1 (v3++[(R3.mk (rd l0 v17.toNat).a 0 1),(R3.mk (rd l0 v17.toNat).b 0 (-1))]) (IntKind.wrap .i64 (v17+1)))) else .stuck) else .stuck) else (bif (y0v (cvT v3)) then (bif (decide (v3.length<4611686018427387904)) then (bif (decide (v3.length=v3.length)) then (.to (.h2 (z0n (cvT v3)) (v3.length:Int) 0 0 0 0 false ([]:List R2))) else .stuck) else .stuck) else .stuck))
 | .h2 v5 v6 v7 aB bU aE aC aD=>(bif (decide (v7<v6)) then (bif ((decide (0≤v7∧v7<(v5.length:Int)))&&true) then (bif (decide ((0+v7.toNat)<v5.length)) then (bif (!aC) then (bif (decide ((rd v5 (0+v7.toNat)).b =Int.ofNat 0)) then (.to (.h2 v5 v6 (IntKind.wrap .i64 (v7+1)) (IntKind.wrap .i64 (aB+(rd v5 (0+v7.toNat)).c)) bU (rd v5 (0+v7.toNat)).a (w1p (decide ((IntKind.wrap .i64 (aB+(rd v5 (0+v7.toNat)).c))>0)) (decide (bU>0))) aD)) else (bif (decide ((rd v5 (0+v7.toNat)).b =Int.ofNat 1)) then (.to (.h2 v5 v6 (IntKind.wrap .i64 (v7+1)) aB (IntKind.wrap .i64 (bU+(rd v5 (0+v7.toNat)).c)) (rd v5 (0+v7.toNat)).a (w1p (decide (aB>0)) (decide ((IntKind.wrap .i64 (bU+(rd v5 (0+v7.toNat)).c))>0))) aD)) else .stuck)) else (bif (aE == (rd v5 (0+v7.toNat)).a) then (bif (decide ((rd v5 (0+v7.toNat)).b =Int.ofNat 0)) then (.to (.h2 v5 v6 (IntKind.wrap .i64 (v7+1)) (IntKind.wrap .i64 (aB+(rd v5 (0+v7.toNat)).c)) bU (rd v5 (0+v7.toNat)).a (w1p (decide ((IntKind.wrap .i64 (aB+(rd v5 (0+v7.toNat)).c))>0)) (decide (bU>0))) aD)) else (bif (decide ((rd v5 (0+v7.toNat)).b =Int.ofNat 1)) then (.to (.h2 v5 v6 (IntKind.wrap .i64 (v7+1)) aB (IntKind.wrap .i64 (bU+(rd v5 (0+v7.toNat)).c)) (rd v5 (0+v7.toNat)).a (w1p (decide (aB>0)) (decide ((IntKind.wrap .i64 (bU+(rd v5 (0+v7.toNat)).c))>0))) aD)) else .stuck)) else (bif (decide ((aD.length:Int)>0)) then (bif ((decide (0≤(IntKind.wrap .i64 ((aD.length:Int) - 1))∧(IntKind.wrap .i64 ((aD.length:Int) - 1))<(aD.length:Int)))&&true) then (bif (decide ((0+(Int.toNat (IntKind.wrap .i64 ((aD.length:Int) - 1))))<aD.length)) then (bif ((rd aD (0+(Int.toNat (IntKind.wrap .i64 ((aD.length:Int) - 1))))).b == aE) then (bif (decide ((rd v5 (0+v7.toNat)).b =Int.ofNat 0)) then (.to (.h2 v5 v6 (IntKind.wrap .i64 (v7+1)) (IntKind.wrap .i64 (aB+(rd v5 (0+v7.toNat)).c)) bU (rd v5 (0+v7.toNat)).a (w1p (decide ((IntKind.wrap .i64 (aB+(rd v5 (0+v7.toNat)).c))>0)) (decide (bU>0))) (aD.set (0+(Int.toNat (IntKind.wrap .i64 ((aD.length:Int) - 1)))) (R2.mk (rd aD (0+(Int.toNat (IntKind.wrap .i64 ((aD.length:Int) - 1))))).a (rd v5 (0+v7.toNat)).a)))) else (bif (decide ((rd v5 (0+v7.toNat)).b =Int.ofNat 1)) then (.to (.h2 v5 v6 (IntKind.wrap .i64 (v7+1)) aB (IntKind.wrap .i64 (bU+(rd v5 (0+v7.toNat)).c)) (rd v5 (0+v7.toNat)).a (w1p (decide (aB>0)) (decide ((IntKind.wrap .i64 (bU+(rd v5 (0+v7.toNat)).c))>0))) (aD.set (0+(Int.toNat (IntKind.wrap .i64 ((aD.length:Int) - 1)))) (R2.mk (rd aD (0+(Int.toNat (IntKind.wrap .i64 ((aD.length:Int) - 1))))).a (rd v5 (0+v7.toNat)).a)))) else .stuck)) else (bif (Nat.beq 2 2&&((decide (0+aD.length=aD.length))&&decide ((aD.length+1+1)*(16+1)≤Un))) then (bif (decide ((rd v5 (0+v7.toNat)).b =Int.ofNat 0)) then (.to (.h2 v5 v6 (IntKind.wrap .i64 (v7+1)) (IntKind.wrap .i64 (aB+(rd v5 (0+v7.toNat)).c)) bU (rd v5 (0+v7.toNat)).a (w1p (decide ((IntKind.wrap .i64 (aB+(rd v5 (0+v7.toNat)).c))>0)) (decide (bU>0))) (aD++[(R2.mk aE (rd v5 (0+v7.toNat)).a)]))) else (bif (decide ((rd v5 (0+v7.toNat)).b =Int.ofNat 1)) then (.to (.h2 v5 v6 (IntKind.wrap .i64 (v7+1)) aB (IntKind.wrap .i64 (bU+(rd v5 (0+v7.toNat)).c)) (rd v5 (0+v7.toNat)).a (w1p (decide (aB>0)) (decide ((IntKind.wrap .i64 (bU+(rd v5 (0+v7.toNat)).c))>0))) (aD++[(R2.mk aE (rd v5 (0+v7.toNat)).a)]))) else .stuck)) else .stuck)) else .stuck) else .stuck) else (bif (Nat.beq 2 2&&((decide (0+aD.length=aD.length))&&decide ((aD.length+1+1)*(16+1)≤Un))) then (bif (decide ((rd v5 (0+v7.toNat)).b =Int.ofNat 0)) then (.to (.h2 v5 v6 (IntKind.wrap .i64 (v7+1)) (IntKind.wrap .i64 (aB+(rd v5 (0+v7.toNat)).c)) bU (rd v5 (0+v7.toNat)).a (w1p (decide ((IntKind.wrap .i64 (aB+(rd v5 (0+v7.toNat)).c))>0)) (decide (bU>0))) (aD++[(R2.mk aE (rd v5 (0+v7.toNat)).a)]))) else (bif (decide ((rd v5 (0+v7.toNat)).b =Int.ofNat 1)) then (.to (.h2 v5 v6 (IntKind.wrap .i64 (v7+1)) aB (IntKind.wrap .i64 (bU+(rd v5 (0+v7.toNat)).c)) (rd v5 (0+v7.toNat)).a (w1p (decide (aB>0)) (decide ((IntKind.wrap .i64 (bU+(rd v5 (0+v7.toNat)).c))>0))) (aD++[(R2.mk aE (rd v5 (0+v7.toNat)).a)]))) else .stuck)) else .stuck)))) else .stuck) else .stuck) else (.ret [(.dat aD.length (Zz aD)),(.int .i64 0)]))
def y1h (l0:List R2):Xe spmS:=(bif (decide ((l0.length:Int)>400)) then (.ret [.nils,(.int .i64 4)]) else (.to (.h0 0)))
theorem w2m (l0:List R2): ∀s,Xr prog (Zy prog 174) (spmC l0) (spmC l0 s) (Uq l0 s)
 | .h0 v8=>(lb (fun k0=>(lo fun aJ=>(lb (fun k1=>(lb (fun k2=>(lb (fun k3=>(lb (fun k4=>(lr 11 174 [1,1,0,1,0,0] 1 77 [(2,.nils),(3,(ii 8))] (sl Qd 79 [] ⟨[],[],[some [2,3]],[]⟩ ⟨[],[],[]⟩ (trs 9 []) (tt k4 (tt k3 (tt k2 (tt k1 (ww aJ (tt k0 nn))))))))) (fun k4=>(sl Qd 154 [(240,3,Zz ([]:List R3))] ⟨[8,2,3,4,5,6,7,9],[],w6j,w6k⟩ ⟨[(3,.grow 7 3)],[],[]⟩ (trs 8 (bl 2 2)) (pp (fl ([]:List R3) nn) (tt k4 (tt k3 (tt k2 (tt k1 (ww aJ (tt k0 nn))))))))))) (fun k3=>(sl Qd 69 [] ⟨[],[],spmN0,spmM0⟩ ⟨[],[],[]⟩ (trs 7 [false]) (tt k3 (tt k2 (tt k1 (ww aJ (tt k0 nn))))))))) (fun k2=>(lb (fun k3=>(lr 11 174 [1,1,0,1,0,0] 1 77 [(2,.nils),(3,(ii 8))] (sl Qd 79 [] ⟨[],[],[some [2,3]],[]⟩ ⟨[],[],[]⟩ (trs 4 (bl 5 24)) (tt k3 (tt k2 (tt k1 (ww aJ (tt k0 nn)))))))) (fun k3=>(sl Qd 154 [(240,3,Zz ([]:List R3))] ⟨[8,2,3,4,5,6,7,9],[],w6j,w6k⟩ ⟨[(3,.grow 7 3)],[],[]⟩ (trs 4 (bl 6 40)) (pp (fl ([]:List R3) nn) (tt k3 (tt k2 (tt k1 (ww aJ (tt k0 nn)))))))))))) (fun k1=>(lb (fun k2=>(lr 11 174 [1,1,0,1,0,0] 1 77 [(2,.nils),(3,(ii 8))] (sl Qd 79 [] ⟨[],[],[some [2,3]],[]⟩ ⟨[],[],[]⟩ (bl 9 385) (tt k2 (tt k1 (ww aJ (tt k0 nn))))))) (fun k2=>(sl Qd 154 [(240,3,Zz ([]:List R3))] ⟨[8,2,3,4,5,6,7,9],[],w6j,w6k⟩ ⟨[(3,.grow 7 3)],[],[]⟩ (bl 10 641) (pp (fl ([]:List R3) nn) (tt k2 (tt k1 (ww aJ (tt k0 nn)))))))))))) (fun k0=>(sl Qd 98 [(240,3,Zz ([]:List R3))] ⟨[6,0,1,2,3,4,5,7],[],w6j,w6k⟩ ⟨[(3,.grow 7 3)],[],[]⟩ (bl 3 4) (pp (fl ([]:List R3) nn) (tt k0 nn)))))
 | .h1 v3 v17=>(lb (fun k0=>(lo fun o0=>(lo fun o1=>(sl Qd 36 [] ⟨[0,1,2,3,4,5,6,10],[],w6j,w6k⟩ ⟨[(3,.len (y6l v3 l0 v17).length)],(kpB 7 [.rowed 3 (y6l v3 l0 v17).length (Zz (y6l v3 l0 v17))]),[]⟩ [true] (pp (xL (v3.length+2) (y6l v3 l0 v17).length) (pp (xL (v3.length+2) (y6l v3 l0 v17).length) (pp (xS (v3.length+2) (Zt (Zz v3) 0 v3.length 3 [(ii (rd l0 (tn v17)).a),(ii 0),(ii 1),(ii (rd l0 (tn v17)).b),(ii 0),(ii (-1))]) (Zz (y6l v3 l0 v17))) (pp (pp (xF (Zt (Zz v3) 0 v3.length 3 [(ii (rd l0 (tn v17)).a),(ii 0),(ii 1),(ii (rd l0 (tn v17)).b),(ii 0),(ii (-1))])) nn) (ww o1 (ww o0 (tt k0 nn))))))))))) (fun k0=>(lo fun o0=>(lo fun o1=>(lo fun o2=>(sl Qd 92 [(110,2,Zz ([]:List R2))] ⟨[9,1,2,4,5,6,3,7,10],[],y2y,y2z⟩ ⟨[(5,.len (z0n (cvT v3)).length)],(kpB 6 [.cells [.grow 8 2],.rowed 3 (z0n (cvT v3)).length (Zz (z0n (cvT v3))),.keep]),[]⟩ (bl 4 2) (pp (xL v3.length (z0n (cvT v3)).length (by first | exact z7o _ | exact Vu rfl)) (pp (xL v3.length (z0n (cvT v3)).length (by first | exact z7o _ | exact Vu rfl)) (pp (xS v3.length (Zz (z0n (cvT v3))) (Zz (z0n (cvT v3)))) (pp (fl (z0n (cvT v3)) (fl ([]:List R2) nn)) (pp (pp (xG (Nat.beq 3 3)) (pp (xG (Nat.beq 3 3)) (pp (xG (Nat.beq 0 0)) (pp (pp (xG (decide (v3.length=v3.length))) (pp (xr v3) (xG (decide (v3.length<4611686018427387904))))) (xG (y0v (cvT v3))))))) (tt k0 nn))))))))))))
 | .h2 v5 v6 v7 aB bU aE aC aD=>(lb (fun k0=>(lo fun aJ=>(lo fun bJ=>(lb (fun k1=>(lb (fun k2=>(sl Qd 62 [] ⟨(List.range 9),[],y2y,y2z⟩ ⟨[],[],[]⟩ (trs 5 (bl 3 0)) (pp (fl v5 (fl aD nn)) (ww k2 (tt k1 (ww bJ (ww aJ (tt k0 nn)))))))) (fun k2=>(lb (fun k3=>(sl Qd 62 [] ⟨(List.range 9),[],y2y,y2z⟩ ⟨[],[],[]⟩ (trs 6 (bl 4 2)) (pp (fl v5 (fl aD nn)) (ww k3 (tt k1 (ww bJ (ww aJ (tt k0 nn)))))))) (fun k3=>trivial))))) (fun k1=>(lb (fun k2=>(lb (fun k3=>(sl Qd 62 [] ⟨(List.range 9),[],y2y,y2z⟩ ⟨[],[],[]⟩ (bl 8 17) (pp (fl v5 (fl aD nn)) (ww k3 (tt k2 (tt k1 (ww bJ (ww aJ (tt k0 nn))))))))) (fun k3=>(lb (fun k4=>(sl Qd 62 [] ⟨(List.range 9),[],y2y,y2z⟩ ⟨[],[],[]⟩ (bl 10 177) (pp (fl v5 (fl aD nn)) (ww k4 (tt k2 (tt k1 (ww bJ (ww aJ (tt k0 nn))))))))) (fun k4=>trivial))))) (fun k2=>(lb (fun k3=>(lo fun cM=>(lo fun dP=>(lb (fun k4=>(lb (fun k5=>(sl Qd 81 [] ⟨(List.range 9),[],y2y,y2z⟩ ⟨[],(kpB 6 [.cells [.len (aD.set (0+(tn (wr ((aD.length:Int) - 1)))) (R2.mk (rd aD (0+(tn (wr ((aD.length:Int) - 1))))).a (rd v5 (0+(tn v7))).a)).length],.keep,.rowed 2 (aD.set (0+(tn (wr ((aD.length:Int) - 1)))) (R2.mk (rd aD (0+(tn (wr ((aD.length:Int) - 1))))).a (rd v5 (0+(tn v7))).a)).length (Zz (aD.set (0+(tn (wr ((aD.length:Int) - 1)))) (R2.mk (rd aD (0+(tn (wr ((aD.length:Int) - 1))))).a (rd v5 (0+(tn v7))).a)))]),[]⟩ (bl 17 16353) (pp (xL aD.length (aD.set (0+(tn (wr ((aD.length:Int) - 1)))) (R2.mk (rd aD (0+(tn (wr ((aD.length:Int) - 1))))).a (rd v5 (0+(tn v7))).a)).length) (pp (xL aD.length (aD.set (0+(tn (wr ((aD.length:Int) - 1)))) (R2.mk (rd aD (0+(tn (wr ((aD.length:Int) - 1))))).a (rd v5 (0+(tn v7))).a)).length) (pp (xS aD.length (Xj (Zz aD) (0+(tn (wr ((aD.length:Int) - 1)))) 1 [(ii (rd v5 (0+(tn v7))).a)]) (Zz (aD.set (0+(tn (wr ((aD.length:Int) - 1)))) (R2.mk (rd aD (0+(tn (wr ((aD.length:Int) - 1))))).a (rd v5 (0+(tn v7))).a)))) (pp (fl v5 (pp (xF (Xj (Zz aD) (0+(tn (wr ((aD.length:Int) - 1)))) 1 [(ii (rd v5 (0+(tn v7))).a)])) nn)) (ww k5 (ww dP (ww cM (tt k4 (ww dP (ww cM (tt k3 (tt k2 (tt k1 (ww bJ (ww aJ (tt k0 nn)))))))))))))))))) (fun k5=>(lb (fun k6=>(sl Qd 81 [] ⟨(List.range 9),[],y2y,y2z⟩ ⟨[],(kpB 6 [.cells [.len (aD.set (0+(tn (wr ((aD.length:Int) - 1)))) (R2.mk (rd aD (0+(tn (wr ((aD.length:Int) - 1))))).a (rd v5 (0+(tn v7))).a)).length],.keep,.rowed 2 (aD.set (0+(tn (wr ((aD.length:Int) - 1)))) (R2.mk (rd aD (0+(tn (wr ((aD.length:Int) - 1))))).a (rd v5 (0+(tn v7))).a)).length (Zz (aD.set (0+(tn (wr ((aD.length:Int) - 1)))) (R2.mk (rd aD (0+(tn (wr ((aD.length:Int) - 1))))).a (rd v5 (0+(tn v7))).a)))]),[]⟩ (bl 19 98273) (pp (xL aD.length (aD.set (0+(tn (wr ((aD.length:Int) - 1)))) (R2.mk (rd aD (0+(tn (wr ((aD.length:Int) - 1))))).a (rd v5 (0+(tn v7))).a)).length) (pp (xL aD.length (aD.set (0+(tn (wr ((aD.length:Int) - 1)))) (R2.mk (rd aD (0+(tn (wr ((aD.length:Int) - 1))))).a (rd v5 (0+(tn v7))).a)).length) (pp (xS aD.length (Xj (Zz aD) (0+(tn (wr ((aD.length:Int) - 1)))) 1 [(ii (rd v5 (0+(tn v7))).a)]) (Zz (aD.set (0+(tn (wr ((aD.length:Int) - 1)))) (R2.mk (rd aD (0+(tn (wr ((aD.length:Int) - 1))))).a (rd v5 (0+(tn v7))).a)))) (pp (fl v5 (pp (xF (Xj (Zz aD) (0+(tn (wr ((aD.length:Int) - 1)))) 1 [(ii (rd v5 (0+(tn v7))).a)])) nn)) (ww k6 (ww dP (ww cM (tt k4 (ww dP (ww cM (tt k3 (tt k2 (tt k1 (ww bJ (ww aJ (tt k0 nn)))))))))))))))))) (fun k6=>trivial))))) (fun k4=>(lo fun cL=>(lb (fun k5=>(sl Qd 81 [] ⟨[0,1,2,3,4,5,6,7,12],[],y2y,y2z⟩ ⟨[],(kpB 6 [.cells [.len (Uu aD aE v5 v7).length],.keep,.rowed 2 (Uu aD aE v5 v7).length (Zz (Uu aD aE v5 v7))]),[]⟩ (bl 17 8161) (pp (xL (aD.length+1) (Uu aD aE v5 v7).length) (pp (xL (aD.length+1) (Uu aD aE v5 v7).length) (pp (xS (aD.length+1) (z9x aD aE v5 v7) (Zz (Uu aD aE v5 v7))) (pp (fl v5 (pp (xF (z9x aD aE v5 v7)) nn)) (ww k5 (ww cL (tt k4 (ww dP (ww cM (tt k3 (tt k2 (tt k1 (ww bJ (ww aJ (tt k0 nn))))))))))))))))) (fun k5=>(lb (fun k6=>(sl Qd 81 [] ⟨[0,1,2,3,4,5,6,7,12],[],y2y,y2z⟩ ⟨[],(kpB 6 [.cells [.len (Uu aD aE v5 v7).length],.keep,.rowed 2 (Uu aD aE v5 v7).length (Zz (Uu aD aE v5 v7))]),[]⟩ (bl 19 90081) (pp (xL (aD.length+1) (Uu aD aE v5 v7).length) (pp (xL (aD.length+1) (Uu aD aE v5 v7).length) (pp (xS (aD.length+1) (z9x aD aE v5 v7) (Zz (Uu aD aE v5 v7))) (pp (fl v5 (pp (xF (z9x aD aE v5 v7)) nn)) (ww k6 (ww cL (tt k4 (ww dP (ww cM (tt k3 (tt k2 (tt k1 (ww bJ (ww aJ (tt k0 nn))))))))))))))))) (fun k6=>trivial)))))))))) (fun k3=>(lo fun cM=>(lb (fun k4=>(sl Qd 81 [] ⟨[0,1,2,3,4,5,6,7,12],[],y2y,y2z⟩ ⟨[],(kpB 6 [.cells [.len (Uu aD aE v5 v7).length],.keep,.rowed 2 (Uu aD aE v5 v7).length (Zz (Uu aD aE v5 v7))]),[]⟩ (bl 17 1) (pp (xL (aD.length+1) (Uu aD aE v5 v7).length) (pp (xL (aD.length+1) (Uu aD aE v5 v7).length) (pp (xS (aD.length+1) (z9x aD aE v5 v7) (Zz (Uu aD aE v5 v7))) (pp (fl v5 (pp (xF (z9x aD aE v5 v7)) nn)) (ww k4 (ww cM (tt k3 (tt k2 (tt k1 (ww bJ (ww aJ (tt k0 nn)))))))))))))) (fun k4=>(lb (fun k5=>(sl Qd 81 [] ⟨[0,1,2,3,4,5,6,7,12],[],y2y,y2z⟩ ⟨[],(kpB 6 [.cells [.len (Uu aD aE v5 v7).length],.keep,.rowed 2 (Uu aD aE v5 v7).length (Zz (Uu aD aE v5 v7))]),[]⟩ (bl 19 81921) (pp (xL (aD.length+1) (Uu aD aE v5 v7).length) (pp (xL (aD.length+1) (Uu aD aE v5 v7).length) (pp (xS (aD.length+1) (z9x aD aE v5 v7) (Zz (Uu aD aE v5 v7))) (pp (fl v5 (pp (xF (z9x aD aE v5 v7)) nn)) (ww k5 (ww cM (tt k3 (tt k2 (tt k1 (ww bJ (ww aJ (tt k0 nn)))))))))))))) (fun k5=>trivial)))))))))))))) (fun k0=>(lr 11 3 [1,1,1,1,1,1,0] 1 77 [(2,(.dat aD.length (Zz aD))),(3,(ii 0))] (sl Qd 19 [] ⟨[],[8],[some [2,3]],[]⟩ ⟨[(2,.frz aD.length aD.length (Zz aD) (Zz aD))],[],[]⟩ [false] (pp (xZ (z2u 2 2 0 aD.length aD.length (Zz aD)) aD.length (Zz aD)) (pp (xL aD.length aD.length) (pp (xS aD.length (Zz aD) (Zz aD)) (pp (fl aD nn) (tt k0 nn)))))))))
theorem x5i (l0:List R2):Xr prog (Zy prog 174) (spmC l0) (Zi prog 174 [(.dat l0.length (Zz l0))] true []) (y1h l0):=(lb (fun k0=>(lr 11 174 [1,0,1,0,0] 1 77 [(2,.nils),(3,(ii 4))] (sl Qd 18 [] ⟨[],[],[some [2,3]],[]⟩ ⟨[],[],[]⟩ [true] (tt k0 nn)))) (fun k0=>(sl Qd 41 [] ⟨[],[],spmN0,spmM0⟩ ⟨[],[],[]⟩ [false] (tt k0 nn))))
theorem v3o (l0:List R2) (n:Nat) (vs:List AVal) (h:Yj (Uq l0) n (y1h l0)=.ret vs):Kg prog (Zy prog 174) (Zi prog 174 [(.dat l0.length (Zz l0))] true []) vs:=by have:=Yw (w2m l0) n _ (x5i l0);rwa [h] at this
end Go.Am
namespace Go.Am
open Go.Proofs
def z1c (s:R2):Bool:=decide (s.a<s.b)&&(decide (s.a≥ -1000000)&&decide (s.b≤1000000))
def Kj (l:List R2):List R3:=l.flatMap fun s=>[⟨s.a,0,1⟩,⟨s.b,0,-1⟩]
def Ve (out:List R2) (last:Int) (inn:Bool) (at':Int):List R2:=
 bif !inn then out else bif last == at' then out else
 bif decide (0<out.length)&&((rd out (out.length - 1)).b == last) then out.set (out.length - 1) ⟨(rd out (out.length - 1)).a,at'⟩ else out++[⟨last,at'⟩]
def swF :List R3→Int→Int→Bool→List R2→List R2
 | [],_,_,_,out=>out
 | e::r,o,last,inn,out=>swF r (o+e.c) e.a (decide (o+e.c>0)) (Ve out last inn e.a)
def swV (l:List R2):List R2:=swF (z0n (Kj l)) 0 0 false []
def Xf (l:List R2):List R2:=bif decide (400<l.length) then [] else bif l.all z1c then swV l else []
def v9t (l:List R2):Int:=bif decide (400<l.length) then 4 else bif l.all z1c then 0 else 8
def y2x (l:List R2):Bool:=true
def x1y (l:List R2):List AVal:=bif decide (400<l.length) then [.nils,.int .i64 4] else bif l.all z1c then [.dat (swV l).length (Zz (swV l)),.int .i64 0] else [.nils,.int .i64 8]
theorem z4b (l:List R2):(Kj l).length =2*l.length:=by
 induction l with
 | nil=>rfl
 | cons r l ih=>show (_::_::Kj l).length =_;simp only [List.length_cons,ih];omega
theorem z2k (out:List R2) (last:Int) (inn:Bool) (a:Int):(Ve out last inn a).length ≤out.length+1:=by
 unfold Ve;cases inn <;> simp only [Bool.not_true,Bool.not_false,cond_true,cond_false]
 ·omega
 ·cases (last == a) <;> simp only [cond_true,cond_false]
  ·cases (decide (0<out.length)&&((rd out (out.length - 1)).b == last)) <;> simp
  ·omega
theorem y1g (e:R3) (r:List R3) (o last:Int) (inn:Bool) (out:List R2):swF (e::r) o last inn out=swF r (o+e.c) e.a (decide (o+e.c>0)) (Ve out last inn e.a):=rfl
theorem u7x {a:Int} (k:Nat) (h:a=(k:Int)):decide (a=Int.ofNat k)=true:=decide_eq_true h
section
variable (l:List R2) (hl:l.length≤400)
include hl
theorem v9p (L:List R3) (hL:L.length≤800) (hE: ∀i,i<L.length→(rd L i).b =0∧((rd L i).c =1∨(rd L i).c = -1)): ∀(k i:Nat) (o last:Int) (inn:Bool) (out:List R2),i+k=L.length→ -(i:Int)≤o→o≤i→out.length≤i→
  ∃n,Yj (Uq l) n (.to (.h2 L (L.length:Int) (i:Int) o 0 last inn out))=.ret [.dat (swF (L.drop i) o last inn out).length (Zz (swF (L.drop i) o last inn out)),.int .i64 0]
 | 0,i,o,last,inn,out,h,ho1,ho2,hout=>by have _uhl:=hl;refine ⟨1,?_⟩;rw [Zw,List.drop_eq_nil_of_le (by omega)];simp (disch:=omega) only [Uq,Zo,cond_false,Zg,swF]
 | k +1,i,o,last,inn,out,h,ho1,ho2,hout=>by
  obtain ⟨hb,hc⟩:=hE i (by omega);have hcl:=z2k out last inn (rd L i).a;obtain ⟨n,hn⟩:=v9p L hL hE k (i+1) (o+(rd L i).c) (rd L i).a (decide (o+(rd L i).c >0)) (Ve out last inn (rd L i).a) (by omega) (by rcases hc with hc | hc <;> omega) (by rcases hc with hc | hc <;> omega) (by omega);refine ⟨n+1,?_⟩;rw [Yc (show i<L.length by omega),Zw];have hf: ∀b,w1p b (decide ((0:Int)>0))=b:=fun b=>rfl;have hw:IntKind.wrap .i64 (o+(rd L i).c)=o+(rd L i).c :=Zu (by rcases hc with hc | hc <;> omega);rw [y1g];have hf': ∀b,w1p b false=b:=fun b=>rfl;have hz:=u7x 0 hb;unfold Ve at hn ⊢;cases inn with
  | false=>simp only [Bool.not_false,cond_true] at hn ⊢;simp (disch:=omega) only [Uq,Bool.not_false,hz,hw,hf,hf',Zd,Ze,Zs,Zu,Zx,Zj,Nat.zero_add,Bool.and_true,cond_true];exact hn
  | true=>
   simp only [Bool.not_true,cond_false] at hn ⊢;rcases Yv (last == (rd L i).a) with q | q
   ·rw [q] at hn ⊢;simp only [cond_true] at hn ⊢;simp (disch:=omega) only [Uq,Bool.not_true,q,hz,hw,hf,hf',Zd,Ze,Zs,Zu,Zx,Zj,Nat.zero_add,Bool.and_true,cond_true,cond_false];exact hn
   ·rw [q] at hn ⊢;simp only [cond_false] at hn ⊢;by_cases h0:0<out.length
    ·rw [decide_eq_true h0,Bool.true_and] at hn ⊢;rcases Yv ((rd out (out.length - 1)).b == last) with q2 | q2
     ·rw [q2] at hn ⊢;simp only [cond_true] at hn ⊢;simp (disch:=omega) only [Uq,Bool.not_true,q,q2,hz,hw,hf,hf',Zd,Ye,Ze,Zs,Zu,Zx,Zj,Zn,Nat.zero_add,Bool.and_true,cond_true,cond_false];exact hn
     ·rw [q2] at hn ⊢;simp only [cond_false] at hn ⊢;simp (disch:=omega) only [Uq,Bool.not_true,q,q2,hz,hw,hf,hf',Zd,Ye,Ze,Zs,Yx,Zc,Yu,decide_true,Zu,Zx,Zj,Zn,Nat.zero_add,Bool.and_true,Bool.true_and,cond_true,cond_false];exact hn
    ·rw [decide_eq_false h0,Bool.false_and] at hn ⊢;simp only [cond_false] at hn ⊢;simp (disch:=omega) only [Uq,Bool.not_true,q,hz,hw,hf,hf',Zd,Ys,Ze,Zs,Yx,Zc,Yu,decide_true,Zu,Zx,Zj,Nat.zero_add,Bool.and_true,Bool.true_and,cond_true,cond_false];exact hn
theorem v1o (h:l.all z1c=true): ∀e∈Kj l,bnd3 e=true∧e.b=0∧(e.c=1∨e.c= -1):=by
 have _uhl:=hl;intro e he;obtain ⟨s,hs,h1⟩:=List.mem_flatMap.1 he;have hv:=List.all_eq_true.1 h s hs;simp only [z1c,Bool.and_eq_true,decide_eq_true_eq] at hv;simp only [List.mem_cons,List.not_mem_nil,or_false] at h1;rcases h1 with rfl | rfl
 ·exact ⟨decide_eq_true (by simp only;omega),rfl,.inl rfl⟩
 ·exact ⟨decide_eq_true (by simp only;omega),rfl,.inr rfl⟩
theorem v9q (hv:l.all z1c=true): ∀(k i:Nat) (acc:List R3),i+k=l.length→acc=Kj (l.take i)→ ∃n,Yj (Uq l) n (.to (.h1 acc (i:Int)))=.ret [.dat (swV l).length (Zz (swV l)),.int .i64 0]
 | 0,i,acc,h,ha=>by
  have e:acc=Kj l:=by rw [ha,List.take_of_length_le (by omega)]
  subst e;have hle:=z4b l;have fJ:=v1o l hl hv;have hb:y0v (Kj l)=true:=List.all_eq_true.2 fun e he=>(fJ e he).1;obtain ⟨hp,_⟩:=Ks (Kj l) hb;have hpl:=hp.length_eq;obtain ⟨n,hn⟩:=v9p l hl (z0n (Kj l)) (by omega) (fun i hi=>by
   rw [Yt hi];exact (fJ _ (hp.mem_iff.1 (List.getElem_mem hi))).2) (z0n (Kj l)).length 0 0 0 false [] (Nat.zero_add _) (by omega) (by omega) (Nat.zero_le _)
  refine ⟨n+1,?_⟩;rw [Zw];simp (disch:=omega) only [Uq,Zp,Zk,hb,Zo,Zs,Yx,decide_true,cond_true,cond_false];rw [←hpl];simp only [Qv,List.drop_zero] at hn;exact hn
 | k+1,i,acc,h,ha=>by
  have hle:=z4b (l.take i);have fW:acc.length≤2*i:=by rw [ha,hle];simp;omega
  obtain ⟨n,hn⟩:=v9q hv k (i+1) (acc++Kj [rd l i]) (by omega) (by
   rw [ha,List.take_add_one];have:l[i]? =some (rd l i):=by rw [Yt (show i<l.length by omega)];exact List.getElem?_eq_getElem _
   rw [this];simp [Kj])
  refine ⟨n+1,?_⟩;rw [Zw];simp (disch:=omega) only [Uq,Zd,Ze,Yz,Yx,Zc,Yu,decide_true,Zu,Zx,Zj,Nat.zero_add,Bool.and_true,Bool.true_and,cond_true];exact hn
theorem v9r : ∀(k i:Nat),i+k=l.length→(∀s∈l.take i,z1c s=true)→ ∃n,Yj (Uq l) n (.to (.h0 (i:Int)))=.ret (bif l.all z1c then [.dat (swV l).length (Zz (swV l)),.int .i64 0] else [.nils,.int .i64 8])
 | 0,i,h,ht=>by have hv:l.all z1c=true:=List.all_eq_true.2 fun s hs=>ht s (by rw [List.take_of_length_le (by omega)];exact hs);obtain ⟨n,hn⟩:=v9q l hl hv l.length 0 [] (Nat.zero_add _) rfl;refine ⟨n+1,?_⟩;rw [Zw,hv,cond_true];simp (disch:=omega) only [Uq,Zo,cond_false];exact hn
 | k+1,i,h,ht=>by
  have hi:i<l.length:=by omega
  rcases Yv (z1c (rd l i)) with q | q
  ·obtain ⟨n,hn⟩:=v9r k (i+1) (by omega) (fun s hs=>by
    rw [List.take_add_one] at hs;have e:l[i]? =some (rd l i):=by rw [Yt hi];exact List.getElem?_eq_getElem _
    rw [e] at hs;simp only [Option.toList_some,List.mem_append,List.mem_singleton] at hs;rcases hs with hs | rfl
    ·exact ht s hs
    ·exact q)
   refine ⟨n+1,?_⟩;rw [Zw];simp only [z1c,Bool.and_eq_true,decide_eq_true_eq] at q;simp (disch:=omega) only [Uq,Zd,Xc,v8g,Ze,Zu,Zx,Zj,Bool.not_true,Bool.and_true,cond_true,cond_false];exact hn
  ·have hv:l.all z1c=false:=Bool.eq_false_iff.2 fun e=>by have:=List.all_eq_true.1 e (rd l i) (by rw [Yt hi];exact List.getElem_mem hi);rw [this] at q;cases q
   refine ⟨1,?_⟩;rw [Zw,hv,cond_false];unfold z1c at q;rcases Yv (decide ((rd l i).a <(rd l i).b)) with q1 | q1 <;> rcases Yv (decide ((rd l i).a ≥ -1000000)) with q2 | q2 <;> rcases Yv (decide ((rd l i).b ≤1000000)) with q3 | q3 <;>
    rw [q1,q2,q3] at q <;> first
    | (exfalso;revert q;decide)
    | simp (disch:=omega) only [Uq,q1,q2,q3,Zd,v8g,Ze,Zu,Zx,Zj,Bool.not_true,Bool.not_false,Bool.and_true,cond_true,cond_false,Zg]
end
theorem u5n (l:List R2): ∃n,Yj (Uq l) n (y1h l)=.ret (x1y l):=by
 unfold y1h x1y;by_cases h:400<l.length
 ·refine ⟨0,?_⟩;rw [decide_eq_true h,Ye (show (l.length:Int)>400 by omega)];rfl
 ·obtain ⟨n,hn⟩:=v9r l (by omega) l.length 0 (Nat.zero_add _) (fun s hs=>by simp at hs);refine ⟨n,?_⟩;rw [decide_eq_false h,Ys (show¬(l.length:Int)>400 by omega),cond_false,cond_false];exact hn
end Go.Am
namespace Go.Am
open Go.Proofs.Tryz
open Go.Proofs
def fSpm :List AVal→Option (AVal×Bool)
 | [a1]=>match asL R2 a1 with
  | some (L1,g1,n1)=>some (.tup [.dat (Xf L1).length (Zz (Xf L1)),.int .i64 (v9t L1)],isT R2 n1 g1&&y2x L1)
  | _=>none
 | _=>none
theorem u9l {S:Specs} (hS:Zq prog S):Zq prog (S.with x2x fSpm):=by
 refine v1i hS (by kernel_rfl) fun args v h=> ?_;unfold fSpm at h;split at h
 ·rename_i a1;split at h
  ·rename_i L1 g1 n1 e1;simp only [Option.some.injEq,Prod.mk.injEq,Bool.and_eq_true] at h;obtain ⟨rfl,ho1,hw⟩:=h;obtain ⟨N,hN⟩:=u5n L1;refine ⟨_,x1y L1,(.cons (asL_le e1 ho1) .nil),?_,v3o L1 N _ hN,3,?_⟩
   ·unfold Xf v9t x1y;cases decide (400<L1.length) <;> simp only [cond_true,cond_false]
    ·cases L1.all z1c <;> simp only [cond_true,cond_false]
     ·exact fun ρ u hu=>z6n (.cons (z2f R2) (RLe.refl _)) ρ u hu
     ·exact fun ρ u hu=>hu
    ·exact fun ρ u hu=>z6n (.cons (z2f R2) (RLe.refl _)) ρ u hu
   ·unfold x1y;cases decide (400<L1.length) <;> simp only [cond_true,cond_false]
    ·cases L1.all z1c <;> rfl
    ·rfl
  ·cases h
 ·cases h
def T6 :Specs:=T5.with x2x fSpm
theorem Kw :Zq prog T6:=u9l Qd
end Go.Am
namespace Go.Am
open Go.Proofs Go.Sort Go.Shelf Go.RowKit Go.Lib
theorem y5f {γ:Type} (a b:Bool) (x y:γ):(bif a&&b then x else y)=bif a then (bif b then x else y) else y:=by cases a <;> rfl
theorem z6i {γ:Type} (a:Bool) (x y:γ):(bif !a then x else y)=bif a then y else x:=by cases a <;> rfl
structure Dim (α β:Type) where
 lo:α→Int
 hi:α→Int
 pr:α→β
 put:Int→Int→β→α
 ext:Int→α→α
 mak:List β→List β
 same:List β→List β→Bool
structure Sw (α β:Type) where
 out:List α
 last:List β
 first:Nat
 fin:Int
def Us (zs:List Int):List Int:=compact (Yh zs)
theorem z4d (zs:List Int):v1z (Yh zs)=(Us zs).length :=rfl
theorem Wz (zs:List Int):(Yh zs).length =zs.length:=List.length_mergeSort zs
theorem z8d (zs:List Int):(Us zs).length ≤zs.length:=by have:=compact_length_le (Yh zs);rw [Wz] at this;exact this
theorem Uo (zs:List Int) (i:Nat) (h:i<(Us zs).length):rd (Xx (Yh zs)) i=rd (Us zs) i:=by change i<(compact (Yh zs)).length at h;show rd (compact (Yh zs)++_) i=rd (compact (Yh zs)) i;rw [Yt (by rw [List.length_append];exact Nat.lt_add_right _ h),Yt h,List.getElem_append_left h]
theorem Jc (zs:List Int):Yp zs.length (cOf (Zz (Yh zs)))=Yh zs:=by have:=Vi (Yh zs);rw [Wz] at this;exact this
namespace Dim
variable {α β:Type} (D:Dim α β) (l:List α)
def ends :List Int:=l.flatMap fun r=>[D.lo r,D.hi r]
def cuts :List Int:=Us (D.ends l)
def inn (x:Int):List β:=(l.filter fun r=>decide (D.lo r≤x)&&decide (x<D.hi r)).map D.pr
def sec (x:Int):List β:=D.mak (D.inn l x)
def grow (out:List α) (k:Nat) (x:Int):List α:=out.take k++(out.drop k).map (D.ext x)
def one (x x':Int) (s:Sw α β):Sw α β:=
 bif decide (0<(D.sec l x).length)&&((s.fin == x)&&D.same s.last (D.sec l x)) then ⟨D.grow s.out s.first x',s.last,s.first,x'⟩
 else ⟨s.out++(D.sec l x).map (D.put x x'),D.sec l x,s.out.length,x'⟩
def go :Nat→Nat→Sw α β→Sw α β
 | 0,_,s=>s
 | k+1,i,s=>go k (i+1) (D.one l (rd (D.cuts l) i) (rd (D.cuts l) (i+1)) s)
def out :List α:=(D.go l ((D.cuts l).length - 1) 0 ⟨[],[],0,0⟩).out
theorem ends_length :(D.ends l).length =2*l.length:=by
 induction l with
 | nil=>rfl
 | cons r l ih=>show (_::_::D.ends l).length =_;simp only [List.length_cons,ih];omega
theorem cuts_length :(D.cuts l).length ≤2*l.length:=by have:=z8d (D.ends l);rw [D.ends_length] at this;exact this
theorem ends_append (m:List α):D.ends (l++m)=D.ends l++D.ends m:=by simp [ends]
theorem inn_append (m:List α) (x:Int):D.inn (l++m) x=D.inn l x++D.inn m x:=by simp [inn]
theorem inn_length (x:Int):(D.inn l x).length ≤l.length:=by simpa [inn] using List.length_filter_le _ l
theorem inn_t (r:α) (x:Int) (h1:D.lo r≤x) (h2:x<D.hi r):D.inn [r] x=[D.pr r]:=by simp [inn,h1,h2]
theorem inn_f1 (r:α) (x:Int) (h1: ¬D.lo r≤x):D.inn [r] x=[]:=by simp [inn,h1]
theorem inn_f2 (r:α) (x:Int) (h1: ¬x<D.hi r):D.inn [r] x=[]:=by simp [inn,h1]
theorem grow_nil (out:List α) (k:Nat) (x:Int) (h:out.length≤k):D.grow out k x=out:=by unfold grow;rw [List.drop_eq_nil_of_le h,List.map_nil,List.append_nil,List.take_of_length_le h]
theorem grow_length (out:List α) (k:Nat) (x:Int):(D.grow out k x).length =out.length:=by unfold grow;simp;omega
theorem grow_set [Xu α] (out:List α) (j:Nat) (x:Int) (h:j<out.length):D.grow (out.set j (D.ext x (rd out j))) (j+1) x=D.grow out j x:=by
 unfold grow;rw [Yc h,List.map_cons];have e1:(out.set j (D.ext x (rd out j))).take (j+1)=out.take j++[D.ext x (rd out j)]:=by
  apply List.ext_getElem
  ·simp;omega
  ·intro n h1 h2;simp only [List.getElem_take,List.getElem_set];by_cases e:j=n
   ·subst e;rw [if_pos rfl,List.getElem_append_right (by simp only [List.length_take];omega)];simp
   ·rw [if_neg e,List.getElem_append_left (by simp at h1 ⊢;omega),List.getElem_take]
 have e2:(out.set j (D.ext x (rd out j))).drop (j+1)=out.drop (j+1):=by rw [List.drop_set];rw [if_pos (by omega)]
 rw [e1,e2,List.append_assoc];rfl
theorem one_length (x x':Int) (s:Sw α β):(D.one l x x' s).out.length ≤s.out.length+(D.sec l x).length :=by unfold one;cases (decide (0<(D.sec l x).length)&&((s.fin == x)&&D.same s.last (D.sec l x))) <;> simp [grow_length]
end Dim
end Go.Am
namespace Go.Am
open Go.Proofs.Tryz
open Go.Proofs
inductive vl4S where
def vl4C (aZ:Int) (aX:Int) (aS:Int) (bL:Int):vl4S→Cfg
 :=nofun
def x5a (aZ:Int) (aX:Int) (aS:Int) (bL:Int):vl4S→Xe vl4S
 :=nofun
def y1f (aZ:Int) (aX:Int) (aS:Int) (bL:Int):Xe vl4S:=(bif (decide (aZ<aS)) then (bif (decide (aX<bL)) then (bif (decide (aZ≥(-1000000))) then (bif (decide (aZ≤1000000)) then (bif (decide (aS≥(-1000000))) then (bif (decide (aS≤1000000)) then (bif (decide (aX≥(-1000000))) then (bif (decide (aX≤1000000)) then (bif (decide (bL≥(-1000000))) then (.ret [(.bool (decide (bL≤1000000)))]) else (.ret [(.bool false)])) else (.ret [(.bool false)])) else (.ret [(.bool false)])) else (.ret [(.bool false)])) else (.ret [(.bool false)])) else (.ret [(.bool false)])) else (.ret [(.bool false)])) else (.ret [(.bool false)])) else (.ret [(.bool false)]))
theorem w2f (aZ:Int) (aX:Int) (aS:Int) (bL:Int): ∀s,Xr prog (Zy prog 153) (vl4C aZ aX aS bL) (vl4C aZ aX aS bL s) (x5a aZ aX aS bL s)
 :=nofun
theorem x5b (aZ:Int) (aX:Int) (aS:Int) (bL:Int):Xr prog (Zy prog 153) (vl4C aZ aX aS bL) (Zi prog 153 [(.agg [(.int .i64 aZ),(.int .i64 aX),(.int .i64 aS),(.int .i64 bL)])] true []) (y1f aZ aX aS bL):=(lb (fun k0=>(lb (fun k1=>(lb (fun k2=>(lb (fun k3=>(lb (fun k4=>(lb (fun k5=>(lb (fun k6=>(lb (fun k7=>(lb (fun k8=>(lr 35 3 [1,1,1,1,1,1,0] 1 15 [(2,(.bool (decide (bL≤1000000))))] (sl Kw 101 [] ⟨[],[],[some [2]],[]⟩ ⟨[],[],[]⟩ (trs 25 []) (tt k8 (tt k7 (tt k6 (tt k5 (tt k4 (tt k3 (tt k2 (tt k1 (tt k0 nn)))))))))))) (fun k8=>(lr 35 3 [1,1,1,1,1,1,0] 1 15 [(2,(.bool false))] (sl Kw 101 [] ⟨[],[],[some [2]],[]⟩ ⟨[],[],[]⟩ (trs 23 [false,false]) (tt k8 (tt k7 (tt k6 (tt k5 (tt k4 (tt k3 (tt k2 (tt k1 (tt k0 nn)))))))))))))) (fun k7=>(lr 35 3 [1,1,1,1,1,1,0] 1 15 [(2,(.bool false))] (sl Kw 86 [] ⟨[],[],[some [2]],[]⟩ ⟨[],[],[]⟩ (trs 20 [false,false,false]) (tt k7 (tt k6 (tt k5 (tt k4 (tt k3 (tt k2 (tt k1 (tt k0 nn))))))))))))) (fun k6=>(lr 35 3 [1,1,1,1,1,1,0] 1 15 [(2,(.bool false))] (sl Kw 86 [] ⟨[],[],[some [2]],[]⟩ ⟨[],[],[]⟩ (trs 18 [false,false,false,false,false]) (tt k6 (tt k5 (tt k4 (tt k3 (tt k2 (tt k1 (tt k0 nn)))))))))))) (fun k5=>(lr 35 3 [1,1,1,1,1,1,0] 1 15 [(2,(.bool false))] (sl Kw 71 [] ⟨[],[],[some [2]],[]⟩ ⟨[],[],[]⟩ (trs 15 [false,false,false,false,false,false]) (tt k5 (tt k4 (tt k3 (tt k2 (tt k1 (tt k0 nn))))))))))) (fun k4=>(lr 35 3 [1,1,1,1,1,1,0] 1 15 [(2,(.bool false))] (sl Kw 71 [] ⟨[],[],[some [2]],[]⟩ ⟨[],[],[]⟩ (trs 13 [false,false,false,false,false,false,false,false]) (tt k4 (tt k3 (tt k2 (tt k1 (tt k0 nn)))))))))) (fun k3=>(lr 35 3 [1,1,1,1,1,1,0] 1 15 [(2,(.bool false))] (sl Kw 56 [] ⟨[],[],[some [2]],[]⟩ ⟨[],[],[]⟩ (trs 10 [false,false,false,false,false,false,false,false,false]) (tt k3 (tt k2 (tt k1 (tt k0 nn))))))))) (fun k2=>(lr 35 3 [1,1,1,1,1,1,0] 1 15 [(2,(.bool false))] (sl Kw 56 [] ⟨[],[],[some [2]],[]⟩ ⟨[],[],[]⟩ (trs 8 [false,false,false,false,false,false,false,false,false,false,false]) (tt k2 (tt k1 (tt k0 nn)))))))) (fun k1=>(lr 35 3 [1,1,1,1,1,1,0] 1 15 [(2,(.bool false))] (sl Kw 41 [] ⟨[],[],[some [2]],[]⟩ ⟨[],[],[]⟩ (trs 5 [false,false,false,false,false,false,false,false,false,false,false,false]) (tt k1 (tt k0 nn))))))) (fun k0=>(lr 35 3 [1,1,1,1,1,1,0] 1 15 [(2,(.bool false))] (sl Kw 41 [] ⟨[],[],[some [2]],[]⟩ ⟨[],[],[]⟩ [false,false,false,false,false,false,false,false,false,false,false,false,false,false,false,false,false] (tt k0 nn)))))
theorem v3l (aZ:Int) (aX:Int) (aS:Int) (bL:Int) (n:Nat) (vs:List AVal) (h:Yj (x5a aZ aX aS bL) n (y1f aZ aX aS bL)=.ret vs):Kg prog (Zy prog 153) (Zi prog 153 [(.agg [(.int .i64 aZ),(.int .i64 aX),(.int .i64 aS),(.int .i64 bL)])] true []) vs:=by have:=Yw (w2f aZ aX aS bL) n _ (x5b aZ aX aS bL);rwa [h] at this
inductive madS where
 | h0 (v16:Int) (aB:List Int)
 | h1 (v4:Int) (aK:List R4) (cO:List R2) (cT:Int) (cU:Int) (bD:Nat) (bS:List Int)
 | h2 (v4:Int) (v38:Int) (aK:List R4) (cO:List R2) (cT:Int) (cU:Int) (bD:Nat) (bS:List Int) (aD:Int) (dB:Int) (aM:List R2)
 | h3 (v1:Int) (v2:Int) (v71:List R2) (v72:Int) (v73:Int) (cN:List R2) (aR:Int) (aF:List R4) (bI:List R2) (bB:Int) (bD:Nat) (bS:List Int) (aD:List R2)
 | h4 (v2:Int) (v8:Int) (dI:Int) (cN:List R2) (aR:Int) (aF:List R4) (bI:List R2) (bB:Int) (cI:Int) (cX:Nat) (dG:List Int) (aM:List R2)
abbrev y7y (aF:List R4) (v8:Int) (v2:Int):=(aF.set (0+(tn v8)) (R4.mk (rd aF (0+(tn v8))).a (rd aF (0+(tn v8))).b v2 (rd aF (0+(tn v8))).d))
abbrev y7x (aB:List Int):=(Xx (Yp aB.length (cOf (Zz (Yh (Yp aB.length (cOf (Zz aB))))))))
def u2x :AFr:=⟨⟨29,0,true⟩,none,(.inRangeFunc 0::(Zb prog 154 [1,1,0,1,0] 1)),none,(Zy prog 77),Yq [(2,.nils),(3,(ii 0)),(4,(.ptr 1 0))]⟩
def u2w :=(z5j [(0,⟨.ready,none,29,Yq [(4,(.ptr 1 0))],[11],(Xd prog 154 [1,1,0,1,0,0]),(Xd prog 154 [1,1,0,1,0,1])⟩)])
abbrev y7w (aM:List R2) (l0:List R4) (v38:Int):=(aM++[(R2.mk (rd l0 (tn v38)).b (rd l0 (tn v38)).d)])
def x2z (l0:List R4):ABlk:=⟨[(.dat l0.length (Zz l0))],105,none⟩
abbrev y7v (aF:List R4) (v1:Int) (v71:List R2) (v73:Int) (v2:Int):=(aF++[(R4.mk v1 (rd v71 (tn v73)).a v2 (rd v71 (tn v73)).b)])
abbrev y7u (aB:List Int) (l0:List R4) (v16:Int):=(aB++[(rd l0 (tn v16)).a,(rd l0 (tn v16)).c])
def madC (l0:List R4):madS→Cfg
 | .h0 v16 aB=>⟨⟨34,0,true⟩,none,(Zb prog 173 [1,1,0,1,0,0,1,1,0,0,1,1,0,0] 0),none,(Zy prog 15),⟨Yq [(1,(.ptr 0 0)),(3,(.ptr 2 0)),(8,(.sl 1 0 1 (.un 1))),(9,(ii 1)),(10,(ii 0)),(14,(.dat l0.length (Zz l0))),(15,(ii (l0.length:Int))),(16,(ii v16))],Uv [⟨[(.sl 1 0 1 (.un 1))],173,none⟩,(x2z l0),⟨[(.sla 4 1 0 aB.length (.un 1))],47,none⟩,⟨[.nils,.nils,(ii 0),(ii 0)],188,none⟩,⟨rows aB.length (Zz aB),3,some ⟨1,aB.length,(Zz aB)⟩⟩] 0,5,[],true⟩,[⟨⟨29,0,true⟩,(Wd prog 154 [1,1,0,0] 2),(Zb prog 154 [1,1,0,0] 1),none,(Zy prog 77),Yq [(2,.nils),(3,(ii 0)),(4,(.ptr 3 0)),(9,(.sl 1 0 1 (.un 1)))]⟩],.leaf⟩
 | .h1 v4 aK cO cT cU bD bS=>⟨⟨76,0,true⟩,none,(Zb prog 186 [1,0,0] 0),none,[],⟨Yq [(0,(.yld 0)),(1,(.ptr 2 0)),(2,(.ptr 4 0)),(4,(ii v4))],z0z [(1,⟨[(.sla 6 4 0 aK.length (.un 4)),(.dat cO.length (Zz cO)),(ii cT),(ii cU)],188,none⟩),(2,⟨[(.sla 3 1 0 bD (.un 1))],47,none⟩),(3,⟨rows bS.length (Zz bS),3,some ⟨1,bS.length,(Zz bS)⟩⟩),(4,⟨[(.sl 5 0 1 (.un 1))],173,none⟩),(5,(x2z l0)),(6,⟨rows aK.length (Zz aK),114,some ⟨4,aK.length,(Zz aK)⟩⟩)],7,[],true⟩,[u2x],u2w⟩
 | .h2 v4 v38 aK cO cT cU bD bS aD dB aM=>⟨⟨76,0,true⟩,none,(Zb prog 186 [1,0,0,1,0,0,1,0,1,0,0,1,1,0,0,1,1,0,0] 0),none,[],⟨Yq [(0,(.yld 0)),(1,(.ptr 2 0)),(2,(.ptr 4 0)),(4,(ii v4)),(5,(.ptr 6 0)),(6,(ii 0)),(29,(.sl 5 0 1 (.un 1))),(30,(ii 1)),(31,(ii 0)),(36,(.dat l0.length (Zz l0))),(37,(ii (l0.length:Int))),(38,(ii v38))],z0z [(1,⟨[(.sla 9 4 0 aK.length (.un 4)),(.dat cO.length (Zz cO)),(ii cT),(ii cU)],188,none⟩),(2,⟨[(.sla 3 1 0 bD (.un 1))],47,none⟩),(3,⟨rows bS.length (Zz bS),3,some ⟨1,bS.length,(Zz bS)⟩⟩),(4,⟨[(.sl 5 0 1 (.un 1))],173,none⟩),(5,(x2z l0)),(6,⟨[(ii aD),(ii dB),(.sl 7 0 1 (.ex 1))],193,none⟩),(7,⟨[(.sla 8 2 0 aM.length (.un 2))],158,none⟩),(8,⟨rows aM.length (Zz aM),110,some ⟨2,aM.length,(Zz aM)⟩⟩),(9,⟨rows aK.length (Zz aK),114,some ⟨4,aK.length,(Zz aK)⟩⟩)],10,[],true⟩,[u2x],u2w⟩
 | .h3 v1 v2 v71 v72 v73 cN aR aF bI bB bD bS aD=>⟨⟨94,0,true⟩,none,(Zb prog 146 [1,1,1,0,0] 0),none,[],⟨Yq [(0,(.ptr 0 0)),(1,(ii v1)),(2,(ii v2)),(71,(.dat v71.length (Zz v71))),(72,(ii v72)),(73,(ii v73))],z0z [(0,⟨[(.sla 7 4 0 aF.length (.un 4)),(.dat bI.length (Zz bI)),(ii bB),(ii v2)],188,none⟩),(2,⟨[(.sla 3 1 0 bD (.un 1))],47,none⟩),(3,⟨rows bS.length (Zz bS),3,some ⟨1,bS.length,(Zz bS)⟩⟩),(4,⟨[(.sl 5 0 1 (.un 1))],173,none⟩),(5,(x2z l0)),(6,⟨[(.dat aD.length (Zz aD))],158,none⟩),(7,⟨rows aF.length (Zz aF),114,some ⟨4,aF.length,(Zz aF)⟩⟩)],8,[],true⟩,[⟨⟨29,0,true⟩,(Wd prog 154 [1,1,0,1,0,1,0,1] 5),(Zb prog 154 [1,1,0,1,0,1,0,1] 1),(some 1),[],Yq [(4,(.ptr 0 0)),(21,(ii v1)),(23,(ii v2)),(24,(.dat cN.length (Zz cN)))]⟩,⟨⟨76,0,true⟩,(Wd prog 186 [1,0,0,1,0,0,1,1,0] 2),(Zb prog 186 [1,0,0,1,0,0,1,1,0] 1),none,[],Yq [(0,(.yld 1)),(1,(.ptr 2 0)),(2,(.ptr 4 0)),(4,(ii aR)),(72,(.yld 1)),(73,(.agg [(ii v1),(ii v2),(.sl 6 0 1 (.ex 1))]))]⟩,⟨⟨29,0,true⟩,none,(.inRangeFunc 1::(Zb prog 154 [1,1,0,1,0] 1)),none,(Zy prog 77),Yq [(2,.nils),(3,(ii 0)),(4,(.ptr 0 0))]⟩],(z5j [(1,⟨.busy,none,29,Yq [(4,(.ptr 0 0))],[11],(Xd prog 154 [1,1,0,1,0,0]),(Xd prog 154 [1,1,0,1,0,1])⟩)])⟩
 | .h4 v2 v8 dI cN aR aF bI bB cI cX dG aM=>⟨⟨94,0,true⟩,none,(Zb prog 146 [0,1,0,0,1,0,0] 0),none,[],⟨Yq [(0,(.ptr 0 0)),(2,(ii v2)),(8,(ii v8))],z0z [(0,⟨[(.sla 1 4 0 aF.length (.un 4)),(.dat bI.length (Zz bI)),(ii bB),(ii cI)],188,none⟩),(1,⟨rows aF.length (Zz aF),114,some ⟨4,aF.length,(Zz aF)⟩⟩),(3,⟨[(.sla 4 1 0 cX (.un 1))],47,none⟩),(4,⟨rows dG.length (Zz dG),3,some ⟨1,dG.length,(Zz dG)⟩⟩),(5,⟨[(.sl 6 0 1 (.un 1))],173,none⟩),(6,(x2z l0)),(7,⟨[(.dat aM.length (Zz aM))],158,none⟩)],8,[],true⟩,[⟨⟨29,0,true⟩,(Wd prog 154 [1,1,0,1,0,1,0,1] 5),(Zb prog 154 [1,1,0,1,0,1,0,1] 1),(some 2),[],Yq [(4,(.ptr 0 0)),(21,(ii dI)),(23,(ii v2)),(24,(.dat cN.length (Zz cN)))]⟩,⟨⟨76,0,true⟩,(Wd prog 186 [1,0,0,1,0,0,1,1,0] 2),(Zb prog 186 [1,0,0,1,0,0,1,1,0] 1),none,[],Yq [(0,(.yld 2)),(1,(.ptr 3 0)),(2,(.ptr 5 0)),(4,(ii aR)),(72,(.yld 2)),(73,(.agg [(ii dI),(ii v2),(.sl 7 0 1 (.ex 1))]))]⟩,⟨⟨29,0,true⟩,none,(.inRangeFunc 2::(Zb prog 154 [1,1,0,1,0] 1)),none,(Zy prog 77),Yq [(2,.nils),(3,(ii 0)),(4,(.ptr 0 0))]⟩],(z5j [(2,⟨.busy,none,29,Yq [(4,(.ptr 0 0))],[11],(Xd prog 154 [1,1,0,1,0,0]),(Xd prog 154 [1,1,0,1,0,1])⟩)])⟩
def madN0 :List (Option (List Nat)):=[some [1,3,8,9,10,14,15,16],some [2,3,4,9]]
def madM0 :List (Option (List Nat)):=[]
def u8c :List (Option (List Nat)):=[some [0,1,2,4],some [2,3,4]]
def u8d :List (Option (List Nat)):=[some [4],none,none,none,none,none,none]
def v6g :List (Option (List Nat)):=[some [0,1,2,4,5,6,29,30,31,36,37,38],some [2,3,4]]
def v6i :List (Option (List Nat)):=[some [4],none,none,none,none,none,none,none,none,none]
def v6f :List (Option (List Nat)):=[some [0,1,2,71,72,73],some [4,21,23,24],some [0,1,2,4,72,73],some [2,3,4]]
def v6h :List (Option (List Nat)):=[none,some [4],none,none,none,none,none,none]
def madN4 :List (Option (List Nat)):=[some [0,2,8],some [4,21,23,24],some [0,1,2,4,72,73],some [2,3,4]]
def madM4 :List (Option (List Nat)):=[none,none,some [4],none,none,none,none,none]
def Xi (l0:List R4):madS→Xe madS
 | .h0 v16 aB=>(bif (decide (v16<(l0.length:Int))) then (bif ((decide (0≤v16∧v16<(l0.length:Int)))&&true) then (bif (Nat.beq 1 1&&((decide (0+aB.length=aB.length))&&decide ((aB.length+2+1)*(8+1)≤Un))) then (.to (.h0 (IntKind.wrap .i64 (v16+1)) (aB++[(rd l0 v16.toNat).a,(rd l0 v16.toNat).c]))) else .stuck) else .stuck) else (bif (decide (aB.length<4611686018427387904)) then (bif (decide (aB.length=aB.length)) then (.to (.h1 1 ([]:List R4) ([]:List R2) 0 0 (v1z (Yp aB.length (cOf (Zz (Yh (Yp aB.length (cOf (Zz aB)))))))) (Xx (Yp aB.length (cOf (Zz (Yh (Yp aB.length (cOf (Zz aB)))))))))) else .stuck) else .stuck))
 | .h1 v4 aK cO cT cU bD bS=>(bif (decide (v4<((bD:Nat):Int))) then (bif ((decide (0≤(IntKind.wrap .i64 (v4 - 1))∧(IntKind.wrap .i64 (v4 - 1))<((bD:Nat):Int)))&&true) then (bif (decide ((0+(Int.toNat (IntKind.wrap .i64 (v4 - 1))))<bS.length)) then (bif ((decide (0≤v4∧v4<((bD:Nat):Int)))&&true) then (bif (decide ((0+v4.toNat)<bS.length)) then (.to (.h2 v4 0 aK cO cT cU bD bS (rd bS (0+(Int.toNat (IntKind.wrap .i64 (v4 - 1))))) (rd bS (0+v4.toNat)) ([]:List R2))) else .stuck) else .stuck) else .stuck) else .stuck) else (bif (decide ((aK.length:Int)>400)) then (.ret [.nils,(.int .i64 4)]) else (.ret [(.dat aK.length (Zz aK)),(.int .i64 0)])))
 | .h2 v4 v38 aK cO cT cU bD bS aD dB aM=>(bif (decide (v38<(l0.length:Int))) then (bif ((decide (0≤v38∧v38<(l0.length:Int)))&&true) then (bif (decide ((rd l0 v38.toNat).a ≤aD)) then (bif (decide (aD<(rd l0 v38.toNat).c)) then (bif (Nat.beq 2 2&&((decide (0+aM.length=aM.length))&&decide ((aM.length+1+1)*(16+1)≤Un))) then (.to (.h2 v4 (IntKind.wrap .i64 (v38+1)) aK cO cT cU bD bS aD dB (aM++[(R2.mk (rd l0 v38.toNat).b (rd l0 v38.toNat).d)]))) else .stuck) else (.to (.h2 v4 (IntKind.wrap .i64 (v38+1)) aK cO cT cU bD bS aD dB aM))) else (.to (.h2 v4 (IntKind.wrap .i64 (v38+1)) aK cO cT cU bD bS aD dB aM))) else .stuck) else (bif (y2x (cvT aM)) then (bif (decide ((((Xf (cvT aM)).length :Nat):Int)>0)) then (bif (cU == aD) then (bif (Wh (cvT cO) (cvT (Xf (cvT aM)))) then (bif (Ja (cvT cO) (cvT (Xf (cvT aM)))) then (.to (.h4 dB cT aD (Xf (cvT aM)) v4 aK cO cT cU bD bS aM)) else (.to (.h3 aD dB (Xf (cvT aM)) (((Xf (cvT aM)).length :Nat):Int) 0 (Xf (cvT aM)) v4 aK (Xf (cvT aM)) (aK.length:Int) bD bS aM))) else .stuck) else (.to (.h3 aD dB (Xf (cvT aM)) (((Xf (cvT aM)).length :Nat):Int) 0 (Xf (cvT aM)) v4 aK (Xf (cvT aM)) (aK.length:Int) bD bS aM))) else (.to (.h3 aD dB (Xf (cvT aM)) (((Xf (cvT aM)).length :Nat):Int) 0 (Xf (cvT aM)) v4 aK (Xf (cvT aM)) (aK.length:Int) bD bS aM))) else .stuck))
 | .h3 v1 v2 v71 v72 v73 cN aR aF bI bB bD bS aD=>(bif (decide (v73<v72)) then (bif ((decide (0≤v73∧v73<(v71.length:Int)))&&true) then (bif (Nat.beq 4 4&&((decide (0+aF.length=aF.length))&&decide ((aF.length+1+1)*(32+1)≤Un))) then (.to (.h3 v1 v2 v71 v72 (IntKind.wrap .i64 (v73+1)) cN aR (aF++[(R4.mk v1 (rd v71 v73.toNat).a v2 (rd v71 v73.toNat).b)]) bI bB bD bS aD)) else .stuck) else .stuck) else (.to (.h1 (IntKind.wrap .i64 (aR+1)) aF bI bB v2 bD bS)))
 | .h4 v2 v8 dI cN aR aF bI bB cI cX dG aM=>(bif (decide (v8<(aF.length:Int))) then (bif ((decide (0≤v8∧v8<(aF.length:Int)))&&true) then (bif (decide ((0+v8.toNat)<aF.length)) then (.to (.h4 v2 (IntKind.wrap .i64 (v8+1)) dI cN aR (aF.set (0+v8.toNat) (R4.mk (rd aF (0+v8.toNat)).a (rd aF (0+v8.toNat)).b v2 (rd aF (0+v8.toNat)).d)) bI bB cI cX dG aM)) else .stuck) else .stuck) else (.to (.h1 (IntKind.wrap .i64 (aR+1)) aF bI bB v2 cX dG)))
def x0i (l0:List R4):Xe madS:=(.to (.h0 0 ([]:List Int)))
theorem w3s (l0:List R4): ∀s,Xr prog (Zy prog 154) (madC l0) (madC l0 s) (Xi l0 s)
 | .h0 v16 aB=>(lb (fun k0=>(lo fun o0=>(lo fun o1=>(sl Kw 32 [] ⟨[0,1,2,3,7],[],madN0,madM0⟩ ⟨[],[.keep,.keep,.cells [.len (y7u aB l0 v16).length],.keep,.rowed 1 (y7u aB l0 v16).length (Zz (y7u aB l0 v16))],[]⟩ [true] (pp (xL (aB.length+2) (y7u aB l0 v16).length) (pp (xL (aB.length+2) (y7u aB l0 v16).length) (pp (xS (aB.length+2) (Zt (Zz aB) 0 aB.length 1 [(ii (rd l0 (tn v16)).a),(ii (rd l0 (tn v16)).c)]) (Zz (y7u aB l0 v16))) (pp (pp (xF (Zt (Zz aB) 0 aB.length 1 [(ii (rd l0 (tn v16)).a),(ii (rd l0 (tn v16)).c)])) nn) (ww o1 (ww o0 (tt k0 nn))))))))))) (fun k0=>(lo fun o0=>(lo fun o1=>(sl Kw 46 [(114,4,Zz ([]:List R4))] ⟨[5,3,2,4,0,1,6],[],u8c,u8d⟩ ⟨[],[.keep,.cells [.grow 6 4,.list 0 (Zz ([]:List R2)),.keep,.keep],.keep,.rowed 1 (y7x aB).length (Zz (y7x aB)),.keep,.keep,.keep],[]⟩ (bl 2 0) (pp (xL aB.length (y7x aB).length (by first | exact Qz _ _ | exact Vu rfl)) (pp (xS aB.length (Zz (y7x aB)) (Zz (y7x aB))) (pp (fl (y7x aB) (fl ([]:List R4) nn)) (pp (pp (xG (Nat.beq 1 1)) (pp (xG (Nat.beq 1 1)) (pp (xG (Nat.beq 0 0)) (pp (xG (decide (aB.length=aB.length))) (pp (xG (isI (Zz (Yh (Yp aB.length (cOf (Zz aB))))))) (xG (decide (aB.length<4611686018427387904)))))))) (pp (pp (xG (Nat.beq 1 1)) (pp (xG (Nat.beq 1 1)) (pp (xG (Nat.beq 0 0)) (pp (xG (decide (aB.length=aB.length))) (pp (xG (isI (Zz aB))) (xG (decide (aB.length<4611686018427387904)))))))) (tt k0 nn)))))))))))
 | .h1 v4 aK cO cT cU bD bS=>(lb (fun k0=>(lo fun o0=>(lo fun o1=>(lo fun o2=>(lo fun o3=>(sl Kw 48 [(110,2,Zz ([]:List R2))] ⟨[0,1,2,3,4,5,7,8,9,6],[],v6g,v6i⟩ ⟨[],(kpB 7 [.cells [.grow 8 2],.keep,.keep]),[]⟩ (trs 3 []) (pp (fl bS (fl ([]:List R2) (fl aK nn))) (ww o3 (ww o2 (ww o1 (ww o0 (tt k0 nn)))))))))))) (fun k0=>(lb (fun k1=>(lr 29 3 [1,1,1,1,1,1,0] 1 77 [(2,.nils),(3,(ii 4))] (sl Kw 43 [] ⟨[],[],[some [2,3]],[]⟩ ⟨[],[],[]⟩ (bl 2 2) (tt k1 (tt k0 nn))))) (fun k1=>(lr 29 3 [1,1,1,1,1,1,0] 1 77 [(2,(.dat aK.length (Zz aK))),(3,(ii 0))] (sl Kw 48 [] ⟨[],[6],[some [2,3]],[]⟩ ⟨[(2,.frz aK.length aK.length (Zz aK) (Zz aK))],[],[]⟩ (bl 2 0) (pp (xZ (z2u 4 4 0 aK.length aK.length (Zz aK)) aK.length (Zz aK)) (pp (xL aK.length aK.length) (pp (xS aK.length (Zz aK) (Zz aK)) (pp (fl aK nn) (tt k1 (tt k0 nn))))))))))))
 | .h2 v4 v38 aK cO cT cU bD bS aD dB aM=>(lb (fun k0=>(lo fun aJ=>(lb (fun k1=>(lb (fun k2=>(lo fun o0=>(sl Kw 39 [] ⟨[0,1,2,3,4,5,6,7,12,9],[],v6g,v6i⟩ ⟨[],(kpB 7 [.cells [.len (y7w aM l0 v38).length],.rowed 2 (y7w aM l0 v38).length (Zz (y7w aM l0 v38)),.keep]),[]⟩ (trs 7 []) (pp (xL (aM.length+1) (y7w aM l0 v38).length) (pp (xL (aM.length+1) (y7w aM l0 v38).length) (pp (xS (aM.length+1) (Zt (Zz aM) 0 aM.length 2 [(ii (rd l0 (tn v38)).b),(ii (rd l0 (tn v38)).d)]) (Zz (y7w aM l0 v38))) (pp (fl bS (pp (xF (Zt (Zz aM) 0 aM.length 2 [(ii (rd l0 (tn v38)).b),(ii (rd l0 (tn v38)).d)])) (fl aK nn))) (ww o0 (tt k2 (tt k1 (ww aJ (tt k0 nn)))))))))))) (fun k2=>(sl Kw 39 [] ⟨(List.range 10),[],v6g,v6i⟩ ⟨[],[],[]⟩ (trs 6 [false]) (pp (fl bS (fl aM (fl aK nn))) (tt k2 (tt k1 (ww aJ (tt k0 nn))))))))) (fun k1=>(sl Kw 39 [] ⟨(List.range 10),[],v6g,v6i⟩ ⟨[],[],[]⟩ (bl 7 1) (pp (fl bS (fl aM (fl aK nn))) (tt k1 (ww aJ (tt k0 nn))))))))) (fun k0=>(Ww (sl Kw (C':=⟨⟨29,0,true⟩,(Wd prog 154 [1,1,0,1,0,1,0,0] 4),(Zb prog 154 [1,1,0,1,0,1,0,0] 1),(some 0),[],⟨Yq [(4,(.ptr 1 0)),(5,(.ptr 3 0)),(16,(.dat aM.length (Zz aM)))],z0z [(1,⟨[(.sla 2 4 0 aK.length (.un 4)),(.dat cO.length (Zz cO)),(ii cT),(ii cU)],188,none⟩),(2,⟨rows aK.length (Zz aK),114,some ⟨4,aK.length,(Zz aK)⟩⟩),(3,⟨[(ii aD),(ii dB),(.sl 4 0 1 (.ex 1))],193,none⟩),(4,⟨[(.dat aM.length (Zz aM))],158,none⟩),(5,⟨[(.sla 6 1 0 bD (.un 1))],47,none⟩),(6,⟨rows bS.length (Zz bS),3,some ⟨1,bS.length,(Zz bS)⟩⟩),(7,⟨[(.sl 8 0 1 (.un 1))],173,none⟩),(8,⟨[(.dat l0.length (Zz l0))],105,none⟩)],9,[],true⟩,[⟨⟨76,0,true⟩,(Wd prog 186 [1,0,0,1,0,0,1,1,0] 2),(Zb prog 186 [1,0,0,1,0,0,1,1,0] 1),none,[],Yq [(0,(.yld 0)),(1,(.ptr 5 0)),(2,(.ptr 7 0)),(4,(ii v4)),(72,(.yld 0)),(73,(.agg [(ii aD),(ii dB),(.sl 4 0 1 (.ex 1))]))]⟩,⟨⟨29,0,true⟩,none,(.inRangeFunc 0::(Zb prog 154 [1,1,0,1,0] 1)),none,(Zy prog 77),Yq [(2,.nils),(3,(ii 0)),(4,(.ptr 1 0))]⟩],(z5j [(0,⟨.busy,none,29,Yq [(4,(.ptr 1 0))],[11],(Xd prog 154 [1,1,0,1,0,0]),(Xd prog 154 [1,1,0,1,0,1])⟩)])⟩) 37 [] ⟨[0,1,9,10,7,2,3,4,5],[8],[some [4,5,16],some [0,1,2,4,72,73],some [2,3,4]],[some [4],none,none,none,none,none,none,none,none]⟩ ⟨[(16,.frz aM.length aM.length (Zz aM) (Zz aM))],[.keep,.keep,.keep,.keep,.cells [.frz aM.length aM.length (Zz aM) (Zz aM)],.keep,.keep,.keep,.keep],[]⟩ (bl 2 0) (pp (xZ (z2u 2 2 0 aM.length aM.length (Zz aM)) aM.length (Zz aM)) (pp (xL aM.length aM.length) (pp (xS aM.length (Zz aM) (Zz aM)) (pp (xZ (z2u 2 2 0 aM.length aM.length (Zz aM)) aM.length (Zz aM)) (pp (xL aM.length aM.length) (pp (xS aM.length (Zz aM) (Zz aM)) (pp (fl aK (fl bS nn)) (pp (fl aM nn) (tt k0 nn)))))))))) (lo fun aJ=>(lb (fun k1=>(lb (fun k2=>(lo fun cP=>(lb (fun k3=>(sl Kw 49 [] ⟨[1,2,0,5,6,7,8,4],[],madN4,madM4⟩ ⟨[],[],[]⟩ (trs 13 []) (pp (fl aK (fl bS nn)) (tt k3 (pp (pp (xr cO) (pp (xI R2 (Xf (cvT aM)).length (Zz (Xf (cvT aM)))) (xw cP))) (tt k2 (tt k1 (pp (pp (xr aM) (xw aJ)) nn)))))))) (fun k3=>(sl Kw 69 [] ⟨[1,0,5,6,7,8,4,2],[],v6f,v6h⟩ ⟨[],[],[]⟩ (trs 12 [false]) (pp (fl bS (fl aK nn)) (tt k3 (pp (pp (xr cO) (pp (xI R2 (Xf (cvT aM)).length (Zz (Xf (cvT aM)))) (xw cP))) (tt k2 (tt k1 (pp (pp (xr aM) (xw aJ)) nn))))))))))) (fun k2=>(sl Kw 69 [] ⟨[1,0,5,6,7,8,4,2],[],v6f,v6h⟩ ⟨[],[],[]⟩ (trs 6 (bl 7 0)) (pp (fl bS (fl aK nn)) (tt k2 (tt k1 (pp (pp (xr aM) (xw aJ)) nn)))))))) (fun k1=>(sl Kw 69 [] ⟨[1,0,5,6,7,8,4,2],[],v6f,v6h⟩ ⟨[],[],[]⟩ (bl 13 0) (pp (fl bS (fl aK nn)) (tt k1 (pp (pp (xr aM) (xw aJ)) nn))))))))))
 | .h3 v1 v2 v71 v72 v73 cN aR aF bI bB bD bS aD=>(lb (fun k0=>(lo fun o0=>(lo fun o1=>(sl Kw 23 [] ⟨[0,1,2,3,4,5,6,10],[],v6f,v6h⟩ ⟨[],[.cells [.len (y7v aF v1 v71 v73 v2).length,.keep,.keep,.keep],.keep,.keep,.keep,.keep,.keep,.keep,.rowed 4 (y7v aF v1 v71 v73 v2).length (Zz (y7v aF v1 v71 v73 v2))],[]⟩ [true] (pp (xL (aF.length+1) (y7v aF v1 v71 v73 v2).length) (pp (xL (aF.length+1) (y7v aF v1 v71 v73 v2).length) (pp (xS (aF.length+1) (Zt (Zz aF) 0 aF.length 4 [(ii v1),(ii (rd v71 (tn v73)).a),(ii v2),(ii (rd v71 (tn v73)).b)]) (Zz (y7v aF v1 v71 v73 v2))) (pp (fl bS (pp (xF (Zt (Zz aF) 0 aF.length 4 [(ii v1),(ii (rd v71 (tn v73)).a),(ii v2),(ii (rd v71 (tn v73)).b)])) nn)) (ww o1 (ww o0 (tt k0 nn))))))))))) (fun k0=>(sl Kw 22 [] ⟨[1,0,2,3,4,5,7],[],u8c,u8d⟩ ⟨[],[],[]⟩ (bl 2 0) (pp (fl bS (fl aF nn)) (tt k0 nn)))))
 | .h4 v2 v8 dI cN aR aF bI bB cI cX dG aM=>(lb (fun k0=>(lo fun o0=>(lo fun o1=>(sl Kw 33 [] ⟨(List.range 8),[],madN4,madM4⟩ ⟨[],[.cells [.len (y7y aF v8 v2).length,.keep,.keep,.keep],.rowed 4 (y7y aF v8 v2).length (Zz (y7y aF v8 v2)),.keep,.keep,.keep,.keep,.keep,.keep],[]⟩ [true] (pp (xL aF.length (y7y aF v8 v2).length) (pp (xL aF.length (y7y aF v8 v2).length) (pp (xS aF.length (Xj (Zz aF) (0+(tn v8)) 2 [(ii v2)]) (Zz (y7y aF v8 v2))) (pp (pp (xF (Xj (Zz aF) (0+(tn v8)) 2 [(ii v2)])) (fl dG nn)) (ww o1 (ww o0 (tt k0 nn))))))))))) (fun k0=>(sl Kw 36 [] ⟨[2,0,3,4,5,6,1],[],u8c,u8d⟩ ⟨[],[],[]⟩ (bl 2 0) (pp (fl dG (fl aF nn)) (tt k0 nn)))))
theorem x6z (l0:List R4):Xr prog (Zy prog 154) (madC l0) (Zi prog 154 [(.dat l0.length (Zz l0))] true []) (x0i l0):=(sl Kw 56 [(3,1,Zz ([]:List Int))] ⟨[2,1,3,0,4],[],madN0,madM0⟩ ⟨[],[.keep,.keep,.cells [.grow 4 1],.keep,.keep],[]⟩ [true] (pp (fl ([]:List Int) nn) nn))
theorem v6e (l0:List R4) (n:Nat) (vs:List AVal) (h:Yj (Xi l0) n (x0i l0)=.ret vs):Kg prog (Zy prog 154) (Zi prog 154 [(.dat l0.length (Zz l0))] true []) vs:=by have:=Yw (w3s l0) n _ (x6z l0);rwa [h] at this
end Go.Am
namespace Go.Am
open Go.Proofs.Tryz
open Go.Proofs Go.Sort Go.Shelf Go.RowKit Go.Lib
theorem x3w {i n:Nat} (h:i<n):decide ((i:Int)<(n:Int))=true:=decide_eq_true (by omega)
theorem z3z {σ:Type} (step:σ→Xe σ) (a b:Nat) (s:Xe σ):Yj step (a+b) s=Yj step a (Yj step b s):=by
 induction b generalizing s with
 | zero=>cases s <;> simp [Yj]
 | succ b ih=>cases s with
  | to s=>exact ih (step s)
  | ret vs=>simp only [Zg]
  | stuck=>cases a <;> cases b <;> rfl
theorem w1v {i:Nat}:decide ((i:Int)≥0)=true:=decide_eq_true (by omega)
def Jf {α:Type} [Xu α] (out:List α):List AVal:=bif decide ((out.length:Int)>400) then [.nils,.int .i64 4] else [.dat out.length (Zz out),.int .i64 0]
def y5v {α:Type} [Xu α] (e:Int) (L:List α):List AVal:=bif e != 0 then [.nils,.int .i64 e] else [.dat L.length (Zz L),.int .i64 0]
def x4v {α:Type} (e:Int) (L:List α):List α:=bif e != 0 then [] else L
theorem z4q {α:Type} [Xu α] (e:Int) (L:List α) (ρ:Rho) (u:Value) (hu:Ym ρ (Qr (y5v e L)) u):Ym ρ (.tup [.dat (x4v e L).length (Zz (x4v e L)),.int .i64 e]) u:=by
 unfold y5v at hu;unfold x4v;by_cases h:e=0
 ·subst h;exact hu
 ·have h:(e != 0)=true:=by simpa using h
  rw [h] at hu ⊢;exact z6n (.cons (z2f α) (RLe.refl _)) ρ u hu
theorem z8u {α:Type} [Xu α] (e:Int) (L:List α):pf 3 (Qr (y5v e L))=true:=by unfold y5v;cases (e != 0) <;> rfl
def y9c (n:Nat):Int:=bif decide ((n:Int)>400) then 4 else 0
theorem z4e {α:Type} [Xu α] (L:List α):Jf L=y5v (y9c L.length) L:=by unfold Jf y5v y9c;cases decide ((L.length:Int)>400) <;> rfl
theorem Ki {α:Type} [Xu α] {e:Int} (L:List α) (h:(e != 0)=true):y5v e L=[.nils,.int .i64 e]:=by unfold y5v;rw [h];rfl
theorem y6j : ∀(L:List R3) (o last:Int) (inn:Bool) (out:List R2),(swF L o last inn out).length ≤out.length+L.length
 | [],_,_,_,out=>Nat.le_refl _
 | e::r,o,last,inn,out=>by rw [y1g];have:=y6j r (o+e.c) e.a (decide (o+e.c>0)) (Ve out last inn e.a);have:=z2k out last inn e.a;simp only [List.length_cons];omega
theorem y2w (l:List R3):(z0n l).length =l.length:=by
 by_cases h:y0v l=true
 ·exact (Ks l h).1.length_eq
 ·unfold z0n;rw [dif_neg h]
theorem x5j (l:List R2):(Xf l).length ≤800:=by
 unfold Xf;by_cases h:400<l.length
 ·rw [decide_eq_true h];exact Nat.zero_le _
 ·rw [decide_eq_false h];cases l.all z1c
  ·exact Nat.zero_le _
  ·show (swV l).length ≤800;have h1:=y6j (z0n (Kj l)) 0 0 false [];rw [y2w,z4b] at h1;simp only [List.length_nil] at h1;unfold swV;omega
def Kv (r:R4):Bool:=decide (r.a<r.c)&&(decide (r.b<r.d)&&(decide (r.a≥ -1000000)&&(decide (r.a≤1000000)&&(decide (r.c≥ -1000000)&&(decide (r.c≤1000000)&&(decide (r.b≥ -1000000)&&(decide (r.b≤1000000)&&(decide (r.d≥ -1000000)&&decide (r.d≤1000000)))))))))
def D4 :Dim R4 R2:=⟨R4.a,R4.c,fun r=>⟨r.b,r.d⟩,fun x x' s=>⟨x,s.a,x',s.b⟩,fun x r=>⟨r.a,r.b,x,r.d⟩,Xf,Ja⟩
theorem D4_sec (l:List R4) (x:Int):(D4.sec l x).length ≤1000:=Nat.le_trans (x5j _) (by omega)
section
variable (l:List R4) (hl:l.length≤400)
include hl
theorem u2u (i:Nat) (out:List R4) (last:List R2) (first fin x x':Int): ∀(k j:Nat) (acc:List R2),j+k=l.length→acc.length≤j→
  ∃n,∀N,Yj (Xi l) (N+n) (.to (.h2 (i:Int) (j:Int) out last first fin ((D4.cuts l).length) (Xx (Yh (D4.ends l))) x x' acc))=Yj (Xi l) N (.to (.h2 (i:Int) (l.length:Int) out last first fin ((D4.cuts l).length) (Xx (Yh (D4.ends l))) x x' (acc++D4.inn (l.drop j) x)))
 | 0,j,acc,h,ha=>by refine ⟨0,fun N=> ?_⟩;rw [List.drop_eq_nil_of_le (by omega),show D4.inn ([]:List R4) x=[] from rfl,List.append_nil,Nat.add_zero,show j=l.length by omega]
 | k+1,j,acc,h,ha=>by
  have hj:j<l.length:=by omega
  obtain ⟨n,hn⟩:=u2u i out last first fin x x' k (j+1) (acc++D4.inn [rd l j] x) (by omega) (by have:=D4.inn_length [rd l j] x;simp only [List.length_append,List.length_singleton] at*;omega)
  refine ⟨n+1,fun N=> ?_⟩;have e:D4.inn (l.drop j) x=D4.inn [rd l j] x++D4.inn (l.drop (j+1)) x:=by rw [Yc hj,←D4.inn_append];rfl
  rw [e,←Nat.add_assoc,Zw,←List.append_assoc,←hn N];by_cases h1:D4.lo (rd l j)≤x
  ·by_cases h2:x<D4.hi (rd l j)
   ·rw [D4.inn_t _ _ h1 h2];simp only [D4] at h1 h2 ⊢;simp (disch:=omega) only [Xi,Xc,Zp,Zk,Zd,Ze,Yz,Zs,Yx,Zc,Zu,Zx,Yu,Zj,Nat.zero_add,decide_true,Bool.and_true,Bool.true_and,cond_true,cond_false]
   ·rw [D4.inn_f2 _ _ h2,List.append_nil];simp only [D4] at h1 h2;simp (disch:=omega) only [Xi,Xc,Zo,Zp,Zk,Zd,Ze,Yz,Zs,Yx,Zc,Zu,Zx,Yu,Zj,Nat.zero_add,decide_true,Bool.and_true,Bool.true_and,cond_true,cond_false]
  ·rw [D4.inn_f1 _ _ h1,List.append_nil];simp only [D4] at h1;simp (disch:=omega) only [Xi,x8i,Zp,Zk,Zd,Ze,Yz,Zs,Yx,Zc,Zu,Zx,Yu,Zj,Nat.zero_add,decide_true,Bool.and_true,Bool.true_and,cond_true,cond_false]
theorem u2t (i:Nat) (hi:i≤1000) (x x':Int) (s last:List R2) (first:Int) (inn:List R2) (hs:s.length≤1000): ∀(k j:Nat) (out:List R4),j+k=s.length→out.length≤10000000+j→
  ∃n,∀N,Yj (Xi l) (N+n) (.to (.h3 x x' s (s.length:Int) (j:Int) s (i:Int) out last first ((D4.cuts l).length) (Xx (Yh (D4.ends l))) inn))=Yj (Xi l) N (.to (.h1 ((i+1:Nat):Int) (out++(s.drop j).map (D4.put x x')) last first x' ((D4.cuts l).length) (Xx (Yh (D4.ends l)))))
 | 0,j,out,h,ho=>by have _u:=hl;refine ⟨1,fun N=> ?_⟩;rw [List.drop_eq_nil_of_le (by omega),Zw];simp (disch:=omega) only [Xi,Zo,Zu,Zx,cond_false,List.map_nil,List.append_nil]
 | k+1,j,out,h,ho=>by
  obtain ⟨n,hn⟩:=u2t i hi x x' s last first inn hs k (j+1) (out++[D4.put x x' (rd s j)]) (by omega) (by simp;omega)
  refine ⟨n+1,fun N=> ?_⟩;have:=hn N;rw [Yc (show j<s.length by omega),List.map_cons,←Nat.add_assoc,Zw];simp (disch:=omega) only [Xi,Zp,Zk,Zd,Ze,Yz,Zs,Yx,Zc,Zu,Zx,Yu,Zj,Nat.zero_add,decide_true,Bool.and_true,Bool.true_and,cond_true,cond_false];rw [List.append_assoc] at this;exact this
theorem u2s (i:Nat) (hi:i≤1000) (x x' fin:Int) (s last:List R2) (first:Int) (inn:List R2): ∀(k j:Nat) (out:List R4),j+k=out.length→out.length≤10000000→
  ∃n,∀N,Yj (Xi l) (N+n) (.to (.h4 x' (j:Int) x s (i:Int) out last first fin ((D4.cuts l).length) (Xx (Yh (D4.ends l))) inn))=Yj (Xi l) N (.to (.h1 ((i+1:Nat):Int) (D4.grow out j x') last first x' ((D4.cuts l).length) (Xx (Yh (D4.ends l)))))
 | 0,j,out,h,ho=>by have _u:=hl;refine ⟨1,fun N=> ?_⟩;rw [D4.grow_nil _ _ _ (by omega),Zw];simp (disch:=omega) only [Xi,Zo,Zu,Zx,cond_false]
 | k+1,j,out,h,ho=>by
  obtain ⟨n,hn⟩:=u2s i hi x x' fin s last first inn k (j+1) (out.set j (D4.ext x' (rd out j))) (by simp;omega) (by simpa using ho)
  refine ⟨n+1,fun N=> ?_⟩;have:=hn N;rw [D4.grow_set out j _ (by omega)] at this;rw [←Nat.add_assoc,Zw];simp (disch:=omega) only [Xi,Zp,Zk,Zd,Ze,Yz,Zs,Yx,Zc,Zu,Zx,Yu,Zj,Nat.zero_add,decide_true,Bool.and_true,Bool.true_and,cond_true,cond_false];exact this
theorem v0g : ∀(k i:Nat) (s:Sw R4 R2),k=(D4.cuts l).length - 1 - i→i≤(D4.cuts l).length →s.out.length≤i*1000→s.last.length≤1000→s.first≤s.out.length→
  ∃n,Yj (Xi l) n (.to (.h1 ((i+1:Nat):Int) s.out s.last (s.first:Int) s.fin ((D4.cuts l).length) (Xx (Yh (D4.ends l)))))=.ret (Jf (D4.go l k i s).out)
 | 0,i,s,h,hi,ho,hla,hf=>by
  have hc:=D4.cuts_length l;refine ⟨1,?_⟩;rw [Zw,show D4.go l 0 i s=s from rfl];unfold Jf;by_cases q:(s.out.length:Int)>400
  ·simp (disch:=omega) only [Xi,Zo,Ye,cond_true,cond_false,Zg]
  ·simp (disch:=omega) only [Xi,Zo,Ys,cond_true,cond_false,Zg]
 | k +1,i,s,h,hi,ho,hla,hf=>by
  have hc:=D4.cuts_length l;have hi1:i+1<(D4.cuts l).length :=by omega
  have hpl:(Xx (Yh (D4.ends l))).length =2*l.length:=by rw [Wa,Wz,D4.ends_length]
  have r0:rd (Xx (Yh (D4.ends l))) i=rd (D4.cuts l) i:=Uo _ _ (by show i<(D4.cuts l).length;omega);have r1:rd (Xx (Yh (D4.ends l))) (i+1)=rd (D4.cuts l) (i+1):=Uo _ _ (by show i+1<(D4.cuts l).length;omega);have hbig:i*1000≤1000*1000:=Nat.mul_le_mul_right _ (by omega);have hsl:=D4_sec l (rd (D4.cuts l) i);have hsd:D4.sec l (rd (D4.cuts l) i)=Xf (D4.inn l (rd (D4.cuts l) i)):=rfl;obtain ⟨n3,h3⟩:=u2u l hl (i+1) s.out s.last (s.first:Int) s.fin (rd (D4.cuts l) i) (rd (D4.cuts l) (i+1)) l.length 0 [] (Nat.zero_add _) (Nat.le_refl _);simp only [List.drop_zero,List.nil_append,Qv] at h3;have w1:y2x (D4.inn l (rd (D4.cuts l) i))=true:=rfl;have w2:Wh s.last (Xf (D4.inn l (rd (D4.cuts l) i)))=true:=decide_eq_true (by omega);have ol:=D4.one_length l (rd (D4.cuts l) i) (rd (D4.cuts l) (i+1)) s;have st0: ∀N,Yj (Xi l) (N+n3+1) (.to (.h1 ((i+1:Nat):Int) s.out s.last (s.first:Int) s.fin ((D4.cuts l).length) (Xx (Yh (D4.ends l)))))=Yj (Xi l) N (.to (.h2 ((i+1:Nat):Int) (l.length:Int) s.out s.last (s.first:Int) s.fin ((D4.cuts l).length) (Xx (Yh (D4.ends l))) (rd (D4.cuts l) i) (rd (D4.cuts l) (i+1)) (D4.inn l (rd (D4.cuts l) i)))):=fun N=>by
   rw [←h3 N,Zw];have e1:IntKind.wrap .i64 (((i+1:Nat):Int) - 1)=(i:Int):=by rw [Zh];exact Zu (by omega)
   simp (disch:=omega) only [Xi,e1,r0,r1,Zp,Zk,Zd,Ze,Yz,Zs,Yx,Zc,Zu,Zx,Yu,Zj,Nat.zero_add,decide_true,Bool.and_true,Bool.true_and,cond_true,cond_false]
  rcases Yv (decide (0<(D4.sec l (rd (D4.cuts l) i)).length)&&((s.fin == rd (D4.cuts l) i)&&D4.same s.last (D4.sec l (rd (D4.cuts l) i)))) with q | q
  ·obtain ⟨n5,h5⟩:=u2s l hl (i+1) (by omega) (rd (D4.cuts l) i) (rd (D4.cuts l) (i+1)) s.fin (D4.sec l (rd (D4.cuts l) i)) s.last (s.first:Int) (D4.inn l (rd (D4.cuts l) i)) (s.out.length - s.first) s.first s.out (by omega) (by omega)
   have e:D4.one l (rd (D4.cuts l) i) (rd (D4.cuts l) (i+1)) s=⟨D4.grow s.out s.first (rd (D4.cuts l) (i+1)),s.last,s.first,rd (D4.cuts l) (i+1)⟩:=by unfold Dim.one;rw [q];rfl
   obtain ⟨n0,h0⟩:=v0g k (i+1) (D4.one l (rd (D4.cuts l) i) (rd (D4.cuts l) (i+1)) s) (by omega) (by omega) (by omega) (by rw [e];exact hla) (by rw [e];simpa [Dim.grow_length] using hf);refine ⟨n0+n5+1+n3+1,?_⟩;rw [st0 (n0+n5+1),Zw];simp only [Bool.and_eq_true,decide_eq_true_eq] at q;obtain ⟨q1,q2,q3⟩:=q;have q3':Ja s.last (Xf (D4.inn l (rd (D4.cuts l) i)))=true:=q3;rw [hsd] at q1;simp (disch:=omega) only [Xi,Zp,Zk,Zo,Ye,q2,q3',w1,w2,cond_true,cond_false];rw [←hsd,h5 n0];simp only [Dim.go];rw [e] at h0 ⊢;exact h0
  ·obtain ⟨n4,h4⟩:=u2t l hl (i+1) (by omega) (rd (D4.cuts l) i) (rd (D4.cuts l) (i+1)) (D4.sec l (rd (D4.cuts l) i)) (D4.sec l (rd (D4.cuts l) i)) (s.out.length:Int) (D4.inn l (rd (D4.cuts l) i)) hsl (D4.sec l (rd (D4.cuts l) i)).length 0 s.out (Nat.zero_add _) (by omega);simp only [List.drop_zero,Qv] at h4;have e:D4.one l (rd (D4.cuts l) i) (rd (D4.cuts l) (i+1)) s=⟨s.out++(D4.sec l (rd (D4.cuts l) i)).map (D4.put (rd (D4.cuts l) i) (rd (D4.cuts l) (i+1))),D4.sec l (rd (D4.cuts l) i),s.out.length,rd (D4.cuts l) (i+1)⟩:=by unfold Dim.one;rw [q];rfl
   obtain ⟨n0,h0⟩:=v0g k (i+1) (D4.one l (rd (D4.cuts l) i) (rd (D4.cuts l) (i+1)) s) (by omega) (by omega) (by omega) (by rw [e];exact hsl) (by rw [e];simp);have hg:Yj (Xi l) 1 (.to (.h2 ((i+1:Nat):Int) (l.length:Int) s.out s.last (s.first:Int) s.fin ((D4.cuts l).length) (Xx (Yh (D4.ends l))) (rd (D4.cuts l) i) (rd (D4.cuts l) (i+1)) (D4.inn l (rd (D4.cuts l) i))))=.to (.h3 (rd (D4.cuts l) i) (rd (D4.cuts l) (i+1)) (D4.sec l (rd (D4.cuts l) i)) ((D4.sec l (rd (D4.cuts l) i)).length :Int) 0 (D4.sec l (rd (D4.cuts l) i)) ((i+1:Nat):Int) s.out (D4.sec l (rd (D4.cuts l) i)) (s.out.length:Int) ((D4.cuts l).length) (Xx (Yh (D4.ends l))) (D4.inn l (rd (D4.cuts l) i))):=by
    rw [show (1:Nat)=0+1 from rfl,Zw];rw [hsd] at q ⊢;have e3:D4.same s.last (Xf (D4.inn l (rd (D4.cuts l) i)))=Ja s.last (Xf (D4.inn l (rd (D4.cuts l) i))):=rfl;rw [e3] at q;by_cases q1:0<(Xf (D4.inn l (rd (D4.cuts l) i))).length
    ·rw [decide_eq_true q1,Bool.true_and] at q;rcases Yv (s.fin == rd (D4.cuts l) i) with q2 | q2
     ·rw [q2,Bool.true_and] at q;simp (disch:=omega) only [Xi,Zp,Zk,Zo,Ye,q2,q,w1,w2,cond_true,cond_false];rfl
     ·simp (disch:=omega) only [Xi,Zp,Zk,Zo,Ye,q2,w1,w2,cond_true,cond_false];rfl
    ·simp (disch:=omega) only [Xi,Zp,Zk,Zo,Ys,w1,w2,cond_true,cond_false];rfl
   refine ⟨n0+n4+1+n3+1,?_⟩;rw [st0 (n0+n4+1),z3z _ (n0+n4) 1,hg,h4 n0];simp only [Dim.go];rw [e] at h0 ⊢;exact h0
theorem u2v : ∀(k i:Nat) (acc:List Int),i+k=l.length→acc=D4.ends (l.take i)→ ∃n,Yj (Xi l) n (.to (.h0 (i:Int) acc))=.ret (Jf (D4.go l ((D4.cuts l).length - 1) 0 ⟨[],[],0,0⟩).out)
 | 0,i,acc,h,ha=>by
  have e:acc=D4.ends l:=by rw [ha,List.take_of_length_le (by omega)]
  subst e;have hle:=D4.ends_length l;obtain ⟨n,hn⟩:=v0g l hl ((D4.cuts l).length - 1) 0 ⟨[],[],0,0⟩ (by omega) (Nat.zero_le _) (Nat.zero_le _) (Nat.zero_le _) (Nat.zero_le _);refine ⟨n+1,?_⟩;rw [Zw];simp (disch:=omega) only [Xi,Vi,Jc,z4d,Zo,Zs,Yx,decide_true,cond_true,cond_false];exact hn
 | k+1,i,acc,h,ha=>by
  have hle:=D4.ends_length (l.take i);have fW:acc.length≤2*i:=by rw [ha,hle];simp;omega
  obtain ⟨n,hn⟩:=u2v k (i+1) (acc++D4.ends [rd l i]) (by omega) (by
   rw [ha,List.take_add_one];have:l[i]? =some (rd l i):=by rw [Yt (show i<l.length by omega)];exact List.getElem?_eq_getElem _
   rw [this,D4.ends_append];rfl)
  refine ⟨n+1,?_⟩;rw [Zw];simp (disch:=omega) only [Xi,Zp,Zk,Zd,Ze,Yz,Zs,Yx,Zc,Zu,Zx,Yu,Zj,Nat.zero_add,decide_true,Bool.and_true,Bool.true_and,cond_true,cond_false];exact hn
end
def u2y (l:List R4):Int:=y9c (D4.out l).length
def Wx (l:List R4):List R4:=x4v (u2y l) (D4.out l)
def z0t (l:List R4):Int:=u2y l
def Kt (l:List R4):Bool:=decide (l.length≤400)
theorem u8b (l:List R4) (h:Kt l=true): ∃n,Yj (Xi l) n (x0i l)=.ret (y5v (u2y l) (D4.out l)):=by rw [show y5v (u2y l) (D4.out l)=Jf (D4.out l) from (z4e _).symm];exact u2v l (of_decide_eq_true h) l.length 0 [] (Nat.zero_add _) rfl
def u5h (a b c d:Int):Bool:=Kv ⟨a,b,c,d⟩
theorem u5g (a b c d:Int): ∃N,Yj (x5a a b c d) N (y1f a b c d)=.ret [.bool (u5h a b c d)]:=⟨0,by
 unfold y1f u5h Kv;simp only [y5f];cases decide (a<c) <;> cases decide (b<d) <;> cases decide (a≥ -1000000) <;> cases decide (a≤1000000) <;> cases decide (c≥ -1000000) <;> cases decide (c≤1000000) <;> cases decide (b≥ -1000000) <;> cases decide (b≤1000000) <;> cases decide (d≥ -1000000) <;> rfl⟩
def fVl4 :List AVal→Option (AVal×Bool)
 | [.agg [.int .i64 aZ,.int .i64 aX,.int .i64 aS,.int .i64 bL]]=>some (.bool (u5h aZ aX aS bL),true)
 | _=>none
theorem u9j {S:Specs} (hS:Zq prog S):Zq prog (S.with w0t fVl4):=by
 refine z3b hS (by kernel_rfl) fun args v h=> ?_;unfold fVl4 at h;split at h
 ·rename_i aZ aX aS bL;simp only [Option.some.injEq,Prod.mk.injEq,and_true] at h;subst h;obtain ⟨N,hN⟩:=u5g aZ aX aS bL;exact ⟨_,_,(.cons (.refl _) .nil),rfl,v3l aZ aX aS bL N _ hN,3,rfl⟩
 ·cases h
def fMad :List AVal→Option (AVal×Bool)
 | [a0]=>match asL R4 a0 with
  | some (L0,g0,n0)=>some (.tup [.dat (Wx L0).length (Zz (Wx L0)),.int .i64 (z0t L0)],isT R4 n0 g0&&(Kt L0))
  | _=>none
 | _=>none
theorem u9w {S:Specs} (hS:Zq prog S):Zq prog (S.with w9x fMad):=by
 refine v1i hS (by kernel_rfl) fun args v h=> ?_;unfold fMad at h;split at h
 ·rename_i a0;split at h
  ·rename_i L0 g0 n0 e0;simp only [Option.some.injEq,Prod.mk.injEq,Bool.and_eq_true] at h;obtain ⟨rfl,ho0,hw⟩:=h;obtain ⟨N,hN⟩:=u8b L0 hw;exact ⟨_,_,(.cons (asL_le e0 ho0) .nil),z4q _ _,v6e L0 N _ hN,3,z8u _ _⟩
  ·cases h
 ·cases h
def T6v :Specs:=(T6.with w0t fVl4)
theorem T6v_ok :Zq prog T6v:=(u9j Kw)
def T6m :Specs:=(T6v.with w9x fMad)
theorem y5s :Zq prog T6m:=(u9w T6v_ok)
end Go.Am
namespace Go.Am
open Go.Proofs.Tryz
open Go.Proofs
inductive rgmS where
 | h0 (v8:Int)
def rgmC (l0:List R4):rgmS→Cfg
 | .h0 v8=>⟨⟨19,0,true⟩,none,(Zb prog 171 [1,0,1,0,0] 0),none,(Zy prog 3),⟨Yq [(0,(.dat l0.length (Zz l0))),(1,(.fn 152 [])),(7,(ii (l0.length:Int))),(8,(ii v8))],Uv [] 0,0,[],true⟩,[⟨⟨9,0,true⟩,(Wd prog 151 [1,0] 2),(Zb prog 151 [1,0] 1),none,(Zy prog 3),Yq [(5,(.dat l0.length (Zz l0))),(6,(.fn 152 []))]⟩,⟨⟨13,0,true⟩,(Wd prog 130 [1,1,0,0] 1),(Zb prog 130 [1,1,0,0] 1),none,(Zy prog 77),Yq [(0,(.dat l0.length (Zz l0))),(7,(.dat l0.length (Zz l0)))]⟩],.leaf⟩
def rgmN0 :List (Option (List Nat)):=[some [0,1,7,8],some [5,6],some [0,7]]
def rgmM0 :List (Option (List Nat)):=[]
def z3o (l0:List R4):rgmS→Xe rgmS
 | .h0 v8=>(bif (decide (v8<(l0.length:Int))) then (bif ((decide (0≤v8∧v8<(l0.length:Int)))&&true) then (bif (!(u5h (rd l0 v8.toNat).a (rd l0 v8.toNat).b (rd l0 v8.toNat).c (rd l0 v8.toNat).d)) then (bif (decide (v8≥0)) then (.ret [.nils,(.int .i64 8)]) else (bif (Kt (cvT l0)) then (.ret [(.dat (Wx (cvT l0)).length (Zz (Wx (cvT l0)))),(.int .i64 (z0t (cvT l0)))]) else .stuck)) else (.to (.h0 (IntKind.wrap .i64 (v8+1))))) else .stuck) else (bif (Kt (cvT l0)) then (.ret [(.dat (Wx (cvT l0)).length (Zz (Wx (cvT l0)))),(.int .i64 (z0t (cvT l0)))]) else .stuck))
def z7a (l0:List R4):Xe rgmS:=(bif (decide ((l0.length:Int)>400)) then (.ret [.nils,(.int .i64 4)]) else (.to (.h0 0)))
theorem w3h (l0:List R4): ∀s,Xr prog (Zy prog 130) (rgmC l0) (rgmC l0 s) (z3o l0 s)
 | .h0 v8=>(lb (fun k0=>(lo fun aJ=>(lb (fun k1=>(lb (fun k2=>(lr 13 130 [1,1,0,1,0,0] 1 77 [(2,.nils),(3,(ii 8))] (sl y5s 54 [] ⟨[],[],[some [2,3]],[]⟩ ⟨[],[],[]⟩ (trs 3 []) (tt k2 (tt k1 (ww aJ (tt k0 nn))))))) (fun k2=>(lo fun o0=>(lr 13 3 [1,1,1,1,1,1,0] 1 77 [(2,(.dat (Wx (cvT l0)).length (Zz (Wx (cvT l0))))),(3,(ii (z0t (cvT l0))))] (sl y5s 59 [] ⟨[],[],[some [2,3]],[]⟩ ⟨[],[],[]⟩ (bl 3 3) (pp (pp (xr l0) (xw o0)) (tt k2 (tt k1 (ww aJ (tt k0 nn))))))))))) (fun k1=>(sl y5s 44 [] ⟨[],[],rgmN0,rgmM0⟩ ⟨[],[],[]⟩ (bl 2 1) (tt k1 (ww aJ (tt k0 nn)))))))) (fun k0=>(lo fun o0=>(lr 13 3 [1,1,1,1,1,1,0] 1 77 [(2,(.dat (Wx (cvT l0)).length (Zz (Wx (cvT l0))))),(3,(ii (z0t (cvT l0))))] (sl y5s 28 [] ⟨[],[],[some [2,3]],[]⟩ ⟨[],[],[]⟩ (bl 2 0) (pp (pp (xr l0) (xw o0)) (tt k0 nn)))))))
theorem x6g (l0:List R4):Xr prog (Zy prog 130) (rgmC l0) (Zi prog 130 [(.dat l0.length (Zz l0))] true []) (z7a l0):=(lb (fun k0=>(lr 13 130 [1,0,1,0,0] 1 77 [(2,.nils),(3,(ii 4))] (sl y5s 18 [] ⟨[],[],[some [2,3]],[]⟩ ⟨[],[],[]⟩ [true] (tt k0 nn)))) (fun k0=>(sl y5s 41 [] ⟨[],[],rgmN0,rgmM0⟩ ⟨[],[],[]⟩ [false] (tt k0 nn))))
theorem v4x (l0:List R4) (n:Nat) (vs:List AVal) (h:Yj (z3o l0) n (z7a l0)=.ret vs):Kg prog (Zy prog 130) (Zi prog 130 [(.dat l0.length (Zz l0))] true []) vs:=by have:=Yw (w3h l0) n _ (x6g l0);rwa [h] at this
end Go.Am
namespace Go.Am
open Go.Proofs.Tryz
open Go.Proofs
open Go.Sort Go.Shelf Go.RowKit Go.Lib
theorem u1h (l:List R4) (hl:l.length≤400): ∀(k i:Nat),i+k=l.length→(∀s∈l.take i,Kv s=true)→ ∃n,Yj (z3o l) n (.to (.h0 (i:Int)))=.ret (bif l.all Kv then [.dat (Wx l).length (Zz (Wx l)),.int .i64 (z0t l)] else [.nils,.int .i64 8])
 | 0,i,h,ht=>by have hv:l.all Kv=true:=List.all_eq_true.2 fun s hs=>ht s (by rw [List.take_of_length_le (by omega)];exact hs);have w:Kt l=true:=decide_eq_true hl;refine ⟨1,?_⟩;rw [Zw,hv,cond_true];simp (disch:=omega) only [z3o,Zp,w,Zo,cond_true,cond_false,Zg]
 | k+1,i,h,ht=>by
  have hi:i<l.length:=by omega
  have hs:z3o l (.h0 (i:Int))=bif Kv (rd l i) then .to (.h0 ((i+1:Nat):Int)) else .ret [.nils,.int .i64 8]:=by have e:u5h (rd l i).a (rd l i).b (rd l i).c (rd l i).d =Kv (rd l i):=rfl;simp (disch:=omega) only [z3o,e,z6i,x3w,w1v,Ze,Zu,Zx,Zj,Bool.and_true,cond_true,cond_false]
  rcases Yv (Kv (rd l i)) with q | q
  ·obtain ⟨n,hn⟩:=u1h l hl k (i+1) (by omega) (fun s hs=>by
    rw [List.take_add_one] at hs;have e:l[i]? =some (rd l i):=by rw [Yt hi];exact List.getElem?_eq_getElem _
    rw [e] at hs;simp only [Option.toList_some,List.mem_append,List.mem_singleton] at hs;rcases hs with hs | rfl
    ·exact ht s hs
    ·exact q)
   refine ⟨n+1,?_⟩;rw [Zw,hs,q,cond_true];exact hn
  ·have hv:l.all Kv=false:=Bool.eq_false_iff.2 fun e=>by have:=List.all_eq_true.1 e (rd l i) (by rw [Yt hi];exact List.getElem_mem hi);rw [this] at q;cases q
   refine ⟨1,?_⟩;rw [Zw,hv,cond_false,hs,q,cond_false,Zg]
theorem v4w (l:List R4): ∃n,Yj (z3o l) n (z7a l)=.ret (bif decide (400<l.length) then [.nils,.int .i64 4] else bif l.all Kv then [.dat (Wx l).length (Zz (Wx l)),.int .i64 (z0t l)] else [.nils,.int .i64 8]):=by
 unfold z7a;by_cases h:400<l.length
 ·refine ⟨0,?_⟩;rw [decide_eq_true h,Ye (show (l.length:Int)>400 by omega)];rfl
 ·obtain ⟨n,hn⟩:=u1h l (by omega) l.length 0 (Nat.zero_add _) (fun s hs=>by simp at hs);refine ⟨n,?_⟩;rw [decide_eq_false h,Ys (show¬(l.length:Int)>400 by omega),cond_false,cond_false];exact hn
def Zm (l:List R4):List R4:=bif decide (400<l.length) then [] else bif l.all Kv then (bif decide (((D4.out l).length :Int)>400) then [] else D4.out l) else []
def Yn (l:List R4):Int:=bif decide (400<l.length) then 4 else bif l.all Kv then (bif decide (((D4.out l).length :Int)>400) then 4 else 0) else 8
def Jz (l:List R4):Bool:=true
theorem u7d (l:List R4) (h:Jz l=true): ∃n,Yj (z3o l) n (z7a l)=.ret (bif decide (400<l.length) then [.nils,.int .i64 4] else bif l.all Kv then [.dat (Zm l).length (Zz (Zm l)),.int .i64 (Yn l)] else [.nils,.int .i64 8]):=by
 obtain ⟨n,hn⟩:=v4w l;refine ⟨n,hn.trans ?_⟩;cases h1:decide (400<l.length) <;> cases h2:l.all Kv <;> simp only [cond_true,cond_false];have e0:Wx l=Zm l:=by unfold Wx u2y x4v y9c Zm;rw [h1,h2];cases decide (((D4.out l).length :Int)>400) <;> rfl
 have e1:z0t l=Yn l:=by unfold z0t u2y y9c Yn;rw [h1,h2];rfl
 rw [e0,e1]
def fRgm :List AVal→Option (AVal×Bool)
 | [a0]=>match asL R4 a0 with
  | some (L0,g0,n0)=>some (.tup [.dat (Zm L0).length (Zz (Zm L0)),.int .i64 (Yn L0)],isT R4 n0 g0&&(Jz L0))
  | _=>none
 | _=>none
theorem u9p {S:Specs} (hS:Zq prog S):Zq prog (S.with w0v fRgm):=by
 refine v1i hS (by kernel_rfl) fun args v h=> ?_;unfold fRgm at h;split at h
 ·rename_i a0;split at h
  ·rename_i L0 g0 n0 e0;simp only [Option.some.injEq,Prod.mk.injEq,Bool.and_eq_true] at h;obtain ⟨rfl,ho0,hw⟩:=h;obtain ⟨N,hN⟩:=u7d L0 hw;refine ⟨_,_,(.cons (asL_le e0 ho0) .nil),?_,v4x L0 N _ hN,3,?_⟩
   ·cases h1:decide (400<L0.length) <;> cases h2:L0.all Kv <;> simp only [Zm,Yn,h1,h2,cond_true,cond_false]
    ·exact fun ρ u hu=>z6n (.cons (z2f R4) (RLe.refl _)) ρ u hu
    ·exact fun ρ u hu=>hu
    ·exact fun ρ u hu=>z6n (.cons (z2f R4) (RLe.refl _)) ρ u hu
    ·exact fun ρ u hu=>z6n (.cons (z2f R4) (RLe.refl _)) ρ u hu
   ·cases decide (400<L0.length) <;> cases L0.all Kv <;> rfl
  ·cases h
 ·cases h
def T7 :Specs:=(T6m.with w0v fRgm)
theorem x4r :Zq prog T7:=(u9p y5s)
end Go.Am
namespace Go.Am
open Go.Proofs.Tryz
open Go.Proofs
inductive vl6S where
def vl6C (aZ:Int) (aX:Int) (aS:Int) (bL:Int) (bV:Int) (bN:Int):vl6S→Cfg
 :=nofun
def x4y (aZ:Int) (aX:Int) (aS:Int) (bL:Int) (bV:Int) (bN:Int):vl6S→Xe vl6S
 :=nofun
def y1e (aZ:Int) (aX:Int) (aS:Int) (bL:Int) (bV:Int) (bN:Int):Xe vl6S:=(bif (decide (aZ<bL)) then (bif (decide (aX<bV)) then (bif (decide (aS<bN)) then (bif (decide ((Ju (Ju aZ aX) aS)≥(-1000000))) then (bif (decide ((Wf (Wf aZ aX) aS)≤1000000)) then (bif (decide ((Ju (Ju bL bV) bN)≥(-1000000))) then (.ret [(.bool (decide ((Wf (Wf bL bV) bN)≤1000000)))]) else (.ret [(.bool false)])) else (.ret [(.bool false)])) else (.ret [(.bool false)])) else (.ret [(.bool false)])) else (.ret [(.bool false)])) else (.ret [(.bool false)]))
theorem w2e (aZ:Int) (aX:Int) (aS:Int) (bL:Int) (bV:Int) (bN:Int): ∀s,Xr prog (Zy prog 107) (vl6C aZ aX aS bL bV bN) (vl6C aZ aX aS bL bV bN s) (x4y aZ aX aS bL bV bN s)
 :=nofun
theorem x4z (aZ:Int) (aX:Int) (aS:Int) (bL:Int) (bV:Int) (bN:Int):Xr prog (Zy prog 107) (vl6C aZ aX aS bL bV bN) (Zi prog 107 [(.agg [(.int .i64 aZ),(.int .i64 aX),(.int .i64 aS),(.int .i64 bL),(.int .i64 bV),(.int .i64 bN)])] true []) (y1e aZ aX aS bL bV bN):=(lb (fun k0=>(lb (fun k1=>(lb (fun k2=>(lb (fun k3=>(lb (fun k4=>(lb (fun k5=>(lr 38 3 [1,1,1,1,1,1,0] 1 15 [(2,(.bool (decide ((Wf (Wf bL bV) bN)≤1000000))))] (sl x4r 100 [] ⟨[],[],[some [2]],[]⟩ ⟨[],[],[]⟩ (trs 36 []) (tt k5 (tt k4 (tt k3 (tt k2 (tt k1 (tt k0 nn))))))))) (fun k5=>(lr 38 3 [1,1,1,1,1,1,0] 1 15 [(2,(.bool false))] (sl x4r 100 [] ⟨[],[],[some [2]],[]⟩ ⟨[],[],[]⟩ (trs 28 [false,false,false,false,false,false,false,false]) (tt k5 (tt k4 (tt k3 (tt k2 (tt k1 (tt k0 nn))))))))))) (fun k4=>(lr 38 3 [1,1,1,1,1,1,0] 1 15 [(2,(.bool false))] (sl x4r 72 [] ⟨[],[],[some [2]],[]⟩ ⟨[],[],[]⟩ (trs 25 [false,false,false]) (tt k4 (tt k3 (tt k2 (tt k1 (tt k0 nn)))))))))) (fun k3=>(lr 38 3 [1,1,1,1,1,1,0] 1 15 [(2,(.bool false))] (sl x4r 72 [] ⟨[],[],[some [2]],[]⟩ ⟨[],[],[]⟩ (trs 17 [false,false,false,false,false,false,false,false,false,false,false]) (tt k3 (tt k2 (tt k1 (tt k0 nn))))))))) (fun k2=>(lr 38 3 [1,1,1,1,1,1,0] 1 15 [(2,(.bool false))] (sl x4r 44 [] ⟨[],[],[some [2]],[]⟩ ⟨[],[],[]⟩ (trs 14 [false,false,false,false,false,false]) (tt k2 (tt k1 (tt k0 nn)))))))) (fun k1=>(lr 38 3 [1,1,1,1,1,1,0] 1 15 [(2,(.bool false))] (sl x4r 44 [] ⟨[],[],[some [2]],[]⟩ ⟨[],[],[]⟩ (trs 7 [false,false,false,false,false,false,false,false,false,false,false,false,false]) (tt k1 (tt k0 nn))))))) (fun k0=>(lr 38 3 [1,1,1,1,1,1,0] 1 15 [(2,(.bool false))] (sl x4r 44 [] ⟨[],[],[some [2]],[]⟩ ⟨[],[],[]⟩ [false,false,false,false,false,false,false,false,false,false,false,false,false,false,false,false,false,false,false,false] (tt k0 nn)))))
theorem v3k (aZ:Int) (aX:Int) (aS:Int) (bL:Int) (bV:Int) (bN:Int) (n:Nat) (vs:List AVal) (h:Yj (x4y aZ aX aS bL bV bN) n (y1e aZ aX aS bL bV bN)=.ret vs):Kg prog (Zy prog 107) (Zi prog 107 [(.agg [(.int .i64 aZ),(.int .i64 aX),(.int .i64 aS),(.int .i64 bL),(.int .i64 bV),(.int .i64 bN)])] true []) vs:=by have:=Yw (w2e aZ aX aS bL bV bN) n _ (x4z aZ aX aS bL bV bN);rwa [h] at this
end Go.Am
namespace Go.Am
open Go.Proofs.Tryz
open Go.Proofs
open Go.Sort Go.Shelf Go.RowKit Go.Lib
def Ut (r:R6):Bool:=decide (r.a<r.d)&&(decide (r.b<r.e)&&(decide (r.c<r.f)&&(decide ((Ju (Ju r.a r.b) r.c)≥(-1000000))&&(decide ((Wf (Wf r.a r.b) r.c)≤1000000)&&(decide ((Ju (Ju r.d r.e) r.f)≥(-1000000))&&decide ((Wf (Wf r.d r.e) r.f)≤1000000))))))
def u5f (a b c d e f:Int):Bool:=Ut ⟨a,b,c,d,e,f⟩
theorem u5e (a b c d e f:Int): ∃N,Yj (x4y a b c d e f) N (y1e a b c d e f)=.ret [.bool (u5f a b c d e f)]:=⟨0,by
 unfold y1e u5f Ut;simp only [y5f];cases decide (a<d) <;> cases decide (b<e) <;> cases decide (c<f) <;> cases decide ((Ju (Ju a b) c)≥(-1000000)) <;> cases decide ((Wf (Wf a b) c)≤1000000) <;> cases decide ((Ju (Ju d e) f)≥(-1000000)) <;> rfl⟩
def fVl6 :List AVal→Option (AVal×Bool)
 | [.agg [.int .i64 aZ,.int .i64 aX,.int .i64 aS,.int .i64 bL,.int .i64 bV,.int .i64 bN]]=>some (.bool (u5f aZ aX aS bL bV bN),true)
 | _=>none
theorem u9i {S:Specs} (hS:Zq prog S):Zq prog (S.with w0s fVl6):=by
 refine z3b hS (by kernel_rfl) fun args v h=> ?_;unfold fVl6 at h;split at h
 ·rename_i aZ aX aS bL bV bN;simp only [Option.some.injEq,Prod.mk.injEq,and_true] at h;subst h;obtain ⟨N,hN⟩:=u5e aZ aX aS bL bV bN;exact ⟨_,_,(.cons (.refl _) .nil),rfl,v3k aZ aX aS bL bV bN N _ hN,3,rfl⟩
 ·cases h
def T7v :Specs:=(T7.with w0s fVl6)
theorem Vf :Zq prog T7v:=(u9i x4r)
end Go.Am
namespace Go.Am
open Go.Proofs.Tryz
open Go.Proofs
inductive sckS where
 | h0 (v8:Int)
 | h1 (v16:Int) (aB:List Int)
 | h2 (v4:Int) (aC:List R6) (aP:List R4) (aV:Int) (aW:Int) (aG:Nat) (aI:List Int)
 | h3 (v4:Int) (v38:Int) (aC:List R6) (aP:List R4) (aV:Int) (aW:Int) (aG:Nat) (aI:List Int) (aN:Int) (aT:Int) (aA:List R4)
 | h4 (v1:Int) (v2:Int) (v72:List R4) (v73:Int) (v74:Int) (bM:List R4) (aR:Int) (aF:List R6) (bI:List R4) (bB:Int) (aG:Nat) (aI:List Int) (aN:List R4)
 | h5 (v2:Int) (v8:Int) (cF:Int) (bM:List R4) (aR:Int) (aF:List R6) (bI:List R4) (bB:Int) (cI:Int) (bG:Nat) (bW:List Int) (aA:List R4)
abbrev y7d (aF:List R6) (v8:Int) (v2:Int):=(aF.set (0+(tn v8)) (R6.mk (rd aF (0+(tn v8))).a (rd aF (0+(tn v8))).b (rd aF (0+(tn v8))).c (rd aF (0+(tn v8))).d (rd aF (0+(tn v8))).e v2))
def w7g (l0:List R6):AFr:=⟨⟨25,0,true⟩,(Wd prog 72 [1,1,1,0,0] 3),(Zb prog 72 [1,1,1,0,0] 1),none,(Zy prog 15),Yq [(0,(.dat l0.length (Zz l0))),(11,(.agg [.nilf])),(13,(.sl 8 0 1 (.un 1)))]⟩
abbrev y7c (aB:List Int):=(Xx (Yp aB.length (cOf (Zz (Yh (Yp aB.length (cOf (Zz aB))))))))
abbrev y7b (aA:List R4) (l0:List R6) (v38:Int):=(aA++[(R4.mk (rd l0 (tn v38)).a (rd l0 (tn v38)).b (rd l0 (tn v38)).d (rd l0 (tn v38)).e)])
abbrev y7a (aF:List R6) (v72:List R4) (v74:Int) (v1:Int) (v2:Int):=(aF++[(R6.mk (rd v72 (tn v74)).a (rd v72 (tn v74)).b v1 (rd v72 (tn v74)).c (rd v72 (tn v74)).d v2)])
def u0r :=(z5j [(0,⟨.ready,none,65,Yq [(2,(.ptr 1 0)),(4,(.ptr 2 0)),(5,(.ptr 3 0)),(6,(.ptr 4 0))],[15],(Xd prog 108 [1,1,0,1,0,0]),(Xd prog 108 [1,1,0,1,0,1])⟩)])
def z1e (l0:List R6):AVal:=(.dat l0.length (Zz l0))
def u0q :AFr:=⟨⟨65,0,true⟩,none,(.inRangeFunc 0::(Zb prog 108 [1,1,0,1,0] 1)),none,(Zy prog 36),Yq [(4,(.ptr 2 0)),(5,(.ptr 3 0)),(6,(.ptr 4 0))]⟩
abbrev y6z (aB:List Int) (l0:List R6) (v16:Int):=(aB++[(rd l0 (tn v16)).c,(rd l0 (tn v16)).f])
def sckC (l0:List R6):sckS→Cfg
 | .h0 v8=>⟨⟨19,0,true⟩,none,(Zb prog 124 [1,0,1,0,0] 0),none,(Zy prog 3),⟨Yq [(0,(z1e l0)),(1,(.fn 106 [])),(7,(ii (l0.length:Int))),(8,(ii v8))],Uv [] 0,0,[],true⟩,[⟨⟨9,0,true⟩,(Wd prog 86 [1,0] 2),(Zb prog 86 [1,0] 1),none,(Zy prog 3),Yq [(5,(z1e l0)),(6,(.fn 106 []))]⟩,⟨⟨25,0,true⟩,(Wd prog 72 [1,1,0,0] 1),(Zb prog 72 [1,1,0,0] 1),none,(Zy prog 15),Yq [(0,(z1e l0)),(8,(z1e l0))]⟩],.leaf⟩
 | .h1 v16 aB=>⟨⟨36,0,true⟩,none,(Zb prog 129 [1,1,0,1,0,0,1,1,0,0,1,1,0,0] 0),none,(Zy prog 15),⟨Yq [(1,(.ptr 0 0)),(3,(.ptr 2 0)),(8,(.sl 1 0 1 (.un 1))),(9,(ii 1)),(10,(ii 0)),(14,(z1e l0)),(15,(ii (l0.length:Int))),(16,(ii v16))],Uv [⟨[(.sl 1 0 1 (.un 1))],168,none⟩,⟨[(z1e l0)],22,none⟩,⟨[(.sla 7 1 0 aB.length (.un 1))],47,none⟩,⟨[.nilf],124,none⟩,⟨[.nils],30,none⟩,⟨[(ii 0)],24,none⟩,⟨[.nils,.nils,(ii 0),(ii 0)],170,none⟩,⟨rows aB.length (Zz aB),3,some ⟨1,aB.length,(Zz aB)⟩⟩] 0,8,[],true⟩,[⟨⟨65,0,true⟩,(Wd prog 108 [1,1,0,0] 1),(Zb prog 108 [1,1,0,0] 1),none,(Zy prog 36),Yq [(2,(.ptr 3 0)),(4,(.ptr 4 0)),(5,(.ptr 5 0)),(6,(.ptr 6 0)),(13,(.sl 1 0 1 (.un 1)))]⟩,⟨⟨25,0,true⟩,(Wd prog 72 [1,1,1,0,0] 3),(Zb prog 72 [1,1,1,0,0] 1),none,(Zy prog 15),Yq [(0,(z1e l0)),(11,(.agg [.nilf])),(13,(.sl 1 0 1 (.un 1)))]⟩],.leaf⟩
 | .h2 v4 aC aP aV aW aG aI=>⟨⟨86,0,true⟩,none,(Zb prog 150 [1,0,0] 0),none,[],⟨Yq [(0,(.yld 0)),(1,(.ptr 5 0)),(2,(.ptr 7 0)),(4,(ii v4))],z0z [(1,⟨[.nilf],124,none⟩),(2,⟨[.nils],30,none⟩),(3,⟨[(ii 0)],24,none⟩),(4,⟨[(.sla 9 6 0 aC.length (.un 6)),(.dat aP.length (Zz aP)),(ii aV),(ii aW)],170,none⟩),(5,⟨[(.sla 6 1 0 aG (.un 1))],47,none⟩),(6,⟨rows aI.length (Zz aI),3,some ⟨1,aI.length,(Zz aI)⟩⟩),(7,⟨[(.sl 8 0 1 (.un 1))],168,none⟩),(8,⟨[(z1e l0)],22,none⟩),(9,⟨rows aC.length (Zz aC),68,some ⟨6,aC.length,(Zz aC)⟩⟩)],10,[],true⟩,[u0q,(w7g l0)],u0r⟩
 | .h3 v4 v38 aC aP aV aW aG aI aN aT aA=>⟨⟨86,0,true⟩,none,(Zb prog 150 [1,0,0,1,0,0,1,0,1,0,0,1,1,0,0,1,1,0,0] 0),none,[],⟨Yq [(0,(.yld 0)),(1,(.ptr 5 0)),(2,(.ptr 7 0)),(4,(ii v4)),(5,(.ptr 9 0)),(6,(ii 0)),(29,(.sl 8 0 1 (.un 1))),(30,(ii 1)),(31,(ii 0)),(36,(z1e l0)),(37,(ii (l0.length:Int))),(38,(ii v38))],z0z [(1,⟨[.nilf],124,none⟩),(2,⟨[.nils],30,none⟩),(3,⟨[(ii 0)],24,none⟩),(4,⟨[(.sla 12 6 0 aC.length (.un 6)),(.dat aP.length (Zz aP)),(ii aV),(ii aW)],170,none⟩),(5,⟨[(.sla 6 1 0 aG (.un 1))],47,none⟩),(6,⟨rows aI.length (Zz aI),3,some ⟨1,aI.length,(Zz aI)⟩⟩),(7,⟨[(.sl 8 0 1 (.un 1))],168,none⟩),(8,⟨[(z1e l0)],22,none⟩),(9,⟨[(ii aN),(ii aT),(.sl 10 0 1 (.ex 1))],175,none⟩),(10,⟨[(.sla 11 4 0 aA.length (.un 4))],105,none⟩),(11,⟨rows aA.length (Zz aA),114,some ⟨4,aA.length,(Zz aA)⟩⟩),(12,⟨rows aC.length (Zz aC),68,some ⟨6,aC.length,(Zz aC)⟩⟩)],13,[],true⟩,[u0q,(w7g l0)],u0r⟩
 | .h4 v1 v2 v72 v73 v74 bM aR aF bI bB aG aI aN=>⟨⟨101,0,true⟩,none,(Zb prog 131 [1,1,1,0,0] 0),none,[],⟨Yq [(0,(.ptr 0 0)),(1,(ii v1)),(2,(ii v2)),(72,(.dat v72.length (Zz v72))),(73,(ii v73)),(74,(ii v74))],z0z [(0,⟨[(.sla 10 6 0 aF.length (.un 6)),(.dat bI.length (Zz bI)),(ii bB),(ii v2)],170,none⟩),(2,⟨[.nilf],124,none⟩),(3,⟨[.nils],30,none⟩),(4,⟨[(ii 0)],24,none⟩),(5,⟨[(.sla 6 1 0 aG (.un 1))],47,none⟩),(6,⟨rows aI.length (Zz aI),3,some ⟨1,aI.length,(Zz aI)⟩⟩),(7,⟨[(.sl 8 0 1 (.un 1))],168,none⟩),(8,⟨[(z1e l0)],22,none⟩),(9,⟨[(.dat aN.length (Zz aN))],105,none⟩),(10,⟨rows aF.length (Zz aF),68,some ⟨6,aF.length,(Zz aF)⟩⟩)],11,[],true⟩,[⟨⟨65,0,true⟩,(Wd prog 108 [1,1,0,1,0,1,0,1,1,1] 5),(Zb prog 108 [1,1,0,1,0,1,0,1,1,1] 1),(some 1),[],Yq [(6,(.ptr 0 0)),(54,(ii v1)),(56,(ii v2)),(57,(.dat bM.length (Zz bM)))]⟩,⟨⟨86,0,true⟩,(Wd prog 150 [1,0,0,1,0,0,1,1,0] 2),(Zb prog 150 [1,0,0,1,0,0,1,1,0] 1),none,[],Yq [(0,(.yld 1)),(1,(.ptr 5 0)),(2,(.ptr 7 0)),(4,(ii aR)),(82,(.yld 1)),(83,(.agg [(ii v1),(ii v2),(.sl 9 0 1 (.ex 1))]))]⟩,⟨⟨65,0,true⟩,none,(.inRangeFunc 1::(Zb prog 108 [1,1,0,1,0] 1)),none,(Zy prog 36),Yq [(4,(.ptr 3 0)),(5,(.ptr 4 0)),(6,(.ptr 0 0))]⟩,(w7g l0)],(z5j [(1,⟨.busy,none,65,Yq [(2,(.ptr 2 0)),(4,(.ptr 3 0)),(5,(.ptr 4 0)),(6,(.ptr 0 0))],[15],(Xd prog 108 [1,1,0,1,0,0]),(Xd prog 108 [1,1,0,1,0,1])⟩)])⟩
 | .h5 v2 v8 cF bM aR aF bI bB cI bG bW aA=>⟨⟨101,0,true⟩,none,(Zb prog 131 [0,1,0,0,1,0,0] 0),none,[],⟨Yq [(0,(.ptr 0 0)),(2,(ii v2)),(8,(ii v8))],z0z [(0,⟨[(.sla 1 6 0 aF.length (.un 6)),(.dat bI.length (Zz bI)),(ii bB),(ii cI)],170,none⟩),(1,⟨rows aF.length (Zz aF),68,some ⟨6,aF.length,(Zz aF)⟩⟩),(3,⟨[.nilf],124,none⟩),(4,⟨[.nils],30,none⟩),(5,⟨[(ii 0)],24,none⟩),(6,⟨[(.sla 7 1 0 bG (.un 1))],47,none⟩),(7,⟨rows bW.length (Zz bW),3,some ⟨1,bW.length,(Zz bW)⟩⟩),(8,⟨[(.sl 9 0 1 (.un 1))],168,none⟩),(9,⟨[(z1e l0)],22,none⟩),(10,⟨[(.dat aA.length (Zz aA))],105,none⟩)],11,[],true⟩,[⟨⟨65,0,true⟩,(Wd prog 108 [1,1,0,1,0,1,0,1,1,1] 5),(Zb prog 108 [1,1,0,1,0,1,0,1,1,1] 1),(some 2),[],Yq [(6,(.ptr 0 0)),(54,(ii cF)),(56,(ii v2)),(57,(.dat bM.length (Zz bM)))]⟩,⟨⟨86,0,true⟩,(Wd prog 150 [1,0,0,1,0,0,1,1,0] 2),(Zb prog 150 [1,0,0,1,0,0,1,1,0] 1),none,[],Yq [(0,(.yld 2)),(1,(.ptr 6 0)),(2,(.ptr 8 0)),(4,(ii aR)),(82,(.yld 2)),(83,(.agg [(ii cF),(ii v2),(.sl 10 0 1 (.ex 1))]))]⟩,⟨⟨65,0,true⟩,none,(.inRangeFunc 2::(Zb prog 108 [1,1,0,1,0] 1)),none,(Zy prog 36),Yq [(4,(.ptr 4 0)),(5,(.ptr 5 0)),(6,(.ptr 0 0))]⟩,⟨⟨25,0,true⟩,(Wd prog 72 [1,1,1,0,0] 3),(Zb prog 72 [1,1,1,0,0] 1),none,(Zy prog 15),Yq [(0,(z1e l0)),(11,(.agg [.nilf])),(13,(.sl 9 0 1 (.un 1)))]⟩],(z5j [(2,⟨.busy,none,65,Yq [(2,(.ptr 3 0)),(4,(.ptr 4 0)),(5,(.ptr 5 0)),(6,(.ptr 0 0))],[15],(Xd prog 108 [1,1,0,1,0,0]),(Xd prog 108 [1,1,0,1,0,1])⟩)])⟩
def sckN0 :List (Option (List Nat)):=[some [0,1,7,8],some [5,6],some [0,8]]
def sckM0 :List (Option (List Nat)):=[]
def u6f :List (Option (List Nat)):=[some [1,3,8,9,10,14,15,16],some [2,4,5,6,13],some [0,11,13]]
def u6h :List (Option (List Nat)):=[]
def u6e :List (Option (List Nat)):=[some [0,1,2,4],some [4,5,6],some [0,11,13]]
def u6g :List (Option (List Nat)):=[some [2,4,5,6],none,none,none,none,none,none,none,none,none]
def v4f :List (Option (List Nat)):=[some [0,1,2,4,5,6,29,30,31,36,37,38],some [4,5,6],some [0,11,13]]
def v4h :List (Option (List Nat)):=[some [2,4,5,6],none,none,none,none,none,none,none,none,none,none,none,none]
def v4e :List (Option (List Nat)):=[some [0,1,2,72,73,74],some [6,54,56,57],some [0,1,2,4,82,83],some [4,5,6],some [0,11,13]]
def v4g :List (Option (List Nat)):=[none,some [2,4,5,6],none,none,none,none,none,none,none,none,none]
def sckN5 :List (Option (List Nat)):=[some [0,2,8],some [6,54,56,57],some [0,1,2,4,82,83],some [4,5,6],some [0,11,13]]
def sckM5 :List (Option (List Nat)):=[none,none,some [2,4,5,6],none,none,none,none,none,none,none,none]
def Xq (l0:List R6):sckS→Xe sckS
 | .h0 v8=>(bif (decide (v8<(l0.length:Int))) then (bif ((decide (0≤v8∧v8<(l0.length:Int)))&&true) then (bif (!(u5f (rd l0 v8.toNat).a (rd l0 v8.toNat).b (rd l0 v8.toNat).c (rd l0 v8.toNat).d (rd l0 v8.toNat).e (rd l0 v8.toNat).f)) then (bif (decide (v8≥0)) then (.ret [(.int .i64 8)]) else (.to (.h1 0 ([]:List Int)))) else (.to (.h0 (IntKind.wrap .i64 (v8+1))))) else .stuck) else (.to (.h1 0 ([]:List Int))))
 | .h1 v16 aB=>(bif (decide (v16<(l0.length:Int))) then (bif ((decide (0≤v16∧v16<(l0.length:Int)))&&true) then (bif (Nat.beq 1 1&&((decide (0+aB.length=aB.length))&&decide ((aB.length+2+1)*(8+1)≤Un))) then (.to (.h1 (IntKind.wrap .i64 (v16+1)) (aB++[(rd l0 v16.toNat).c,(rd l0 v16.toNat).f]))) else .stuck) else .stuck) else (bif (decide (aB.length<4611686018427387904)) then (bif (decide (aB.length=aB.length)) then (.to (.h2 1 ([]:List R6) ([]:List R4) 0 0 (v1z (Yp aB.length (cOf (Zz (Yh (Yp aB.length (cOf (Zz aB)))))))) (Xx (Yp aB.length (cOf (Zz (Yh (Yp aB.length (cOf (Zz aB)))))))))) else .stuck) else .stuck))
 | .h2 v4 aC aP aV aW aG aI=>(bif (decide (v4<((aG:Nat):Int))) then (bif ((decide (0≤(IntKind.wrap .i64 (v4 - 1))∧(IntKind.wrap .i64 (v4 - 1))<((aG:Nat):Int)))&&true) then (bif (decide ((0+(Int.toNat (IntKind.wrap .i64 (v4 - 1))))<aI.length)) then (bif ((decide (0≤v4∧v4<((aG:Nat):Int)))&&true) then (bif (decide ((0+v4.toNat)<aI.length)) then (.to (.h3 v4 0 aC aP aV aW aG aI (rd aI (0+(Int.toNat (IntKind.wrap .i64 (v4 - 1))))) (rd aI (0+v4.toNat)) ([]:List R4))) else .stuck) else .stuck) else .stuck) else .stuck) else (bif (decide ((aC.length:Int)>400)) then (.ret [(.int .i64 8)]) else (bif (Nat.beq 6 6&&(decide (0+aC.length≤aC.length)&&Qt (Zz aC))) then (bif (Ug (lst R6 (aC.length) (fun k=>(Zz aC) (0+k))) (cvT l0)) then (bif (!(Kp (lst R6 (aC.length) (fun k=>(Zz aC) (0+k))) (cvT l0))) then (.ret [(.int .i64 8)]) else (.ret [(.int .i64 0)])) else .stuck) else .stuck)))
 | .h3 v4 v38 aC aP aV aW aG aI aN aT aA=>(bif (decide (v38<(l0.length:Int))) then (bif ((decide (0≤v38∧v38<(l0.length:Int)))&&true) then (bif (decide ((rd l0 v38.toNat).c ≤aN)) then (bif (decide (aN<(rd l0 v38.toNat).f)) then (bif (Nat.beq 4 4&&((decide (0+aA.length=aA.length))&&decide ((aA.length+1+1)*(32+1)≤Un))) then (.to (.h3 v4 (IntKind.wrap .i64 (v38+1)) aC aP aV aW aG aI aN aT (aA++[(R4.mk (rd l0 v38.toNat).a (rd l0 v38.toNat).b (rd l0 v38.toNat).d (rd l0 v38.toNat).e)]))) else .stuck) else (.to (.h3 v4 (IntKind.wrap .i64 (v38+1)) aC aP aV aW aG aI aN aT aA))) else (.to (.h3 v4 (IntKind.wrap .i64 (v38+1)) aC aP aV aW aG aI aN aT aA))) else .stuck) else (bif (Jz (cvT aA)) then (bif ((Yn (cvT aA)) != 0) then (.ret [(.int .i64 8)]) else (bif (decide ((((Zm (cvT aA)).length :Nat):Int)>0)) then (bif (aW == aN) then (bif (Xg (cvT aP) (cvT (Zm (cvT aA)))) then (bif (Vw (cvT aP) (cvT (Zm (cvT aA)))) then (.to (.h5 aT aV aN (Zm (cvT aA)) v4 aC aP aV aW aG aI aA)) else (.to (.h4 aN aT (Zm (cvT aA)) (((Zm (cvT aA)).length :Nat):Int) 0 (Zm (cvT aA)) v4 aC (Zm (cvT aA)) (aC.length:Int) aG aI aA))) else .stuck) else (.to (.h4 aN aT (Zm (cvT aA)) (((Zm (cvT aA)).length :Nat):Int) 0 (Zm (cvT aA)) v4 aC (Zm (cvT aA)) (aC.length:Int) aG aI aA))) else (.to (.h4 aN aT (Zm (cvT aA)) (((Zm (cvT aA)).length :Nat):Int) 0 (Zm (cvT aA)) v4 aC (Zm (cvT aA)) (aC.length:Int) aG aI aA)))) else .stuck))
 | .h4 v1 v2 v72 v73 v74 bM aR aF bI bB aG aI aN=>(bif (decide (v74<v73)) then (bif ((decide (0≤v74∧v74<(v72.length:Int)))&&true) then (bif (Nat.beq 6 6&&((decide (0+aF.length=aF.length))&&decide ((aF.length+1+1)*(48+1)≤Un))) then (.to (.h4 v1 v2 v72 v73 (IntKind.wrap .i64 (v74+1)) bM aR (aF++[(R6.mk (rd v72 v74.toNat).a (rd v72 v74.toNat).b v1 (rd v72 v74.toNat).c (rd v72 v74.toNat).d v2)]) bI bB aG aI aN)) else .stuck) else .stuck) else (.to (.h2 (IntKind.wrap .i64 (aR+1)) aF bI bB v2 aG aI)))
 | .h5 v2 v8 cF bM aR aF bI bB cI bG bW aA=>(bif (decide (v8<(aF.length:Int))) then (bif ((decide (0≤v8∧v8<(aF.length:Int)))&&true) then (bif (decide ((0+v8.toNat)<aF.length)) then (.to (.h5 v2 (IntKind.wrap .i64 (v8+1)) cF bM aR (aF.set (0+v8.toNat) (R6.mk (rd aF (0+v8.toNat)).a (rd aF (0+v8.toNat)).b (rd aF (0+v8.toNat)).c (rd aF (0+v8.toNat)).d (rd aF (0+v8.toNat)).e v2)) bI bB cI bG bW aA)) else .stuck) else .stuck) else (.to (.h2 (IntKind.wrap .i64 (aR+1)) aF bI bB v2 bG bW)))
def y1m (l0:List R6):Xe sckS:=(bif (decide ((l0.length:Int)>400)) then (.ret [(.int .i64 4)]) else (.to (.h0 0)))
theorem w2u (l0:List R6): ∀s,Xr prog (Zy prog 72) (sckC l0) (sckC l0 s) (Xq l0 s)
 | .h0 v8=>(lb (fun k0=>(lo fun aJ=>(lb (fun k1=>(lb (fun k2=>(lr 25 72 [1,1,0,1,0,0] 1 15 [(2,(ii 8))] (sl Vf 53 [] ⟨[],[],[some [2]],[]⟩ ⟨[],[],[]⟩ (trs 3 []) (tt k2 (tt k1 (ww aJ (tt k0 nn))))))) (fun k2=>(sl Vf 113 [(3,1,Zz ([]:List Int))] ⟨[6,1,7,2,3,4,5,8],[],u6f,u6h⟩ ⟨[],[.keep,.keep,.cells [.grow 7 1],.keep,.keep,.keep,.keep,.keep],[]⟩ (bl 4 11) (pp (fl ([]:List Int) nn) (tt k2 (tt k1 (ww aJ (tt k0 nn))))))))) (fun k1=>(sl Vf 44 [] ⟨[],[],sckN0,sckM0⟩ ⟨[],[],[]⟩ (bl 2 1) (tt k1 (ww aJ (tt k0 nn)))))))) (fun k0=>(sl Vf 82 [(3,1,Zz ([]:List Int))] ⟨[5,0,6,1,2,3,4,7],[],u6f,u6h⟩ ⟨[],[.keep,.keep,.cells [.grow 7 1],.keep,.keep,.keep,.keep,.keep],[]⟩ (bl 3 4) (pp (fl ([]:List Int) nn) (tt k0 nn)))))
 | .h1 v16 aB=>(lb (fun k0=>(lo fun o0=>(lo fun o1=>(sl Vf 34 [] ⟨[0,1,2,3,4,5,6,10],[],u6f,u6h⟩ ⟨[],[.keep,.keep,.cells [.len (y6z aB l0 v16).length],.keep,.keep,.keep,.keep,.rowed 1 (y6z aB l0 v16).length (Zz (y6z aB l0 v16))],[]⟩ [true] (pp (xL (aB.length+2) (y6z aB l0 v16).length) (pp (xL (aB.length+2) (y6z aB l0 v16).length) (pp (xS (aB.length+2) (Zt (Zz aB) 0 aB.length 1 [(ii (rd l0 (tn v16)).c),(ii (rd l0 (tn v16)).f)]) (Zz (y6z aB l0 v16))) (pp (pp (xF (Zt (Zz aB) 0 aB.length 1 [(ii (rd l0 (tn v16)).c),(ii (rd l0 (tn v16)).f)])) nn) (ww o1 (ww o0 (tt k0 nn))))))))))) (fun k0=>(lo fun o0=>(lo fun o1=>(sl Vf 46 [(68,6,Zz ([]:List R6))] ⟨[8,3,4,5,6,2,7,0,1,9],[],u6e,u6g⟩ ⟨[],(kpB 4 [.cells [.grow 9 6,.list 0 (Zz ([]:List R4)),.keep,.keep],.keep,.rowed 1 (y7c aB).length (Zz (y7c aB)),.keep,.keep,.keep]),[]⟩ (bl 2 0) (pp (xL aB.length (y7c aB).length (by first | exact Qz _ _ | exact Vu rfl)) (pp (xS aB.length (Zz (y7c aB)) (Zz (y7c aB))) (pp (fl (y7c aB) (fl ([]:List R6) nn)) (pp (pp (xG (Nat.beq 1 1)) (pp (xG (Nat.beq 1 1)) (pp (xG (Nat.beq 0 0)) (pp (xG (decide (aB.length=aB.length))) (pp (xG (isI (Zz (Yh (Yp aB.length (cOf (Zz aB))))))) (xG (decide (aB.length<4611686018427387904)))))))) (pp (pp (xG (Nat.beq 1 1)) (pp (xG (Nat.beq 1 1)) (pp (xG (Nat.beq 0 0)) (pp (xG (decide (aB.length=aB.length))) (pp (xG (isI (Zz aB))) (xG (decide (aB.length<4611686018427387904)))))))) (tt k0 nn)))))))))))
 | .h2 v4 aC aP aV aW aG aI=>(lb (fun k0=>(lo fun o0=>(lo fun o1=>(lo fun o2=>(lo fun o3=>(sl Vf 48 [(114,4,Zz ([]:List R4))] ⟨[0,1,2,3,4,5,6,7,8,10,11,12,9],[],v4f,v4h⟩ ⟨[],(kpB 10 [.cells [.grow 11 4],.keep,.keep]),[]⟩ (trs 3 []) (pp (fl aI (fl ([]:List R4) (fl aC nn))) (ww o3 (ww o2 (ww o1 (ww o0 (tt k0 nn)))))))))))) (fun k0=>(lb (fun k1=>(lr 25 72 [1,1,1,0,1,1,0,0] 1 15 [(2,(ii 8))] (sl Vf 50 [] ⟨[],[],[some [2]],[]⟩ ⟨[],[],[]⟩ (bl 7 126) (tt k1 (tt k0 nn))))) (fun k1=>(lo fun cK=>(lo fun dU=>(lb (fun k2=>(lr 25 72 [1,1,1,0,1,1,0,0] 1 15 [(2,(ii 8))] (sl Vf 53 [] ⟨[],[],[some [2]],[]⟩ ⟨[],[],[]⟩ (bl 7 64) (tt k2 (pp (pp (pp (xw cK) (pp nn nn)) (pp (xI R6 (aC.length) (fun k=>(Zz aC) (0+k))) (pp (xr l0) (xw dU)))) (tt k1 (tt k0 nn))))))) (fun k2=>(lr 25 3 [1,1,1,1,1,1,0] 1 15 [(2,(ii 0))] (sl Vf 54 [] ⟨[],[],[some [2]],[]⟩ ⟨[],[],[]⟩ (bl 7 0) (tt k2 (pp (pp (pp (xw cK) (pp nn nn)) (pp (xI R6 (aC.length) (fun k=>(Zz aC) (0+k))) (pp (xr l0) (xw dU)))) (tt k1 (tt k0 nn))))))))))))))
 | .h3 v4 v38 aC aP aV aW aG aI aN aT aA=>(lb (fun k0=>(lo fun aJ=>(lb (fun k1=>(lb (fun k2=>(lo fun o0=>(sl Vf 41 [] ⟨[0,1,2,3,4,5,6,7,8,9,10,15,12],[],v4f,v4h⟩ ⟨[],(kpB 10 [.cells [.len (y7b aA l0 v38).length],.rowed 4 (y7b aA l0 v38).length (Zz (y7b aA l0 v38)),.keep]),[]⟩ (trs 8 []) (pp (xL (aA.length+1) (y7b aA l0 v38).length) (pp (xL (aA.length+1) (y7b aA l0 v38).length) (pp (xS (aA.length+1) (Zt (Zz aA) 0 aA.length 4 [(ii (rd l0 (tn v38)).a),(ii (rd l0 (tn v38)).b),(ii (rd l0 (tn v38)).d),(ii (rd l0 (tn v38)).e)]) (Zz (y7b aA l0 v38))) (pp (fl aI (pp (xF (Zt (Zz aA) 0 aA.length 4 [(ii (rd l0 (tn v38)).a),(ii (rd l0 (tn v38)).b),(ii (rd l0 (tn v38)).d),(ii (rd l0 (tn v38)).e)])) (fl aC nn))) (ww o0 (tt k2 (tt k1 (ww aJ (tt k0 nn)))))))))))) (fun k2=>(sl Vf 41 [] ⟨(List.range 13),[],v4f,v4h⟩ ⟨[],[],[]⟩ (trs 7 [false]) (pp (fl aI (fl aA (fl aC nn))) (tt k2 (tt k1 (ww aJ (tt k0 nn))))))))) (fun k1=>(sl Vf 41 [] ⟨(List.range 13),[],v4f,v4h⟩ ⟨[],[],[]⟩ (bl 8 1) (pp (fl aI (fl aA (fl aC nn))) (tt k1 (ww aJ (tt k0 nn))))))))) (fun k0=>(Ww (sl Vf (C':=⟨⟨65,0,true⟩,(Wd prog 108 [1,1,0,1,0,1,0,0] 4),(Zb prog 108 [1,1,0,1,0,1,0,0] 1),(some 0),[],⟨Yq [(2,(.ptr 1 0)),(4,(.ptr 2 0)),(5,(.ptr 3 0)),(6,(.ptr 4 0)),(7,(.ptr 6 0)),(20,(.dat aA.length (Zz aA)))],z0z [(1,⟨[.nilf],124,none⟩),(2,⟨[.nils],30,none⟩),(3,⟨[(ii 0)],24,none⟩),(4,⟨[(.sla 5 6 0 aC.length (.un 6)),(.dat aP.length (Zz aP)),(ii aV),(ii aW)],170,none⟩),(5,⟨rows aC.length (Zz aC),68,some ⟨6,aC.length,(Zz aC)⟩⟩),(6,⟨[(ii aN),(ii aT),(.sl 7 0 1 (.ex 1))],175,none⟩),(7,⟨[(.dat aA.length (Zz aA))],105,none⟩),(8,⟨[(.sla 9 1 0 aG (.un 1))],47,none⟩),(9,⟨rows aI.length (Zz aI),3,some ⟨1,aI.length,(Zz aI)⟩⟩),(10,⟨[(.sl 11 0 1 (.un 1))],168,none⟩),(11,⟨[(.dat l0.length (Zz l0))],22,none⟩)],12,[],true⟩,[⟨⟨86,0,true⟩,(Wd prog 150 [1,0,0,1,0,0,1,1,0] 2),(Zb prog 150 [1,0,0,1,0,0,1,1,0] 1),none,[],Yq [(0,(.yld 0)),(1,(.ptr 8 0)),(2,(.ptr 10 0)),(4,(ii v4)),(82,(.yld 0)),(83,(.agg [(ii aN),(ii aT),(.sl 7 0 1 (.ex 1))]))]⟩,⟨⟨65,0,true⟩,none,(.inRangeFunc 0::(Zb prog 108 [1,1,0,1,0] 1)),none,(Zy prog 36),Yq [(4,(.ptr 2 0)),(5,(.ptr 3 0)),(6,(.ptr 4 0))]⟩,⟨⟨25,0,true⟩,(Wd prog 72 [1,1,1,0,0] 3),(Zb prog 72 [1,1,1,0,0] 1),none,(Zy prog 15),Yq [(0,(.dat l0.length (Zz l0))),(11,(.agg [.nilf])),(13,(.sl 11 0 1 (.un 1)))]⟩],(z5j [(0,⟨.busy,none,65,Yq [(2,(.ptr 1 0)),(4,(.ptr 2 0)),(5,(.ptr 3 0)),(6,(.ptr 4 0))],[15],(Xd prog 108 [1,1,0,1,0,0]),(Xd prog 108 [1,1,0,1,0,1])⟩)])⟩) 37 [] ⟨[0,1,2,3,4,12,13,10,5,6,7,8],[11],[some [2,4,5,6,7,20],some [0,1,2,4,82,83],some [4,5,6],some [0,11,13]],[some [2,4,5,6],none,none,none,none,none,none,none,none,none,none,none]⟩ ⟨[(20,.frz aA.length aA.length (Zz aA) (Zz aA))],[.keep,.keep,.keep,.keep,.keep,.keep,.keep,.cells [.frz aA.length aA.length (Zz aA) (Zz aA)],.keep,.keep,.keep,.keep],[]⟩ (bl 2 0) (pp (xZ (z2u 4 4 0 aA.length aA.length (Zz aA)) aA.length (Zz aA)) (pp (xL aA.length aA.length) (pp (xS aA.length (Zz aA) (Zz aA)) (pp (xZ (z2u 4 4 0 aA.length aA.length (Zz aA)) aA.length (Zz aA)) (pp (xL aA.length aA.length) (pp (xS aA.length (Zz aA) (Zz aA)) (pp (fl aC (fl aI nn)) (pp (fl aA nn) (tt k0 nn)))))))))) (lo fun aJ=>(lb (fun k1=>(lr 25 72 [1,1,1,0,1,1,0,0] 1 15 [(2,(ii 8))] (sl Vf 67 [] ⟨[],[],[some [2]],[]⟩ ⟨[],[],[]⟩ (bl 8 254) (tt k1 (tt k1 (pp (pp (xr aA) (xw aJ)) nn)))))) (fun k1=>(lb (fun k2=>(lb (fun k3=>(lo fun cM=>(lb (fun k4=>(sl Vf 75 [] ⟨[4,5,0,1,2,3,8,9,10,11,7],[],sckN5,sckM5⟩ ⟨[],[],[]⟩ (bl 15 32764) (pp (fl aC (fl aI nn)) (tt k4 (pp (pp (xr aP) (pp (xI R4 (Zm (cvT aA)).length (Zz (Zm (cvT aA)))) (xw cM))) (tt k3 (tt k2 (tt k1 (pp (pp (xr aA) (xw aJ)) nn))))))))) (fun k4=>(sl Vf 95 [] ⟨[4,0,1,2,3,8,9,10,11,7,5],[],v4e,v4g⟩ ⟨[],[],[]⟩ (bl 15 16380) (pp (fl aI (fl aC nn)) (tt k4 (pp (pp (xr aP) (pp (xI R4 (Zm (cvT aA)).length (Zz (Zm (cvT aA)))) (xw cM))) (tt k3 (tt k2 (tt k1 (pp (pp (xr aA) (xw aJ)) nn)))))))))))) (fun k3=>(sl Vf 95 [] ⟨[4,0,1,2,3,8,9,10,11,7,5],[],v4e,v4g⟩ ⟨[],[],[]⟩ (bl 15 252) (pp (fl aI (fl aC nn)) (tt k3 (tt k2 (tt k1 (pp (pp (xr aA) (xw aJ)) nn))))))))) (fun k2=>(sl Vf 95 [] ⟨[4,0,1,2,3,8,9,10,11,7,5],[],v4e,v4g⟩ ⟨[],[],[]⟩ (bl 15 0) (pp (fl aI (fl aC nn)) (tt k2 (tt k1 (pp (pp (xr aA) (xw aJ)) nn)))))))))))))
 | .h4 v1 v2 v72 v73 v74 bM aR aF bI bB aG aI aN=>(lb (fun k0=>(lo fun o0=>(lo fun o1=>(sl Vf 23 [] ⟨[0,1,2,3,4,5,6,7,8,9,13],[],v4e,v4g⟩ ⟨[],[.cells [.len (y7a aF v72 v74 v1 v2).length,.keep,.keep,.keep],.keep,.keep,.keep,.keep,.keep,.keep,.keep,.keep,.keep,.rowed 6 (y7a aF v72 v74 v1 v2).length (Zz (y7a aF v72 v74 v1 v2))],[]⟩ [true] (pp (xL (aF.length+1) (y7a aF v72 v74 v1 v2).length) (pp (xL (aF.length+1) (y7a aF v72 v74 v1 v2).length) (pp (xS (aF.length+1) (Zt (Zz aF) 0 aF.length 6 [(ii (rd v72 (tn v74)).a),(ii (rd v72 (tn v74)).b),(ii v1),(ii (rd v72 (tn v74)).c),(ii (rd v72 (tn v74)).d),(ii v2)]) (Zz (y7a aF v72 v74 v1 v2))) (pp (fl aI (pp (xF (Zt (Zz aF) 0 aF.length 6 [(ii (rd v72 (tn v74)).a),(ii (rd v72 (tn v74)).b),(ii v1),(ii (rd v72 (tn v74)).c),(ii (rd v72 (tn v74)).d),(ii v2)])) nn)) (ww o1 (ww o0 (tt k0 nn))))))))))) (fun k0=>(sl Vf 22 [] ⟨[1,2,3,4,0,5,6,7,8,10],[],u6e,u6g⟩ ⟨[],[],[]⟩ (bl 2 0) (pp (fl aI (fl aF nn)) (tt k0 nn)))))
 | .h5 v2 v8 cF bM aR aF bI bB cI bG bW aA=>(lb (fun k0=>(lo fun o0=>(lo fun o1=>(sl Vf 34 [] ⟨(List.range 11),[],sckN5,sckM5⟩ ⟨[],[.cells [.len (y7d aF v8 v2).length,.keep,.keep,.keep],.rowed 6 (y7d aF v8 v2).length (Zz (y7d aF v8 v2)),.keep,.keep,.keep,.keep,.keep,.keep,.keep,.keep,.keep],[]⟩ [true] (pp (xL aF.length (y7d aF v8 v2).length) (pp (xL aF.length (y7d aF v8 v2).length) (pp (xS aF.length (Xj (Zz aF) (0+(tn v8)) 5 [(ii v2)]) (Zz (y7d aF v8 v2))) (pp (pp (xF (Xj (Zz aF) (0+(tn v8)) 5 [(ii v2)])) (fl bW nn)) (ww o1 (ww o0 (tt k0 nn))))))))))) (fun k0=>(sl Vf 36 [] ⟨[2,3,4,5,0,6,7,8,9,1],[],u6e,u6g⟩ ⟨[],[],[]⟩ (bl 2 0) (pp (fl bW (fl aF nn)) (tt k0 nn)))))
theorem x5r (l0:List R6):Xr prog (Zy prog 72) (sckC l0) (Zi prog 72 [(.dat l0.length (Zz l0))] true []) (y1m l0):=(lb (fun k0=>(lr 25 72 [1,0,1,0,0] 1 15 [(2,(ii 4))] (sl Vf 16 [] ⟨[],[],[some [2]],[]⟩ ⟨[],[],[]⟩ [true] (tt k0 nn)))) (fun k0=>(sl Vf 40 [] ⟨[],[],sckN0,sckM0⟩ ⟨[],[],[]⟩ [false] (tt k0 nn))))
theorem v4d (l0:List R6) (n:Nat) (vs:List AVal) (h:Yj (Xq l0) n (y1m l0)=.ret vs):Kg prog (Zy prog 72) (Zi prog 72 [(.dat l0.length (Zz l0))] true []) vs:=by have:=Yw (w2u l0) n _ (x5r l0);rwa [h] at this
end Go.Am
namespace Go.Am
open Go.Proofs.Tryz
open Go.Proofs Go.Sort Go.Shelf Go.RowKit Go.Lib
theorem x6h (l:List R4):(Zm l).length ≤400:=by
 unfold Zm;by_cases h:400<l.length
 ·rw [decide_eq_true h];exact Nat.zero_le _
 ·rw [decide_eq_false h];cases l.all Kv
  ·exact Nat.zero_le _
  ·show (bif decide (((D4.out l).length :Int)>400) then [] else D4.out l).length ≤400;by_cases h2:((D4.out l).length :Int)>400
   ·rw [decide_eq_true h2];exact Nat.zero_le _
   ·rw [decide_eq_false h2];show (D4.out l).length ≤400;omega
def D6 :Dim R6 R4:=⟨R6.c,R6.f,fun r=>⟨r.a,r.b,r.d,r.e⟩,fun x x' s=>⟨s.a,s.b,x,s.c,s.d,x'⟩,fun x r=>⟨r.a,r.b,r.c,r.d,r.e,x⟩,Zm,Vw⟩
theorem u4x (l:List R6) (x:Int):(D6.sec l x).length ≤1000:=Nat.le_trans (x6h _) (by omega)
def sckErr :List AVal:=[.int .i64 8]
def x1z (l out:List R6):List AVal:=bif decide ((out.length:Int)>400) then [.int .i64 8] else bif Kp out l then [.int .i64 0] else [.int .i64 8]
def w5s (l:List R6) (x:Int):Bool:=Yn (D6.inn l x) != 0
def okF (l:List R6):Nat→Nat→Bool
 | 0,_=>true
 | k+1,i=>bif w5s l (rd (D6.cuts l) i) then false else okF l k (i+1)
section
variable (l:List R6) (hl:l.length≤400)
include hl
theorem u0n (i:Nat) (out:List R6) (last:List R4) (first fin x x':Int): ∀(k j:Nat) (acc:List R4),j+k=l.length→acc.length≤j→
  ∃n,∀N,Yj (Xq l) (N+n) (.to (.h3 (i:Int) (j:Int) out last first fin ((D6.cuts l).length) (Xx (Yh (D6.ends l))) x x' acc))=Yj (Xq l) N (.to (.h3 (i:Int) (l.length:Int) out last first fin ((D6.cuts l).length) (Xx (Yh (D6.ends l))) x x' (acc++D6.inn (l.drop j) x)))
 | 0,j,acc,h,ha=>by refine ⟨0,fun N=> ?_⟩;rw [List.drop_eq_nil_of_le (by omega),show D6.inn ([]:List R6) x=[] from rfl,List.append_nil,Nat.add_zero,show j=l.length by omega]
 | k+1,j,acc,h,ha=>by
  have hj:j<l.length:=by omega
  obtain ⟨n,hn⟩:=u0n i out last first fin x x' k (j+1) (acc++D6.inn [rd l j] x) (by omega) (by have:=D6.inn_length [rd l j] x;simp only [List.length_append,List.length_singleton] at*;omega)
  refine ⟨n+1,fun N=> ?_⟩;have e:D6.inn (l.drop j) x=D6.inn [rd l j] x++D6.inn (l.drop (j+1)) x:=by rw [Yc hj,←D6.inn_append];rfl
  rw [e,←Nat.add_assoc,Zw,←List.append_assoc,←hn N];by_cases h1:D6.lo (rd l j)≤x
  ·by_cases h2:x<D6.hi (rd l j)
   ·rw [D6.inn_t _ _ h1 h2];simp only [D6] at h1 h2 ⊢;simp (disch:=omega) only [Xq,Xc,Zp,Zk,Zd,Ze,Yz,Zs,Yx,Zc,Zu,Zx,Yu,Zj,Nat.zero_add,decide_true,Bool.and_true,Bool.true_and,cond_true,cond_false]
   ·rw [D6.inn_f2 _ _ h2,List.append_nil];simp only [D6] at h1 h2;simp (disch:=omega) only [Xq,Xc,Zo,Zp,Zk,Zd,Ze,Yz,Zs,Yx,Zc,Zu,Zx,Yu,Zj,Nat.zero_add,decide_true,Bool.and_true,Bool.true_and,cond_true,cond_false]
  ·rw [D6.inn_f1 _ _ h1,List.append_nil];simp only [D6] at h1;simp (disch:=omega) only [Xq,x8i,Zp,Zk,Zd,Ze,Yz,Zs,Yx,Zc,Zu,Zx,Yu,Zj,Nat.zero_add,decide_true,Bool.and_true,Bool.true_and,cond_true,cond_false]
theorem u0m (i:Nat) (hi:i≤1000) (x x':Int) (s last:List R4) (first:Int) (inn:List R4) (hs:s.length≤1000): ∀(k j:Nat) (out:List R6),j+k=s.length→out.length≤10000000+j→
  ∃n,∀N,Yj (Xq l) (N+n) (.to (.h4 x x' s (s.length:Int) (j:Int) s (i:Int) out last first ((D6.cuts l).length) (Xx (Yh (D6.ends l))) inn))=Yj (Xq l) N (.to (.h2 ((i+1:Nat):Int) (out++(s.drop j).map (D6.put x x')) last first x' ((D6.cuts l).length) (Xx (Yh (D6.ends l)))))
 | 0,j,out,h,ho=>by have _u:=hl;refine ⟨1,fun N=> ?_⟩;rw [List.drop_eq_nil_of_le (by omega),Zw];simp (disch:=omega) only [Xq,Zo,Zu,Zx,cond_false,List.map_nil,List.append_nil]
 | k+1,j,out,h,ho=>by
  obtain ⟨n,hn⟩:=u0m i hi x x' s last first inn hs k (j+1) (out++[D6.put x x' (rd s j)]) (by omega) (by simp;omega)
  refine ⟨n+1,fun N=> ?_⟩;have:=hn N;rw [Yc (show j<s.length by omega),List.map_cons,←Nat.add_assoc,Zw];simp (disch:=omega) only [Xq,Zp,Zk,Zd,Ze,Yz,Zs,Yx,Zc,Zu,Zx,Yu,Zj,Nat.zero_add,decide_true,Bool.and_true,Bool.true_and,cond_true,cond_false];rw [List.append_assoc] at this;exact this
theorem u0l (i:Nat) (hi:i≤1000) (x x' fin:Int) (s last:List R4) (first:Int) (inn:List R4): ∀(k j:Nat) (out:List R6),j+k=out.length→out.length≤10000000→
  ∃n,∀N,Yj (Xq l) (N+n) (.to (.h5 x' (j:Int) x s (i:Int) out last first fin ((D6.cuts l).length) (Xx (Yh (D6.ends l))) inn))=Yj (Xq l) N (.to (.h2 ((i+1:Nat):Int) (D6.grow out j x') last first x' ((D6.cuts l).length) (Xx (Yh (D6.ends l)))))
 | 0,j,out,h,ho=>by have _u:=hl;refine ⟨1,fun N=> ?_⟩;rw [D6.grow_nil _ _ _ (by omega),Zw];simp (disch:=omega) only [Xq,Zo,Zu,Zx,cond_false]
 | k+1,j,out,h,ho=>by
  obtain ⟨n,hn⟩:=u0l i hi x x' fin s last first inn k (j+1) (out.set j (D6.ext x' (rd out j))) (by simp;omega) (by simpa using ho)
  refine ⟨n+1,fun N=> ?_⟩;have:=hn N;rw [D6.grow_set out j _ (by omega)] at this;rw [←Nat.add_assoc,Zw];simp (disch:=omega) only [Xq,Zp,Zk,Zd,Ze,Yz,Zs,Yx,Zc,Zu,Zx,Yu,Zj,Nat.zero_add,decide_true,Bool.and_true,Bool.true_and,cond_true,cond_false];exact this
theorem w7e : ∀(k i:Nat) (s:Sw R6 R4),k=(D6.cuts l).length - 1 - i→i≤(D6.cuts l).length →s.out.length≤i*1000→s.last.length≤1000→s.first≤s.out.length→
  ∃n,Yj (Xq l) n (.to (.h2 ((i+1:Nat):Int) s.out s.last (s.first:Int) s.fin ((D6.cuts l).length) (Xx (Yh (D6.ends l)))))=.ret ((bif okF l k i then x1z l (D6.go l k i s).out else sckErr))
 | 0,i,s,h,hi,ho,hla,hf=>by
  have hc:=D6.cuts_length l;refine ⟨1,?_⟩;rw [Zw,show D6.go l 0 i s=s from rfl,show okF l 0 i=true from rfl,cond_true];unfold x1z;by_cases q:(s.out.length:Int)>400
  ·simp (disch:=omega) only [Xq,Zo,Ye,cond_true,cond_false,Zg]
  ·have e:lst R6 s.out.length (fun k=>(Zz s.out) k)=s.out:=Zk s.out;have w:Ug s.out l=true:=decide_eq_true (by omega);have f:Qt (Zz s.out)=true:=Xw _;rcases Yv (Kp s.out l) with q2 | q2 <;>
   simp (disch:=omega) only [Xq,Zp,e,w,f,q2,Zo,Ys,Yz,Yu,Nat.zero_add,Bool.not_true,Bool.not_false,Bool.and_true,cond_true,cond_false,Zg]
 | k +1,i,s,h,hi,ho,hla,hf=>by
  have hc:=D6.cuts_length l;have hi1:i+1<(D6.cuts l).length :=by omega
  have hpl:(Xx (Yh (D6.ends l))).length =2*l.length:=by rw [Wa,Wz,D6.ends_length]
  have r0:rd (Xx (Yh (D6.ends l))) i=rd (D6.cuts l) i:=Uo _ _ (by show i<(D6.cuts l).length;omega);have r1:rd (Xx (Yh (D6.ends l))) (i+1)=rd (D6.cuts l) (i+1):=Uo _ _ (by show i+1<(D6.cuts l).length;omega);have hbig:i*1000≤1000*1000:=Nat.mul_le_mul_right _ (by omega);have hsl:=u4x l (rd (D6.cuts l) i);have hsd:D6.sec l (rd (D6.cuts l) i)=Zm (D6.inn l (rd (D6.cuts l) i)):=rfl;obtain ⟨n3,h3⟩:=u0n l hl (i+1) s.out s.last (s.first:Int) s.fin (rd (D6.cuts l) i) (rd (D6.cuts l) (i+1)) l.length 0 [] (Nat.zero_add _) (Nat.le_refl _);simp only [List.drop_zero,List.nil_append,Qv] at h3;have w1:Jz (D6.inn l (rd (D6.cuts l) i))=true:=rfl;have w2:Xg s.last (Zm (D6.inn l (rd (D6.cuts l) i)))=true:=decide_eq_true (by omega);have ol:=D6.one_length l (rd (D6.cuts l) i) (rd (D6.cuts l) (i+1)) s;have st0: ∀N,Yj (Xq l) (N+n3+1) (.to (.h2 ((i+1:Nat):Int) s.out s.last (s.first:Int) s.fin ((D6.cuts l).length) (Xx (Yh (D6.ends l)))))=Yj (Xq l) N (.to (.h3 ((i+1:Nat):Int) (l.length:Int) s.out s.last (s.first:Int) s.fin ((D6.cuts l).length) (Xx (Yh (D6.ends l))) (rd (D6.cuts l) i) (rd (D6.cuts l) (i+1)) (D6.inn l (rd (D6.cuts l) i)))):=fun N=>by
   rw [←h3 N,Zw];have e1:IntKind.wrap .i64 (((i+1:Nat):Int) - 1)=(i:Int):=by rw [Zh];exact Zu (by omega)
   simp (disch:=omega) only [Xq,e1,r0,r1,Zp,Zk,Zd,Ze,Yz,Zs,Yx,Zc,Zu,Zx,Yu,Zj,Nat.zero_add,decide_true,Bool.and_true,Bool.true_and,cond_true,cond_false]
  rcases Yv (w5s l (rd (D6.cuts l) i)) with q0 | q0
  ·refine ⟨1+n3+1,?_⟩;rw [st0 1,Zw];simp only [okF,q0,cond_true,cond_false];have q0':(Yn (D6.inn l (rd (D6.cuts l) i)) != 0)=true:=q0;simp (disch:=omega) only [Xq,Zp,Zk,Zo,q0',w1,cond_true,cond_false,Zg];rfl
  have q0':(Yn (D6.inn l (rd (D6.cuts l) i)) != 0)=false:=q0;rcases Yv (decide (0<(D6.sec l (rd (D6.cuts l) i)).length)&&((s.fin == rd (D6.cuts l) i)&&D6.same s.last (D6.sec l (rd (D6.cuts l) i)))) with q | q
  ·obtain ⟨n5,h5⟩:=u0l l hl (i+1) (by omega) (rd (D6.cuts l) i) (rd (D6.cuts l) (i+1)) s.fin (D6.sec l (rd (D6.cuts l) i)) s.last (s.first:Int) (D6.inn l (rd (D6.cuts l) i)) (s.out.length - s.first) s.first s.out (by omega) (by omega)
   have e:D6.one l (rd (D6.cuts l) i) (rd (D6.cuts l) (i+1)) s=⟨D6.grow s.out s.first (rd (D6.cuts l) (i+1)),s.last,s.first,rd (D6.cuts l) (i+1)⟩:=by unfold Dim.one;rw [q];rfl
   obtain ⟨n0,h0⟩:=w7e k (i+1) (D6.one l (rd (D6.cuts l) i) (rd (D6.cuts l) (i+1)) s) (by omega) (by omega) (by omega) (by rw [e];exact hla) (by rw [e];simpa [Dim.grow_length] using hf);refine ⟨n0+n5+1+n3+1,?_⟩;rw [st0 (n0+n5+1),Zw];simp only [Bool.and_eq_true,decide_eq_true_eq] at q;obtain ⟨q1,q2,q3⟩:=q;have q3':Vw s.last (Zm (D6.inn l (rd (D6.cuts l) i)))=true:=q3;rw [hsd] at q1;simp (disch:=omega) only [Xq,Zp,Zk,Zo,Ye,q0',q2,q3',w1,w2,cond_true,cond_false];rw [←hsd,h5 n0];simp only [okF,q0,cond_false];simp only [Dim.go];rw [e] at h0 ⊢;exact h0
  ·obtain ⟨n4,h4⟩:=u0m l hl (i+1) (by omega) (rd (D6.cuts l) i) (rd (D6.cuts l) (i+1)) (D6.sec l (rd (D6.cuts l) i)) (D6.sec l (rd (D6.cuts l) i)) (s.out.length:Int) (D6.inn l (rd (D6.cuts l) i)) hsl (D6.sec l (rd (D6.cuts l) i)).length 0 s.out (Nat.zero_add _) (by omega);simp only [List.drop_zero,Qv] at h4;have e:D6.one l (rd (D6.cuts l) i) (rd (D6.cuts l) (i+1)) s=⟨s.out++(D6.sec l (rd (D6.cuts l) i)).map (D6.put (rd (D6.cuts l) i) (rd (D6.cuts l) (i+1))),D6.sec l (rd (D6.cuts l) i),s.out.length,rd (D6.cuts l) (i+1)⟩:=by unfold Dim.one;rw [q];rfl
   obtain ⟨n0,h0⟩:=w7e k (i+1) (D6.one l (rd (D6.cuts l) i) (rd (D6.cuts l) (i+1)) s) (by omega) (by omega) (by omega) (by rw [e];exact hsl) (by rw [e];simp);have hg:Yj (Xq l) 1 (.to (.h3 ((i+1:Nat):Int) (l.length:Int) s.out s.last (s.first:Int) s.fin ((D6.cuts l).length) (Xx (Yh (D6.ends l))) (rd (D6.cuts l) i) (rd (D6.cuts l) (i+1)) (D6.inn l (rd (D6.cuts l) i))))=.to (.h4 (rd (D6.cuts l) i) (rd (D6.cuts l) (i+1)) (D6.sec l (rd (D6.cuts l) i)) ((D6.sec l (rd (D6.cuts l) i)).length :Int) 0 (D6.sec l (rd (D6.cuts l) i)) ((i+1:Nat):Int) s.out (D6.sec l (rd (D6.cuts l) i)) (s.out.length:Int) ((D6.cuts l).length) (Xx (Yh (D6.ends l))) (D6.inn l (rd (D6.cuts l) i))):=by
    rw [show (1:Nat)=0+1 from rfl,Zw];rw [hsd] at q ⊢;have e3:D6.same s.last (Zm (D6.inn l (rd (D6.cuts l) i)))=Vw s.last (Zm (D6.inn l (rd (D6.cuts l) i))):=rfl;rw [e3] at q;by_cases q1:0<(Zm (D6.inn l (rd (D6.cuts l) i))).length
    ·rw [decide_eq_true q1,Bool.true_and] at q;rcases Yv (s.fin == rd (D6.cuts l) i) with q2 | q2
     ·rw [q2,Bool.true_and] at q;simp (disch:=omega) only [Xq,Zp,Zk,Zo,Ye,q0',q2,q,w1,w2,cond_true,cond_false];rfl
     ·simp (disch:=omega) only [Xq,Zp,Zk,Zo,Ye,q0',q2,w1,w2,cond_true,cond_false];rfl
    ·simp (disch:=omega) only [Xq,Zp,Zk,Zo,Ys,q0',w1,w2,cond_true,cond_false];rfl
   refine ⟨n0+n4+1+n3+1,?_⟩;rw [st0 (n0+n4+1),z3z _ (n0+n4) 1,hg,h4 n0];simp only [okF,q0,cond_false];simp only [Dim.go];rw [e] at h0 ⊢;exact h0
theorem u0o : ∀(k i:Nat) (acc:List Int),i+k=l.length→acc=D6.ends (l.take i)→ ∃n,Yj (Xq l) n (.to (.h1 (i:Int) acc))=.ret ((bif okF l ((D6.cuts l).length - 1) 0 then x1z l (D6.go l ((D6.cuts l).length - 1) 0 ⟨[],[],0,0⟩).out else sckErr))
 | 0,i,acc,h,ha=>by
  have e:acc=D6.ends l:=by rw [ha,List.take_of_length_le (by omega)]
  subst e;have hle:=D6.ends_length l;obtain ⟨n,hn⟩:=w7e l hl ((D6.cuts l).length - 1) 0 ⟨[],[],0,0⟩ (by omega) (Nat.zero_le _) (Nat.zero_le _) (Nat.zero_le _) (Nat.zero_le _);refine ⟨n+1,?_⟩;rw [Zw];simp (disch:=omega) only [Xq,Vi,Jc,z4d,Zo,Zs,Yx,decide_true,cond_true,cond_false];exact hn
 | k+1,i,acc,h,ha=>by
  have hle:=D6.ends_length (l.take i);have fW:acc.length≤2*i:=by rw [ha,hle];simp;omega
  obtain ⟨n,hn⟩:=u0o k (i+1) (acc++D6.ends [rd l i]) (by omega) (by
   rw [ha,List.take_add_one];have:l[i]? =some (rd l i):=by rw [Yt (show i<l.length by omega)];exact List.getElem?_eq_getElem _
   rw [this,D6.ends_append];rfl)
  refine ⟨n+1,?_⟩;rw [Zw];simp (disch:=omega) only [Xq,Zp,Zk,Zd,Ze,Yz,Zs,Yx,Zc,Zu,Zx,Yu,Zj,Nat.zero_add,decide_true,Bool.and_true,Bool.true_and,cond_true,cond_false];exact hn
theorem u0p : ∀(k i:Nat),i+k=l.length→(∀s∈l.take i,Ut s=true)→ ∃n,Yj (Xq l) n (.to (.h0 (i:Int)))=.ret (bif l.all Ut then (bif okF l ((D6.cuts l).length - 1) 0 then x1z l (D6.go l ((D6.cuts l).length - 1) 0 ⟨[],[],0,0⟩).out else sckErr) else sckErr)
 | 0,i,h,ht=>by have hv:l.all Ut=true:=List.all_eq_true.2 fun s hs=>ht s (by rw [List.take_of_length_le (by omega)];exact hs);obtain ⟨n,hn⟩:=u0o l hl l.length 0 [] (Nat.zero_add _) rfl;refine ⟨n+1,?_⟩;rw [Zw,hv,cond_true];simp (disch:=omega) only [Xq,Zo,cond_false];exact hn
 | k+1,i,h,ht=>by
  have hi:i<l.length:=by omega
  have hs:Xq l (.h0 (i:Int))=bif Ut (rd l i) then .to (.h0 ((i+1:Nat):Int)) else .ret sckErr:=by have e:u5f (rd l i).a (rd l i).b (rd l i).c (rd l i).d (rd l i).e (rd l i).f =Ut (rd l i):=rfl;simp (disch:=omega) only [Xq,e,z6i,x3w,w1v,Ze,Zu,Zx,Zj,Bool.and_true,cond_true,cond_false];rfl
  rcases Yv (Ut (rd l i)) with q | q
  ·obtain ⟨n,hn⟩:=u0p k (i+1) (by omega) (fun s hs=>by
    rw [List.take_add_one] at hs;have e:l[i]? =some (rd l i):=by rw [Yt hi];exact List.getElem?_eq_getElem _
    rw [e] at hs;simp only [Option.toList_some,List.mem_append,List.mem_singleton] at hs;rcases hs with hs | rfl
    ·exact ht s hs
    ·exact q)
   refine ⟨n+1,?_⟩;rw [Zw,hs,q,cond_true];exact hn
  ·have hv:l.all Ut=false:=Bool.eq_false_iff.2 fun e=>by have:=List.all_eq_true.1 e (rd l i) (by rw [Yt hi];exact List.getElem_mem hi);rw [this] at q;cases q
   refine ⟨1,?_⟩;rw [Zw,hv,cond_false,hs,q,cond_false,Zg]
end
def Zf (l:List R6):Int:=bif decide (400<l.length) then 4 else bif l.all Ut then (bif okF l ((D6.cuts l).length - 1) 0 then (bif decide (((D6.out l).length :Int)>400) then 8 else bif Kp (D6.out l) l then 0 else 8) else 8) else 8
def w7h (l:List R6):Bool:=true
theorem u6d (l:List R6): ∃n,Yj (Xq l) n (y1m l)=.ret [.int .i64 (Zf l)]:=by
 unfold y1m Zf;by_cases h:400<l.length
 ·refine ⟨0,?_⟩;rw [decide_eq_true h,Ye (show (l.length:Int)>400 by omega)];rfl
 ·obtain ⟨n,hn⟩:=u0p l (by omega) l.length 0 (Nat.zero_add _) (fun s hs=>by simp at hs);refine ⟨n,?_⟩;rw [decide_eq_false h,Ys (show¬(l.length:Int)>400 by omega),cond_false,cond_false];rw [Qv] at hn;rw [hn];unfold sckErr x1z;cases l.all Ut <;> simp only [cond_true,cond_false];cases okF l ((D6.cuts l).length - 1) 0 <;> simp only [cond_true,cond_false];show Xe.ret (bif decide (((D6.out l).length :Int)>400) then _ else bif Kp (D6.out l) l then _ else _)=_;cases decide (((D6.out l).length :Int)>400) <;> simp only [cond_true,cond_false];cases Kp (D6.out l) l <;> rfl
def fSck :List AVal→Option (AVal×Bool)
 | [a1]=>match asL R6 a1 with
  | some (L1,g1,n1)=>some (.int .i64 (Zf L1),isT R6 n1 g1&&w7h L1)
  | _=>none
 | _=>none
theorem u9n {S:Specs} (hS:Zq prog S):Zq prog (S.with x2y fSck):=by
 refine z3b hS (by kernel_rfl) fun args v h=> ?_;unfold fSck at h;split at h
 ·rename_i a1;split at h
  ·rename_i L1 g1 n1 e1;simp only [Option.some.injEq,Prod.mk.injEq,Bool.and_eq_true] at h;obtain ⟨rfl,ho1,hw⟩:=h;obtain ⟨N,hN⟩:=u6d L1;exact ⟨_,_,(.cons (asL_le e1 ho1) .nil),rfl,v4d L1 N _ hN,3,rfl⟩
  ·cases h
 ·cases h
def T8 :Specs:=T7v.with x2y fSck
theorem z0h :Zq prog T8:=u9n Vf
end Go.Am
namespace Go.Am
open Go.Proofs.Tryz
open Go.Proofs
inductive rchkS where
 | h0 (v3:Int)
def u7k (l0:List R6):rchkS→Cfg
 | .h0 v3=>⟨⟨34,0,true⟩,none,(Zb prog 64 [1,1,0,1,0,0] 0),none,(Zy prog 15),⟨Yq [(0,(.dat l0.length (Zz l0))),(3,(ii v3))],Uv [] 0,0,[],true⟩,[],.leaf⟩
def u1w :List (Option (List Nat)):=[some [0,3]]
def u1x :List (Option (List Nat)):=[]
def z0o (l0:List R6):rchkS→Xe rchkS
 | .h0 v3=>(bif (decide (v3<(l0.length:Int))) then (bif ((decide (0≤v3∧v3<(l0.length:Int)))&&true) then (bif (decide ((rd l0 v3.toNat).a ≥(-1000000))) then (bif (decide ((rd l0 v3.toNat).b ≥(-1000000))) then (bif (decide ((rd l0 v3.toNat).c ≥(-1000000))) then (bif (decide ((rd l0 v3.toNat).a ≤1000000)) then (bif (decide ((rd l0 v3.toNat).b ≤1000000)) then (bif (decide ((rd l0 v3.toNat).c ≤1000000)) then (bif (decide ((rd l0 v3.toNat).d ≥(-1000000))) then (bif (decide ((rd l0 v3.toNat).e ≥(-1000000))) then (bif (decide ((rd l0 v3.toNat).f ≥(-1000000))) then (bif (decide ((rd l0 v3.toNat).d ≤1000000)) then (bif (decide ((rd l0 v3.toNat).e ≤1000000)) then (bif (decide ((rd l0 v3.toNat).f ≤1000000)) then (bif (decide ((rd l0 v3.toNat).a <(rd l0 v3.toNat).d)) then (bif (decide ((rd l0 v3.toNat).b <(rd l0 v3.toNat).e)) then (bif (!(decide ((rd l0 v3.toNat).c <(rd l0 v3.toNat).f))) then (.ret [(.int .i64 8)]) else (.to (.h0 (IntKind.wrap .i64 (v3+1))))) else (.ret [(.int .i64 8)])) else (.ret [(.int .i64 8)])) else (.ret [(.int .i64 8)])) else (.ret [(.int .i64 8)])) else (.ret [(.int .i64 8)])) else (.ret [(.int .i64 8)])) else (.ret [(.int .i64 8)])) else (.ret [(.int .i64 8)])) else (.ret [(.int .i64 8)])) else (.ret [(.int .i64 8)])) else (.ret [(.int .i64 8)])) else (.ret [(.int .i64 8)])) else (.ret [(.int .i64 8)])) else (.ret [(.int .i64 8)])) else .stuck) else (bif (y2b 2 (cvT l0) ([]:List R6)) then (bif (!(x3i 2 (cvT l0) ([]:List R6))) then (.ret [(.int .i64 8)]) else (bif (Ug (cvT (z6d 2 (cvT l0) ([]:List R6))) (cvT l0)) then (bif (!(Kp (cvT (z6d 2 (cvT l0) ([]:List R6))) (cvT l0))) then (.ret [(.int .i64 8)]) else (.ret [(.int .i64 0)])) else .stuck)) else .stuck))
def z7g (l0:List R6):Xe rchkS:=(bif (decide ((l0.length:Int)>400)) then (.ret [(.int .i64 4)]) else (.to (.h0 0)))
theorem x6n (l0:List R6): ∀s,Xr prog (Zy prog 64) (u7k l0) (u7k l0 s) (z0o l0 s)
 | .h0 v3=>(lb (fun k0=>(lo fun aJ=>(lb (fun k1=>(lb (fun k2=>(lb (fun k3=>(lb (fun k4=>(lb (fun k5=>(lb (fun k6=>(lb (fun k7=>(lb (fun k8=>(lb (fun k9=>(lb (fun k10=>(lb (fun k11=>(lb (fun k12=>(lb (fun k13=>(lb (fun k14=>(lb (fun k15=>(lr 34 64 [1,1,0,1,0,0,1,0,0,1,0,0] 1 15 [(2,(ii 8))] (sl z0h 158 [] ⟨[],[],[some [2]],[]⟩ ⟨[],[],[]⟩ (trs 60 []) (tt k15 (tt k14 (tt k13 (tt k12 (tt k11 (tt k10 (tt k9 (tt k8 (tt k7 (tt k6 (tt k5 (tt k4 (tt k3 (tt k2 (tt k1 (ww aJ (tt k0 nn)))))))))))))))))))) (fun k15=>(sl z0h 162 [] ⟨[],[],u1w,u1x⟩ ⟨[],[],[]⟩ (trs 59 [false]) (tt k15 (tt k14 (tt k13 (tt k12 (tt k11 (tt k10 (tt k9 (tt k8 (tt k7 (tt k6 (tt k5 (tt k4 (tt k3 (tt k2 (tt k1 (ww aJ (tt k0 nn))))))))))))))))))))) (fun k14=>(lr 34 64 [1,1,0,1,0,0,1,0,0,1,0,0] 1 15 [(2,(ii 8))] (sl z0h 158 [] ⟨[],[],[some [2]],[]⟩ ⟨[],[],[]⟩ (trs 52 (bl 8 128)) (tt k14 (tt k13 (tt k12 (tt k11 (tt k10 (tt k9 (tt k8 (tt k7 (tt k6 (tt k5 (tt k4 (tt k3 (tt k2 (tt k1 (ww aJ (tt k0 nn))))))))))))))))))))) (fun k13=>(lr 34 64 [1,1,0,1,0,0,1,0,0,1,0,0] 1 15 [(2,(ii 8))] (sl z0h 158 [] ⟨[],[],[some [2]],[]⟩ ⟨[],[],[]⟩ (trs 45 (bl 15 16384)) (tt k13 (tt k12 (tt k11 (tt k10 (tt k9 (tt k8 (tt k7 (tt k6 (tt k5 (tt k4 (tt k3 (tt k2 (tt k1 (ww aJ (tt k0 nn)))))))))))))))))))) (fun k12=>(lr 34 64 [1,1,0,1,0,0,1,0,0,1,0,0] 1 15 [(2,(ii 8))] (sl z0h 158 [] ⟨[],[],[some [2]],[]⟩ ⟨[],[],[]⟩ (trs 38 (bl 22 2097152)) (tt k12 (tt k11 (tt k10 (tt k9 (tt k8 (tt k7 (tt k6 (tt k5 (tt k4 (tt k3 (tt k2 (tt k1 (ww aJ (tt k0 nn))))))))))))))))))) (fun k11=>(lr 34 64 [1,1,0,1,0,0,1,0,0,1,0,0] 1 15 [(2,(ii 8))] (sl z0h 158 [] ⟨[],[],[some [2]],[]⟩ ⟨[],[],[]⟩ (trs 35 (bl 25 16777216)) (tt k11 (tt k10 (tt k9 (tt k8 (tt k7 (tt k6 (tt k5 (tt k4 (tt k3 (tt k2 (tt k1 (ww aJ (tt k0 nn)))))))))))))))))) (fun k10=>(lr 34 64 [1,1,0,1,0,0,1,0,0,1,0,0] 1 15 [(2,(ii 8))] (sl z0h 158 [] ⟨[],[],[some [2]],[]⟩ ⟨[],[],[]⟩ (trs 32 (bl 28 134217728)) (tt k10 (tt k9 (tt k8 (tt k7 (tt k6 (tt k5 (tt k4 (tt k3 (tt k2 (tt k1 (ww aJ (tt k0 nn))))))))))))))))) (fun k9=>(lr 34 64 [1,1,0,1,0,0,1,0,0,1,0,0] 1 15 [(2,(ii 8))] (sl z0h 158 [] ⟨[],[],[some [2]],[]⟩ ⟨[],[],[]⟩ (trs 29 (bl 31 1073741824)) (tt k9 (tt k8 (tt k7 (tt k6 (tt k5 (tt k4 (tt k3 (tt k2 (tt k1 (ww aJ (tt k0 nn)))))))))))))))) (fun k8=>(lr 34 64 [1,1,0,1,0,0,1,0,0,1,0,0] 1 15 [(2,(ii 8))] (sl z0h 158 [] ⟨[],[],[some [2]],[]⟩ ⟨[],[],[]⟩ (trs 25 (bl 35 17179869184)) (tt k8 (tt k7 (tt k6 (tt k5 (tt k4 (tt k3 (tt k2 (tt k1 (ww aJ (tt k0 nn))))))))))))))) (fun k7=>(lr 34 64 [1,1,0,1,0,0,1,0,0,1,0,0] 1 15 [(2,(ii 8))] (sl z0h 158 [] ⟨[],[],[some [2]],[]⟩ ⟨[],[],[]⟩ (trs 21 (bl 39 274877906944)) (tt k7 (tt k6 (tt k5 (tt k4 (tt k3 (tt k2 (tt k1 (ww aJ (tt k0 nn)))))))))))))) (fun k6=>(lr 34 64 [1,1,0,1,0,0,1,0,0,1,0,0] 1 15 [(2,(ii 8))] (sl z0h 117 [] ⟨[],[],[some [2]],[]⟩ ⟨[],[],[]⟩ (trs 18 (bl 25 16777216)) (tt k6 (tt k5 (tt k4 (tt k3 (tt k2 (tt k1 (ww aJ (tt k0 nn))))))))))))) (fun k5=>(lr 34 64 [1,1,0,1,0,0,1,0,0,1,0,0] 1 15 [(2,(ii 8))] (sl z0h 117 [] ⟨[],[],[some [2]],[]⟩ ⟨[],[],[]⟩ (trs 15 (bl 28 134217728)) (tt k5 (tt k4 (tt k3 (tt k2 (tt k1 (ww aJ (tt k0 nn)))))))))))) (fun k4=>(lr 34 64 [1,1,0,1,0,0,1,0,0,1,0,0] 1 15 [(2,(ii 8))] (sl z0h 117 [] ⟨[],[],[some [2]],[]⟩ ⟨[],[],[]⟩ (trs 12 (bl 31 1073741824)) (tt k4 (tt k3 (tt k2 (tt k1 (ww aJ (tt k0 nn))))))))))) (fun k3=>(lr 34 64 [1,1,0,1,0,0,1,0,0,1,0,0] 1 15 [(2,(ii 8))] (sl z0h 117 [] ⟨[],[],[some [2]],[]⟩ ⟨[],[],[]⟩ (trs 9 (bl 34 8589934592)) (tt k3 (tt k2 (tt k1 (ww aJ (tt k0 nn)))))))))) (fun k2=>(lr 34 64 [1,1,0,1,0,0,1,0,0,1,0,0] 1 15 [(2,(ii 8))] (sl z0h 117 [] ⟨[],[],[some [2]],[]⟩ ⟨[],[],[]⟩ (trs 5 (bl 38 137438953472)) (tt k2 (tt k1 (ww aJ (tt k0 nn))))))))) (fun k1=>(lr 34 64 [1,1,0,1,0,0,1,0,0,1,0,0] 1 15 [(2,(ii 8))] (sl z0h 117 [] ⟨[],[],[some [2]],[]⟩ ⟨[],[],[]⟩ (bl 43 4398046511105) (tt k1 (ww aJ (tt k0 nn))))))))) (fun k0=>(lo fun aJ=>(lb (fun k1=>(lr 34 64 [1,1,1,1,0,1,0,0] 1 15 [(2,(ii 8))] (sl z0h 37 [] ⟨[],[],[some [2]],[]⟩ ⟨[],[],[]⟩ (bl 6 62) (tt k1 (pp (pp (xr l0) (pp (xI R6 0 (fun _=>[])) (xw aJ))) (tt k0 nn)))))) (fun k1=>(lo fun cK=>(lb (fun k2=>(lr 34 64 [1,1,1,1,0,1,0,0] 1 15 [(2,(ii 8))] (sl z0h 37 [] ⟨[],[],[some [2]],[]⟩ ⟨[],[],[]⟩ (bl 6 32) (tt k2 (pp (pp (xI R6 (z6d 2 (cvT l0) ([]:List R6)).length (Zz (z6d 2 (cvT l0) ([]:List R6)))) (pp (xr l0) (xw cK))) (tt k1 (pp (pp (xr l0) (pp (xI R6 0 (fun _=>[])) (xw aJ))) (tt k0 nn)))))))) (fun k2=>(lr 34 3 [1,1,1,1,1,1,0] 1 15 [(2,(ii 0))] (sl z0h 38 [] ⟨[],[],[some [2]],[]⟩ ⟨[],[],[]⟩ (bl 6 0) (tt k2 (pp (pp (xI R6 (z6d 2 (cvT l0) ([]:List R6)).length (Zz (z6d 2 (cvT l0) ([]:List R6)))) (pp (xr l0) (xw cK))) (tt k1 (pp (pp (xr l0) (pp (xI R6 0 (fun _=>[])) (xw aJ))) (tt k0 nn)))))))))))))))
theorem x2l (l0:List R6):Xr prog (Zy prog 64) (u7k l0) (Zi prog 64 [(.dat l0.length (Zz l0))] true []) (z7g l0):=(lb (fun k0=>(lr 34 64 [1,0,1,0,0] 1 15 [(2,(ii 4))] (sl z0h 16 [] ⟨[],[],[some [2]],[]⟩ ⟨[],[],[]⟩ [true] (tt k0 nn)))) (fun k0=>(sl z0h 20 [] ⟨[],[],u1w,u1x⟩ ⟨[],[],[]⟩ [false] (tt k0 nn))))
theorem w8z (l0:List R6) (n:Nat) (vs:List AVal) (h:Yj (z0o l0) n (z7g l0)=.ret vs):Kg prog (Zy prog 64) (Zi prog 64 [(.dat l0.length (Zz l0))] true []) vs:=by have:=Yw (x6n l0) n _ (x2l l0);rwa [h] at this
end Go.Am
namespace Go.Am
open Go.Proofs.Tryz
open Go.Proofs
def x9m (r:R6):Bool:=decide (r.a≥ -1000000)&&(decide (r.b≥ -1000000)&&(decide (r.c≥ -1000000)&&(decide (r.a≤1000000)&&(decide (r.b≤1000000)&&(decide (r.c≤1000000)&&(decide (r.d≥ -1000000)&&(decide (r.e≥ -1000000)&&(decide (r.f≥ -1000000)&&(decide (r.d≤1000000)&&(decide (r.e≤1000000)&&(decide (r.f≤1000000)&&(decide (r.a<r.d)&&(decide (r.b<r.e)&&decide (r.c<r.f))))))))))))))
def rckF (l:List R6):Int:=bif x3i 2 l [] then (bif Kp (z6d 2 l []) l then 0 else 8) else 8
def z7f (l:List R6):Int:=bif decide (400<l.length) then 4 else bif l.all x9m then rckF l else 8
def w8x (l:List R6):Bool:=true
theorem w4d (k:Int) (l m:List R6):(z6d k l m).length ≤400∨x3i k l m=false:=by
 unfold z6d x3i;cases jsO k l m with
 | none=>exact .inl (Nat.zero_le _)
 | some out=>
  by_cases h:(out.length:Int)≤400
  ·left;show out.length≤400;omega
  ·right;exact decide_eq_false h
section
variable (l:List R6) (hl:l.length≤400)
include hl
theorem w8y : ∀(k i:Nat),i+k=l.length→(∀s∈l.take i,x9m s=true)→ ∃n,Yj (z0o l) n (.to (.h0 (i:Int)))=.ret [.int .i64 (bif l.all x9m then rckF l else 8)]
 | 0,i,h,ht=>by
  have hv:l.all x9m=true:=List.all_eq_true.2 fun s hs=>ht s (by rw [List.take_of_length_le (by omega)];exact hs);have w1:y2b 2 l []=true:=decide_eq_true ⟨by omega,by simp⟩;refine ⟨1,?_⟩;rw [Zw,hv,cond_true];unfold rckF;rcases Yv (x3i 2 l []) with q | q
  ·have w2:Ug (z6d 2 l []) l=true:=decide_eq_true (by
    rcases w4d 2 l [] with h | h
    ·omega
    ·rw [h] at q;cases q)
   rcases Yv (Kp (z6d 2 l []) l) with q2 | q2 <;>
   simp (disch:=omega) only [z0o,Zp,Zo,q,q2,w1,w2,Bool.not_true,Bool.not_false,cond_true,cond_false,Zg]
  ·simp (disch:=omega) only [z0o,Zp,Zo,q,w1,Bool.not_true,Bool.not_false,cond_true,cond_false,Zg]
 | k+1,i,h,ht=>by
  have hi:i<l.length:=by omega
  have hs:z0o l (.h0 (i:Int))=bif x9m (rd l i) then .to (.h0 ((i+1:Nat):Int)) else .ret [.int .i64 8]:=by simp (disch:=omega) only [z0o,x9m,y5f,z6i,x3w,Ze,Zu,Zx,Zj,Bool.and_true,cond_true,cond_false]
  rcases Yv (x9m (rd l i)) with q | q
  ·obtain ⟨n,hn⟩:=w8y k (i+1) (by omega) (fun s hs=>by
    rw [List.take_add_one] at hs;have e:l[i]? =some (rd l i):=by rw [Yt hi];exact List.getElem?_eq_getElem _
    rw [e] at hs;simp only [Option.toList_some,List.mem_append,List.mem_singleton] at hs;rcases hs with hs | rfl
    ·exact ht s hs
    ·exact q)
   refine ⟨n+1,?_⟩;rw [Zw,hs,q,cond_true];exact hn
  ·have hv:l.all x9m=false:=Bool.eq_false_iff.2 fun e=>by have:=List.all_eq_true.1 e (rd l i) (by rw [Yt hi];exact List.getElem_mem hi);rw [this] at q;cases q
   refine ⟨1,?_⟩;rw [Zw,hv,cond_false,hs,q,cond_false,Zg]
end
theorem v5j (l:List R6): ∃n,Yj (z0o l) n (z7g l)=.ret [.int .i64 (z7f l)]:=by
 unfold z7g z7f;by_cases h:400<l.length
 ·refine ⟨0,?_⟩;rw [decide_eq_true h,Ye (show (l.length:Int)>400 by omega)];rfl
 ·obtain ⟨n,hn⟩:=w8y l (by omega) l.length 0 (Nat.zero_add _) (fun s hs=>by simp at hs);refine ⟨n,?_⟩;rw [decide_eq_false h,Ys (show¬(l.length:Int)>400 by omega),cond_false,cond_false];exact hn
def fRck :List AVal→Option (AVal×Bool)
 | [a1]=>match asL R6 a1 with
  | some (L1,g1,n1)=>some (.int .i64 (z7f L1),isT R6 n1 g1&&w8x L1)
  | _=>none
 | _=>none
theorem u9r {S:Specs} (hS:Zq prog S):Zq prog (S.with w9y fRck):=by
 refine z3b hS (by kernel_rfl) fun args v h=> ?_;unfold fRck at h;split at h
 ·rename_i a1;split at h
  ·rename_i L1 g1 n1 e1;simp only [Option.some.injEq,Prod.mk.injEq,Bool.and_eq_true] at h;obtain ⟨rfl,ho1,hw⟩:=h;obtain ⟨N,hN⟩:=v5j L1;exact ⟨_,_,(.cons (asL_le e1 ho1) .nil),rfl,w8z L1 N _ hN,3,rfl⟩
  ·cases h
 ·cases h
def T9 :Specs:=T8.with w9y fRck
theorem z6k :Zq prog T9:=u9r z0h
end Go.Am
namespace Go.Am
open Go.Proofs
def gA (x:Int) (c B:R6):R6:=⟨Wf (IntKind.wrap .i64 (c.a - x)) B.a,Wf (IntKind.wrap .i64 (c.b - x)) B.b,Wf (IntKind.wrap .i64 (c.c - x)) B.c,Ju (IntKind.wrap .i64 (c.d+x)) B.d,Ju (IntKind.wrap .i64 (c.e+x)) B.e,Ju (IntKind.wrap .i64 (c.f+x)) B.f⟩
def z7z (r:R6):Bool:=decide (r.a≥r.d)||(decide (r.b≥r.e)||decide (r.c≥r.f))
def u4e (G B:R6):R6:=⟨B.a,B.b,B.c,G.a,B.e,B.f⟩
def u4d (G B:R6):R6:=⟨G.d,B.b,B.c,B.d,B.e,B.f⟩
def v3j (G B:R6):R6:=⟨G.a,B.b,B.c,G.d,G.b,B.f⟩
def v3i (G B:R6):R6:=⟨G.a,G.e,B.c,G.d,B.e,B.f⟩
def w5q (G B:R6):R6:=⟨G.a,G.b,B.c,G.d,G.e,G.c⟩
def w5p (G B:R6):R6:=⟨G.a,G.b,G.f,G.d,G.e,B.f⟩
def covB (x:Int):List R6→R6→Bool
 | [],_=>false
 | c::l,B=>bif z7z (gA x c B) then covB x l B else
  (z7z (u4e (gA x c B) B)||covB x l (u4e (gA x c B) B))&&((z7z (u4d (gA x c B) B)||covB x l (u4d (gA x c B) B))&&((z7z (v3j (gA x c B) B)||covB x l (v3j (gA x c B) B))&&
   ((z7z (v3i (gA x c B) B)||covB x l (v3i (gA x c B) B))&&((z7z (w5q (gA x c B) B)||covB x l (w5q (gA x c B) B))&&(z7z (w5p (gA x c B) B)||covB x l (w5p (gA x c B) B))))))
def w5r (a b c d e f:Int) (L:List R6) (x:Int):Bool:=covB x L ⟨a,b,c,d,e,f⟩
def Vt (q:Nat) (a b c d e f:Int) (L:List R6) (x:Int):Bool:=decide (L.length<q)&&decide (L.length≤100000)
def fCov (q:Nat):List AVal→Option (AVal×Bool)
 | [.agg [.int .i64 aZ,.int .i64 aX,.int .i64 aS,.int .i64 bL,.int .i64 bV,.int .i64 bN],a1,.int .i64 x2]=>match asL R6 a1 with
  | some (L1,g1,n1)=>some (.bool (w5r aZ aX aS bL bV bN L1 x2),isT R6 n1 g1&&(Vt q aZ aX aS bL bV bN L1 x2))
  | _=>none
 | _=>none
def Tcv (q:Nat):Specs:=T9.with y1y (fCov q)
theorem z5b (L:List R6) {k:Nat} (h:k≤L.length):lst R6 (L.length - k) (fun j=>(Zz L) (k+j))=L.drop k:=by rw [v6j L (by omega),List.take_of_length_le (by simp)]
end Go.Am
namespace Go.Am
open Go.Proofs.Tryz
open Go.Proofs
inductive cvdS where
 | h0 (v14:Int)
 | h1 (bK:Int) (dC:Int) (aK:Int) (aE:Int) (bZ:Int) (bT:Int) (cW:Int) (bY:Int) (bH:Int)
 | h2 (bC:Int) (aK:Int) (aE:Int) (bZ:Int) (bT:Int) (bY:Int) (bH:Int)
 | h3 (bC:Int) (bK:Int) (cA:Int) (aK:Int) (bT:Int) (bY:Int) (bH:Int)
 | h4 (bC:Int) (cB:Int) (bK:Int) (aK:Int) (bZ:Int) (bT:Int) (bH:Int)
 | h5 (bC:Int) (cB:Int) (bK:Int) (cA:Int) (dQ:Int) (aK:Int) (bH:Int)
 | h6 (bC:Int) (cB:Int) (dR:Int) (bK:Int) (cA:Int) (aK:Int)
abbrev z2w (l1:List R6) (aK:Int):=(l1.length - (tn (wr (aK+1))))
def y4y (l1:List R6):ABlk:=⟨[(.dat l1.length (Zz l1))],22,none⟩
def y8x :=(Zb prog 127 [] 0)
def u4h :=(Zb prog 95 [1,0,1,0,0,1,1,0,0,1,1,1,1,1,1,1,1,1,1,0] 1)
def u4g :=(Zb prog 95 [1,0,1,0,0,1,1,0,0,1,1,1,1,1,1,1,1,0,0] 1)
def cvdC (aZ:Int) (aX:Int) (aS:Int) (bL:Int) (bV:Int) (bN:Int) (l1:List R6) (x2:Int):cvdS→Cfg
 | .h0 v14=>⟨⟨200,0,true⟩,none,(Zb prog 95 [1,0,1,0,0] 0),none,(Zy prog 4),⟨Yq [(3,(.ptr 0 0)),(4,(.ptr 1 0)),(5,(.ptr 2 0)),(12,(.dat l1.length (Zz l1))),(13,(ii (l1.length:Int))),(14,(ii v14))],Uv [⟨[(ii aZ),(ii aX),(ii aS),(ii bL),(ii bV),(ii bN)],68,none⟩,(y4y l1),⟨[(ii x2)],3,none⟩] 0,3,[],true⟩,[],.leaf⟩
 | .h1 bK dC aK aE bZ bT cW bY bH=>⟨⟨38,0,true⟩,none,y8x,none,(Zy prog 127),⟨Yq [(0,(.agg [(ii aZ),(ii aX),(ii aS)])),(1,(.agg [(ii bK),(ii bV),(ii bN)])),(2,(.ptr 0 0)),(3,(.ptr 1 0)),(4,(.ptr 2 0))],Uv [(y4y l1),⟨[(ii aK)],3,none⟩,⟨[(ii x2)],3,none⟩,⟨[(ii aE),(ii bZ),(ii bT),(ii cW),(ii bY),(ii bH)],68,none⟩,⟨[(ii aZ),(ii aX),(ii aS)],65,none⟩,⟨[(ii bL),(ii bV),(ii bN)],65,none⟩] 0,6,[],true⟩,[⟨⟨200,0,true⟩,(Wd prog 95 [1,0,1,0,0,1,1,0,0,1,1,1,1,1,1,0,0] 10),(Zb prog 95 [1,0,1,0,0,1,1,0,0,1,1,1,1,1,1,0,0] 1),none,(Zy prog 4),Yq [(8,(.ptr 3 0)),(9,(.fn 127 [(.ptr 0 0),(.ptr 1 0),(.ptr 2 0)])),(10,(.ptr 4 0)),(11,(.ptr 5 0)),(107,(.fn 127 [(.ptr 0 0),(.ptr 1 0),(.ptr 2 0)])),(108,(.agg [(ii aZ),(ii aX),(ii aS)])),(116,(.agg [(ii dC),(ii bV),(ii bN)]))]⟩],.leaf⟩
 | .h2 bC aK aE bZ bT bY bH=>⟨⟨38,0,true⟩,none,y8x,none,(Zy prog 127),⟨Yq [(0,(.agg [(ii bC),(ii aX),(ii aS)])),(1,(.agg [(ii bL),(ii bV),(ii bN)])),(2,(.ptr 0 0)),(3,(.ptr 1 0)),(4,(.ptr 2 0))],Uv [(y4y l1),⟨[(ii aK)],3,none⟩,⟨[(ii x2)],3,none⟩,⟨[(ii aE),(ii bZ),(ii bT),(ii bC),(ii bY),(ii bH)],68,none⟩,⟨[(ii aZ),(ii aX),(ii aS)],65,none⟩,⟨[(ii bL),(ii bV),(ii bN)],65,none⟩] 0,6,[],true⟩,[⟨⟨200,0,true⟩,(Wd prog 95 [1,0,1,0,0,1,1,0,0,1,1,1,1,1,1,0,0] 23),(Zb prog 95 [1,0,1,0,0,1,1,0,0,1,1,1,1,1,1,0,0] 1),none,(Zy prog 4),Yq [(8,(.ptr 3 0)),(9,(.fn 127 [(.ptr 0 0),(.ptr 1 0),(.ptr 2 0)])),(10,(.ptr 4 0)),(11,(.ptr 5 0)),(119,(.bool false)),(120,(.fn 127 [(.ptr 0 0),(.ptr 1 0),(.ptr 2 0)])),(128,(.agg [(ii bC),(ii aX),(ii aS)])),(129,(.agg [(ii bL),(ii bV),(ii bN)]))]⟩],.leaf⟩
 | .h3 bC bK cA aK bT bY bH=>⟨⟨38,0,true⟩,none,y8x,none,(Zy prog 127),⟨Yq [(0,(.agg [(ii bC),(ii aX),(ii aS)])),(1,(.agg [(ii bK),(ii cA),(ii bN)])),(2,(.ptr 0 0)),(3,(.ptr 1 0)),(4,(.ptr 2 0))],Uv [(y4y l1),⟨[(ii aK)],3,none⟩,⟨[(ii x2)],3,none⟩,⟨[(ii bC),(ii cA),(ii bT),(ii bK),(ii bY),(ii bH)],68,none⟩,⟨[(ii bC),(ii aX),(ii aS)],65,none⟩,⟨[(ii bK),(ii bV),(ii bN)],65,none⟩] 0,6,[],true⟩,[⟨⟨200,0,true⟩,(Wd prog 95 [1,0,1,0,0,1,1,0,0,1,1,1,1,1,1,1,1,0,0] 10),u4g,none,(Zy prog 4),Yq [(8,(.ptr 3 0)),(9,(.fn 127 [(.ptr 0 0),(.ptr 1 0),(.ptr 2 0)])),(10,(.ptr 4 0)),(11,(.ptr 5 0)),(141,(.fn 127 [(.ptr 0 0),(.ptr 1 0),(.ptr 2 0)])),(142,(.agg [(ii bC),(ii aX),(ii aS)])),(150,(.agg [(ii bK),(ii cA),(ii bN)]))]⟩],.leaf⟩
 | .h4 bC cB bK aK bZ bT bH=>⟨⟨38,0,true⟩,none,y8x,none,(Zy prog 127),⟨Yq [(0,(.agg [(ii bC),(ii cB),(ii aS)])),(1,(.agg [(ii bK),(ii bV),(ii bN)])),(2,(.ptr 0 0)),(3,(.ptr 1 0)),(4,(.ptr 2 0))],Uv [(y4y l1),⟨[(ii aK)],3,none⟩,⟨[(ii x2)],3,none⟩,⟨[(ii bC),(ii bZ),(ii bT),(ii bK),(ii cB),(ii bH)],68,none⟩,⟨[(ii bC),(ii aX),(ii aS)],65,none⟩,⟨[(ii bK),(ii bV),(ii bN)],65,none⟩] 0,6,[],true⟩,[⟨⟨200,0,true⟩,(Wd prog 95 [1,0,1,0,0,1,1,0,0,1,1,1,1,1,1,1,1,0,0] 23),u4g,none,(Zy prog 4),Yq [(8,(.ptr 3 0)),(9,(.fn 127 [(.ptr 0 0),(.ptr 1 0),(.ptr 2 0)])),(10,(.ptr 4 0)),(11,(.ptr 5 0)),(153,(.bool false)),(154,(.fn 127 [(.ptr 0 0),(.ptr 1 0),(.ptr 2 0)])),(162,(.agg [(ii bC),(ii cB),(ii aS)])),(163,(.agg [(ii bK),(ii bV),(ii bN)]))]⟩],.leaf⟩
 | .h5 bC cB bK cA dQ aK bH=>⟨⟨38,0,true⟩,none,y8x,none,(Zy prog 127),⟨Yq [(0,(.agg [(ii bC),(ii cB),(ii aS)])),(1,(.agg [(ii bK),(ii cA),(ii dQ)])),(2,(.ptr 0 0)),(3,(.ptr 1 0)),(4,(.ptr 2 0))],Uv [(y4y l1),⟨[(ii aK)],3,none⟩,⟨[(ii x2)],3,none⟩,⟨[(ii bC),(ii cB),(ii dQ),(ii bK),(ii cA),(ii bH)],68,none⟩,⟨[(ii bC),(ii cB),(ii aS)],65,none⟩,⟨[(ii bK),(ii cA),(ii bN)],65,none⟩] 0,6,[],true⟩,[⟨⟨200,0,true⟩,(Wd prog 95 [1,0,1,0,0,1,1,0,0,1,1,1,1,1,1,1,1,1,1,0] 10),u4h,none,(Zy prog 4),Yq [(8,(.ptr 3 0)),(9,(.fn 127 [(.ptr 0 0),(.ptr 1 0),(.ptr 2 0)])),(10,(.ptr 4 0)),(11,(.ptr 5 0)),(175,(.fn 127 [(.ptr 0 0),(.ptr 1 0),(.ptr 2 0)])),(176,(.agg [(ii bC),(ii cB),(ii aS)])),(184,(.agg [(ii bK),(ii cA),(ii dQ)]))]⟩],.leaf⟩
 | .h6 bC cB dR bK cA aK=>⟨⟨38,0,true⟩,none,y8x,none,(Zy prog 127),⟨Yq [(0,(.agg [(ii bC),(ii cB),(ii dR)])),(1,(.agg [(ii bK),(ii cA),(ii bN)])),(2,(.ptr 0 0)),(3,(.ptr 1 0)),(4,(.ptr 2 0))],Uv [(y4y l1),⟨[(ii aK)],3,none⟩,⟨[(ii x2)],3,none⟩] 0,3,[],true⟩,[⟨⟨200,0,true⟩,(Wd prog 95 [1,0,1,0,0,1,1,0,0,1,1,1,1,1,1,1,1,1,1,0] 22),u4h,none,(Zy prog 4),Yq [(186,(.bool true)),(187,(.fn 127 [(.ptr 0 0),(.ptr 1 0),(.ptr 2 0)])),(195,(.agg [(ii bC),(ii cB),(ii dR)])),(196,(.agg [(ii bK),(ii cA),(ii bN)]))]⟩],.leaf⟩
def v8q :List (Option (List Nat)):=[some [3,4,5,12,13,14]]
def v8w :List (Option (List Nat)):=[]
def cvdN1 :List (Option (List Nat)):=[some [0,1,2,3,4],some [8,9,10,11,107,108,116]]
def cvdM1 :List (Option (List Nat)):=[]
def v8p :List (Option (List Nat)):=[some [0,1,2,3,4],some [8,9,10,11,119,120,128,129]]
def v8v :List (Option (List Nat)):=[]
def v8o :List (Option (List Nat)):=[some [0,1,2,3,4],some [8,9,10,11,141,142,150]]
def v8u :List (Option (List Nat)):=[]
def v8n :List (Option (List Nat)):=[some [0,1,2,3,4],some [8,9,10,11,153,154,162,163]]
def v8t :List (Option (List Nat)):=[]
def v8m :List (Option (List Nat)):=[some [0,1,2,3,4],some [8,9,10,11,175,176,184]]
def v8s :List (Option (List Nat)):=[]
def v8l :List (Option (List Nat)):=[some [0,1,2,3,4],some [186,187,195,196]]
def v8r :List (Option (List Nat)):=[]
def Vx (q:Nat) (aZ:Int) (aX:Int) (aS:Int) (bL:Int) (bV:Int) (bN:Int) (l1:List R6) (x2:Int):cvdS→Xe cvdS
 | .h0 v14=>(bif (decide (v14<(l1.length:Int))) then (bif ((decide (0≤v14∧v14<(l1.length:Int)))&&true) then (bif (decide ((Wf (IntKind.wrap .i64 ((rd l1 v14.toNat).a - x2)) aZ)≥(Ju (IntKind.wrap .i64 ((rd l1 v14.toNat).d +x2)) bL))) then (.to (.h0 (IntKind.wrap .i64 (v14+1)))) else (bif (decide ((Wf (IntKind.wrap .i64 ((rd l1 v14.toNat).b - x2)) aX)≥(Ju (IntKind.wrap .i64 ((rd l1 v14.toNat).e +x2)) bV))) then (.to (.h0 (IntKind.wrap .i64 (v14+1)))) else (bif (decide ((Wf (IntKind.wrap .i64 ((rd l1 v14.toNat).c - x2)) aS)≥(Ju (IntKind.wrap .i64 ((rd l1 v14.toNat).f +x2)) bN))) then (.to (.h0 (IntKind.wrap .i64 (v14+1)))) else (.to (.h1 (Wf (IntKind.wrap .i64 ((rd l1 v14.toNat).a - x2)) aZ) (Wf (IntKind.wrap .i64 ((rd l1 v14.toNat).a - x2)) aZ) v14 (Wf (IntKind.wrap .i64 ((rd l1 v14.toNat).a - x2)) aZ) (Wf (IntKind.wrap .i64 ((rd l1 v14.toNat).b - x2)) aX) (Wf (IntKind.wrap .i64 ((rd l1 v14.toNat).c - x2)) aS) (Ju (IntKind.wrap .i64 ((rd l1 v14.toNat).d +x2)) bL) (Ju (IntKind.wrap .i64 ((rd l1 v14.toNat).e +x2)) bV) (Ju (IntKind.wrap .i64 ((rd l1 v14.toNat).f +x2)) bN)))))) else .stuck) else (.ret [(.bool false)]))
 | .h1 bK dC aK aE bZ bT cW bY bH=>(bif (decide (aZ≥bK)) then (.to (.h2 cW aK aE bZ bT bY bH)) else (bif (decide (aX≥bV)) then (.to (.h2 cW aK aE bZ bT bY bH)) else (bif (decide (aS≥bN)) then (.to (.h2 cW aK aE bZ bT bY bH)) else (bif (decide ((Int.toNat (IntKind.wrap .i64 (aK+1)))≤l1.length)) then (bif (decide (l1.length≤l1.length)) then (bif (decide (0≤(IntKind.wrap .i64 (aK+1)))) then (bif (Vt q aZ aX aS bK bV bN (lst R6 (l1.length - (Int.toNat (IntKind.wrap .i64 (aK+1)))) (fun k=>(Zz l1) ((Int.toNat (IntKind.wrap .i64 (aK+1)))+k))) x2) then (bif (!(w5r aZ aX aS bK bV bN (lst R6 (l1.length - (Int.toNat (IntKind.wrap .i64 (aK+1)))) (fun k=>(Zz l1) ((Int.toNat (IntKind.wrap .i64 (aK+1)))+k))) x2)) then (.ret [(.bool false)]) else (.to (.h2 cW aK aE bZ bT bY bH))) else .stuck) else .stuck) else .stuck) else .stuck))))
 | .h2 bC aK aE bZ bT bY bH=>(bif (decide (bC≥bL)) then (.to (.h3 aE bC bZ aK bT bY bH)) else (bif (decide (aX≥bV)) then (.to (.h3 aE bC bZ aK bT bY bH)) else (bif (decide (aS≥bN)) then (.to (.h3 aE bC bZ aK bT bY bH)) else (bif (decide ((Int.toNat (IntKind.wrap .i64 (aK+1)))≤l1.length)) then (bif (decide (l1.length≤l1.length)) then (bif (decide (0≤(IntKind.wrap .i64 (aK+1)))) then (bif (Vt q bC aX aS bL bV bN (lst R6 (l1.length - (Int.toNat (IntKind.wrap .i64 (aK+1)))) (fun k=>(Zz l1) ((Int.toNat (IntKind.wrap .i64 (aK+1)))+k))) x2) then (bif (!(w5r bC aX aS bL bV bN (lst R6 (l1.length - (Int.toNat (IntKind.wrap .i64 (aK+1)))) (fun k=>(Zz l1) ((Int.toNat (IntKind.wrap .i64 (aK+1)))+k))) x2)) then (.ret [(.bool false)]) else (.to (.h3 aE bC bZ aK bT bY bH))) else .stuck) else .stuck) else .stuck) else .stuck))))
 | .h3 bC bK cA aK bT bY bH=>(bif (decide (bC≥bK)) then (.to (.h4 bC bY bK aK cA bT bH)) else (bif (decide (aX≥cA)) then (.to (.h4 bC bY bK aK cA bT bH)) else (bif (decide (aS≥bN)) then (.to (.h4 bC bY bK aK cA bT bH)) else (bif (decide ((Int.toNat (IntKind.wrap .i64 (aK+1)))≤l1.length)) then (bif (decide (l1.length≤l1.length)) then (bif (decide (0≤(IntKind.wrap .i64 (aK+1)))) then (bif (Vt q bC aX aS bK cA bN (lst R6 (l1.length - (Int.toNat (IntKind.wrap .i64 (aK+1)))) (fun k=>(Zz l1) ((Int.toNat (IntKind.wrap .i64 (aK+1)))+k))) x2) then (bif (!(w5r bC aX aS bK cA bN (lst R6 (l1.length - (Int.toNat (IntKind.wrap .i64 (aK+1)))) (fun k=>(Zz l1) ((Int.toNat (IntKind.wrap .i64 (aK+1)))+k))) x2)) then (.ret [(.bool false)]) else (.to (.h4 bC bY bK aK cA bT bH))) else .stuck) else .stuck) else .stuck) else .stuck))))
 | .h4 bC cB bK aK bZ bT bH=>(bif (decide (bC≥bK)) then (.to (.h5 bC bZ bK cB bT aK bH)) else (bif (decide (cB≥bV)) then (.to (.h5 bC bZ bK cB bT aK bH)) else (bif (decide (aS≥bN)) then (.to (.h5 bC bZ bK cB bT aK bH)) else (bif (decide ((Int.toNat (IntKind.wrap .i64 (aK+1)))≤l1.length)) then (bif (decide (l1.length≤l1.length)) then (bif (decide (0≤(IntKind.wrap .i64 (aK+1)))) then (bif (Vt q bC cB aS bK bV bN (lst R6 (l1.length - (Int.toNat (IntKind.wrap .i64 (aK+1)))) (fun k=>(Zz l1) ((Int.toNat (IntKind.wrap .i64 (aK+1)))+k))) x2) then (bif (!(w5r bC cB aS bK bV bN (lst R6 (l1.length - (Int.toNat (IntKind.wrap .i64 (aK+1)))) (fun k=>(Zz l1) ((Int.toNat (IntKind.wrap .i64 (aK+1)))+k))) x2)) then (.ret [(.bool false)]) else (.to (.h5 bC bZ bK cB bT aK bH))) else .stuck) else .stuck) else .stuck) else .stuck))))
 | .h5 bC cB bK cA dQ aK bH=>(bif (decide (bC≥bK)) then (.to (.h6 bC cB bH bK cA aK)) else (bif (decide (cB≥cA)) then (.to (.h6 bC cB bH bK cA aK)) else (bif (decide (aS≥dQ)) then (.to (.h6 bC cB bH bK cA aK)) else (bif (decide ((Int.toNat (IntKind.wrap .i64 (aK+1)))≤l1.length)) then (bif (decide (l1.length≤l1.length)) then (bif (decide (0≤(IntKind.wrap .i64 (aK+1)))) then (bif (Vt q bC cB aS bK cA dQ (lst R6 (l1.length - (Int.toNat (IntKind.wrap .i64 (aK+1)))) (fun k=>(Zz l1) ((Int.toNat (IntKind.wrap .i64 (aK+1)))+k))) x2) then (bif (w5r bC cB aS bK cA dQ (lst R6 (l1.length - (Int.toNat (IntKind.wrap .i64 (aK+1)))) (fun k=>(Zz l1) ((Int.toNat (IntKind.wrap .i64 (aK+1)))+k))) x2) then (.to (.h6 bC cB bH bK cA aK)) else (.ret [(.bool false)])) else .stuck) else .stuck) else .stuck) else .stuck))))
 | .h6 bC cB dR bK cA aK=>(bif (decide (bC≥bK)) then (.ret [(.bool true)]) else (bif (decide (cB≥cA)) then (.ret [(.bool true)]) else (bif (decide (dR≥bN)) then (.ret [(.bool true)]) else (bif (decide ((Int.toNat (IntKind.wrap .i64 (aK+1)))≤l1.length)) then (bif (decide (l1.length≤l1.length)) then (bif (decide (0≤(IntKind.wrap .i64 (aK+1)))) then (bif (Vt q bC cB dR bK cA bN (lst R6 (l1.length - (Int.toNat (IntKind.wrap .i64 (aK+1)))) (fun k=>(Zz l1) ((Int.toNat (IntKind.wrap .i64 (aK+1)))+k))) x2) then (.ret [(.bool (w5r bC cB dR bK cA bN (lst R6 (l1.length - (Int.toNat (IntKind.wrap .i64 (aK+1)))) (fun k=>(Zz l1) ((Int.toNat (IntKind.wrap .i64 (aK+1)))+k))) x2))]) else .stuck) else .stuck) else .stuck) else .stuck))))
def x0x (aZ:Int) (aX:Int) (aS:Int) (bL:Int) (bV:Int) (bN:Int) (l1:List R6) (x2:Int):Xe cvdS:=(.to (.h0 0))
theorem w5a {q:Nat} (hq:Zq prog (Tcv q)) (aZ:Int) (aX:Int) (aS:Int) (bL:Int) (bV:Int) (bN:Int) (l1:List R6) (x2:Int): ∀s,Xr prog (Zy prog 95) (cvdC aZ aX aS bL bV bN l1 x2) (cvdC aZ aX aS bL bV bN l1 x2 s) (Vx q aZ aX aS bL bV bN l1 x2 s)
 | .h0 v14=>(lb (fun k0=>(lo fun aJ=>(lb (fun k1=>(sl hq 121 [] ⟨[0,1,2],[],v8q,v8w⟩ ⟨[],[],[]⟩ (trs 16 []) (tt k1 (ww aJ (tt k0 nn))))) (fun k1=>(lb (fun k2=>(sl hq 121 [] ⟨[0,1,2],[],v8q,v8w⟩ ⟨[],[],[]⟩ (bl 16 65281) (tt k2 (tt k1 (ww aJ (tt k0 nn)))))) (fun k2=>(lb (fun k3=>(sl hq 121 [] ⟨[0,1,2],[],v8q,v8w⟩ ⟨[],[],[]⟩ (bl 16 32769) (tt k3 (tt k2 (tt k1 (ww aJ (tt k0 nn))))))) (fun k3=>(sl hq 137 [] ⟨[1,3,2,4,5,6],[],cvdN1,cvdM1⟩ ⟨[],[],[]⟩ (bl 16 1) (tt k3 (tt k2 (tt k1 (ww aJ (tt k0 nn)))))))))))))) (fun k0=>(lr 200 3 [1,1,1,1,1,1,0] 1 4 [(6,(.bool false))] (sl hq 11 [] ⟨[],[],[some [6]],[]⟩ ⟨[],[],[]⟩ [false] (tt k0 nn)))))
 | .h1 bK dC aK aE bZ bT cW bY bH=>(lb (fun k0=>(sl hq 22 [] ⟨(List.range 6),[],v8p,v8v⟩ ⟨[],[],[]⟩ (trs 19 (bl 11 0)) (tt k0 nn))) (fun k0=>(lb (fun k1=>(sl hq 22 [] ⟨(List.range 6),[],v8p,v8v⟩ ⟨[],[],[]⟩ (bl 30 524256) (tt k1 (tt k0 nn)))) (fun k1=>(lb (fun k2=>(sl hq 22 [] ⟨(List.range 6),[],v8p,v8v⟩ ⟨[],[],[]⟩ (bl 30 523264) (tt k2 (tt k1 (tt k0 nn))))) (fun k2=>(lo fun cP=>(lo fun dT=>(lo fun dF=>(lo fun dN=>(lb (fun k3=>(lr 200 95 [1,0,1,0,0,1,1,0,0,1,1,1,1,1,1,0,1,0,0] 1 4 [(6,(.bool false))] (sl hq 30 [] ⟨[],[],[some [6]],[]⟩ ⟨[],[],[]⟩ (bl 32 4294443008) (tt k3 (pp (pp (xI R6 (z2w l1 aK) (fun k=>(Zz l1) ((tn (wr (aK+1)))+k))) (xw dN)) (pp (pp nn (pp (xw dF) (pp (xG (decide (l1.length≤l1.length))) (pp (xG (decide ((tn (wr (aK+1)))≤l1.length))) (xG (w4a l1.length (Zz l1) 6)))))) (tt k2 (tt k1 (tt k0 nn))))))))) (fun k3=>(sl hq 22 [] ⟨(List.range 6),[],v8p,v8v⟩ ⟨[],[],[]⟩ (bl 30 0) (tt k3 (pp (pp (xI R6 (z2w l1 aK) (fun k=>(Zz l1) ((tn (wr (aK+1)))+k))) (xw dN)) (pp (pp nn (pp (xw dF) (pp (xG (decide (l1.length≤l1.length))) (pp (xG (decide ((tn (wr (aK+1)))≤l1.length))) (xG (w4a l1.length (Zz l1) 6)))))) (tt k2 (tt k1 (tt k0 nn)))))))))))))))))))
 | .h2 bC aK aE bZ bT bY bH=>(lb (fun k0=>(sl hq 30 [] ⟨(List.range 6),[],v8o,v8u⟩ ⟨[],[],[]⟩ (trs 19 (bl 2 0)) (tt k0 nn))) (fun k0=>(lb (fun k1=>(sl hq 30 [] ⟨(List.range 6),[],v8o,v8u⟩ ⟨[],[],[]⟩ (bl 21 524256) (tt k1 (tt k0 nn)))) (fun k1=>(lb (fun k2=>(sl hq 30 [] ⟨(List.range 6),[],v8o,v8u⟩ ⟨[],[],[]⟩ (bl 21 523264) (tt k2 (tt k1 (tt k0 nn))))) (fun k2=>(lo fun cP=>(lo fun dT=>(lo fun dF=>(lo fun dN=>(lb (fun k3=>(lr 200 95 [1,0,1,0,0,1,1,0,0,1,1,1,1,1,1,0,1,0,0] 1 4 [(6,(.bool false))] (sl hq 17 [] ⟨[],[],[some [6]],[]⟩ ⟨[],[],[]⟩ (bl 21 1048576) (tt k3 (pp (pp (xI R6 (z2w l1 aK) (fun k=>(Zz l1) ((tn (wr (aK+1)))+k))) (xw dN)) (pp (pp nn (pp (xw dF) (pp (xG (decide (l1.length≤l1.length))) (pp (xG (decide ((tn (wr (aK+1)))≤l1.length))) (xG (w4a l1.length (Zz l1) 6)))))) (tt k2 (tt k1 (tt k0 nn))))))))) (fun k3=>(sl hq 30 [] ⟨(List.range 6),[],v8o,v8u⟩ ⟨[],[],[]⟩ (bl 21 0) (tt k3 (pp (pp (xI R6 (z2w l1 aK) (fun k=>(Zz l1) ((tn (wr (aK+1)))+k))) (xw dN)) (pp (pp nn (pp (xw dF) (pp (xG (decide (l1.length≤l1.length))) (pp (xG (decide ((tn (wr (aK+1)))≤l1.length))) (xG (w4a l1.length (Zz l1) 6)))))) (tt k2 (tt k1 (tt k0 nn)))))))))))))))))))
 | .h3 bC bK cA aK bT bY bH=>(lb (fun k0=>(sl hq 22 [] ⟨(List.range 6),[],v8n,v8t⟩ ⟨[],[],[]⟩ (trs 19 (bl 11 0)) (tt k0 nn))) (fun k0=>(lb (fun k1=>(sl hq 22 [] ⟨(List.range 6),[],v8n,v8t⟩ ⟨[],[],[]⟩ (bl 30 524256) (tt k1 (tt k0 nn)))) (fun k1=>(lb (fun k2=>(sl hq 22 [] ⟨(List.range 6),[],v8n,v8t⟩ ⟨[],[],[]⟩ (bl 30 523264) (tt k2 (tt k1 (tt k0 nn))))) (fun k2=>(lo fun cP=>(lo fun dT=>(lo fun dF=>(lo fun dN=>(lb (fun k3=>(lr 200 95 [1,0,1,0,0,1,1,0,0,1,1,1,1,1,1,1,1,0,1,0,0] 1 4 [(6,(.bool false))] (sl hq 30 [] ⟨[],[],[some [6]],[]⟩ ⟨[],[],[]⟩ (bl 32 4294443008) (tt k3 (pp (pp (xI R6 (z2w l1 aK) (fun k=>(Zz l1) ((tn (wr (aK+1)))+k))) (xw dN)) (pp (pp nn (pp (xw dF) (pp (xG (decide (l1.length≤l1.length))) (pp (xG (decide ((tn (wr (aK+1)))≤l1.length))) (xG (w4a l1.length (Zz l1) 6)))))) (tt k2 (tt k1 (tt k0 nn))))))))) (fun k3=>(sl hq 22 [] ⟨(List.range 6),[],v8n,v8t⟩ ⟨[],[],[]⟩ (bl 30 0) (tt k3 (pp (pp (xI R6 (z2w l1 aK) (fun k=>(Zz l1) ((tn (wr (aK+1)))+k))) (xw dN)) (pp (pp nn (pp (xw dF) (pp (xG (decide (l1.length≤l1.length))) (pp (xG (decide ((tn (wr (aK+1)))≤l1.length))) (xG (w4a l1.length (Zz l1) 6)))))) (tt k2 (tt k1 (tt k0 nn)))))))))))))))))))
 | .h4 bC cB bK aK bZ bT bH=>(lb (fun k0=>(sl hq 29 [] ⟨(List.range 6),[],v8m,v8s⟩ ⟨[],[],[]⟩ (trs 19 (bl 2 0)) (tt k0 nn))) (fun k0=>(lb (fun k1=>(sl hq 29 [] ⟨(List.range 6),[],v8m,v8s⟩ ⟨[],[],[]⟩ (bl 21 524256) (tt k1 (tt k0 nn)))) (fun k1=>(lb (fun k2=>(sl hq 29 [] ⟨(List.range 6),[],v8m,v8s⟩ ⟨[],[],[]⟩ (bl 21 523264) (tt k2 (tt k1 (tt k0 nn))))) (fun k2=>(lo fun cP=>(lo fun dT=>(lo fun dF=>(lo fun dN=>(lb (fun k3=>(lr 200 95 [1,0,1,0,0,1,1,0,0,1,1,1,1,1,1,1,1,0,1,0,0] 1 4 [(6,(.bool false))] (sl hq 17 [] ⟨[],[],[some [6]],[]⟩ ⟨[],[],[]⟩ (bl 21 1048576) (tt k3 (pp (pp (xI R6 (z2w l1 aK) (fun k=>(Zz l1) ((tn (wr (aK+1)))+k))) (xw dN)) (pp (pp nn (pp (xw dF) (pp (xG (decide (l1.length≤l1.length))) (pp (xG (decide ((tn (wr (aK+1)))≤l1.length))) (xG (w4a l1.length (Zz l1) 6)))))) (tt k2 (tt k1 (tt k0 nn))))))))) (fun k3=>(sl hq 29 [] ⟨(List.range 6),[],v8m,v8s⟩ ⟨[],[],[]⟩ (bl 21 0) (tt k3 (pp (pp (xI R6 (z2w l1 aK) (fun k=>(Zz l1) ((tn (wr (aK+1)))+k))) (xw dN)) (pp (pp nn (pp (xw dF) (pp (xG (decide (l1.length≤l1.length))) (pp (xG (decide ((tn (wr (aK+1)))≤l1.length))) (xG (w4a l1.length (Zz l1) 6)))))) (tt k2 (tt k1 (tt k0 nn)))))))))))))))))))
 | .h5 bC cB bK cA dQ aK bH=>(lb (fun k0=>(sl hq 21 [] ⟨[0,1,2],[],v8l,v8r⟩ ⟨[],[],[]⟩ (trs 30 []) (tt k0 nn))) (fun k0=>(lb (fun k1=>(sl hq 21 [] ⟨[0,1,2],[],v8l,v8r⟩ ⟨[],[],[]⟩ (bl 30 1073741792) (tt k1 (tt k0 nn)))) (fun k1=>(lb (fun k2=>(sl hq 21 [] ⟨[0,1,2],[],v8l,v8r⟩ ⟨[],[],[]⟩ (bl 30 1073740800) (tt k2 (tt k1 (tt k0 nn))))) (fun k2=>(lo fun cP=>(lo fun dT=>(lo fun dF=>(lo fun dN=>(lb (fun k3=>(sl hq 21 [] ⟨[0,1,2],[],v8l,v8r⟩ ⟨[],[],[]⟩ (bl 30 1073217536) (tt k3 (pp (pp (xI R6 (z2w l1 aK) (fun k=>(Zz l1) ((tn (wr (aK+1)))+k))) (xw dN)) (pp (pp nn (pp (xw dF) (pp (xG (decide (l1.length≤l1.length))) (pp (xG (decide ((tn (wr (aK+1)))≤l1.length))) (xG (w4a l1.length (Zz l1) 6)))))) (tt k2 (tt k1 (tt k0 nn)))))))) (fun k3=>(lr 200 95 [1,0,1,0,0,1,1,0,0,1,1,1,1,1,1,1,1,1,1,0] 1 4 [(6,(.bool false))] (sl hq 24 [] ⟨[],[],[some [6]],[]⟩ ⟨[],[],[]⟩ (bl 30 0) (tt k3 (pp (pp (xI R6 (z2w l1 aK) (fun k=>(Zz l1) ((tn (wr (aK+1)))+k))) (xw dN)) (pp (pp nn (pp (xw dF) (pp (xG (decide (l1.length≤l1.length))) (pp (xG (decide ((tn (wr (aK+1)))≤l1.length))) (xG (w4a l1.length (Zz l1) 6)))))) (tt k2 (tt k1 (tt k0 nn))))))))))))))))))))
 | .h6 bC cB dR bK cA aK=>(lb (fun k0=>(lr 200 95 [1,0,1,0,0,1,1,0,0,1,1,1,1,1,1,1,1,1,1,0] 1 4 [(6,(.bool true))] (sl hq 12 [] ⟨[],[],[some [6]],[]⟩ ⟨[],[],[]⟩ (trs 19 []) (tt k0 nn)))) (fun k0=>(lb (fun k1=>(lr 200 95 [1,0,1,0,0,1,1,0,0,1,1,1,1,1,1,1,1,1,1,0] 1 4 [(6,(.bool true))] (sl hq 12 [] ⟨[],[],[some [6]],[]⟩ ⟨[],[],[]⟩ (bl 19 524256) (tt k1 (tt k0 nn))))) (fun k1=>(lb (fun k2=>(lr 200 95 [1,0,1,0,0,1,1,0,0,1,1,1,1,1,1,1,1,1,1,0] 1 4 [(6,(.bool true))] (sl hq 12 [] ⟨[],[],[some [6]],[]⟩ ⟨[],[],[]⟩ (bl 19 523264) (tt k2 (tt k1 (tt k0 nn)))))) (fun k2=>(lo fun o0=>(lo fun o1=>(lo fun o2=>(lo fun o3=>(lr 200 95 [1,0,1,0,0,1,1,0,0,1,1,1,1,1,1,1,1,1,1,0] 1 4 [(6,(.bool (w5r bC cB dR bK cA bN (lst R6 (z2w l1 aK) (fun k=>(Zz l1) ((tn (wr (aK+1)))+k))) x2)))] (sl hq 12 [] ⟨[],[],[some [6]],[]⟩ ⟨[],[],[]⟩ (bl 19 0) (pp (pp (xI R6 (z2w l1 aK) (fun k=>(Zz l1) ((tn (wr (aK+1)))+k))) (xw o3)) (pp (pp nn (pp (xw o2) (pp (xG (decide (l1.length≤l1.length))) (pp (xG (decide ((tn (wr (aK+1)))≤l1.length))) (xG (w4a l1.length (Zz l1) 6)))))) (tt k2 (tt k1 (tt k0 nn)))))))))))))))))
theorem x8o {q:Nat} (hq:Zq prog (Tcv q)) (aZ:Int) (aX:Int) (aS:Int) (bL:Int) (bV:Int) (bN:Int) (l1:List R6) (x2:Int):Xr prog (Zy prog 95) (cvdC aZ aX aS bL bV bN l1 x2) (Zi prog 95 [(.agg [(.int .i64 aZ),(.int .i64 aX),(.int .i64 aS),(.int .i64 bL),(.int .i64 bV),(.int .i64 bN)]),(.dat l1.length (Zz l1)),(.int .i64 x2)] true []) (x0x aZ aX aS bL bV bN l1 x2):=(sl hq 16 [] ⟨[0,1,2],[],v8q,v8w⟩ ⟨[],[],[]⟩ [] nn)
theorem v8k {q:Nat} (hq:Zq prog (Tcv q)) (aZ:Int) (aX:Int) (aS:Int) (bL:Int) (bV:Int) (bN:Int) (l1:List R6) (x2:Int) (n:Nat) (vs:List AVal) (h:Yj (Vx q aZ aX aS bL bV bN l1 x2) n (x0x aZ aX aS bL bV bN l1 x2)=.ret vs):Kg prog (Zy prog 95) (Zi prog 95 [(.agg [(.int .i64 aZ),(.int .i64 aX),(.int .i64 aS),(.int .i64 bL),(.int .i64 bV),(.int .i64 bN)]),(.dat l1.length (Zz l1)),(.int .i64 x2)] true []) vs:=by have:=Yw (w5a hq aZ aX aS bL bV bN l1 x2) n _ (x8o hq aZ aX aS bL bV bN l1 x2);rwa [h] at this
end Go.Am
namespace Go.Am
open Go.Proofs.Tryz
open Go.Proofs
def cvq (x:Int) (L:List R6) (i:Nat) (p:R6):Bool:=z7z p||covB x (L.drop (i+1)) p
theorem y8w {x:Int} {L:List R6} {i:Nat} {a b c d e f:Int}:cvq x L i ⟨a,b,c,d,e,f⟩=bif decide (a≥d) then true else bif decide (b≥e) then true else bif decide (c≥f) then true else w5r a b c d e f (L.drop (i+1)) x:=by unfold cvq z7z w5r;cases decide (a≥d) <;> cases decide (b≥e) <;> cases decide (c≥f) <;> rfl
theorem cvo {q:Nat} {L:List R6} (hL:L.length≤q) (hl:L.length≤100000) {i:Nat} (hi:i<L.length) (a b c d e f x:Int):Vt q a b c d e f (L.drop (i+1)) x=true:=by unfold Vt;rw [List.length_drop,Zs (by omega),Yz (by omega)];rfl
theorem cv_fin {σ:Type} {step:σ→Xe σ} {N:Nat} {s:σ} {W t1 t2 t3 V:Bool} (h:Yj step N (.to s)=.ret [.bool W]):
  Yj step N (bif t1 then .to s else bif t2 then .to s else bif t3 then .to s else bif V then .to s else .ret [.bool false])=.ret [.bool ((bif t1 then true else bif t2 then true else bif t3 then true else V)&&W)]:=by
 cases t1 <;> cases t2 <;> cases t3 <;> cases V <;> first | exact Zg _ _ _ | (simp only [cond_true,cond_false,Bool.true_and];exact h)
theorem x0y {σ:Type} {step:σ→Xe σ} {N:Nat} {s:σ} {W t1 t2 t3 V:Bool} (h:Yj step N (.to s)=.ret [.bool W]):
  Yj step N (bif t1 then .to s else bif t2 then .to s else bif t3 then .to s else bif !V then .ret [.bool false] else .to s)=.ret [.bool ((bif t1 then true else bif t2 then true else bif t3 then true else V)&&W)]:=by
 cases t1 <;> cases t2 <;> cases t3 <;> cases V <;> first | exact Zg _ _ _ | (simp only [Bool.not_true,Bool.not_false,cond_true,cond_false,Bool.true_and];exact h)
theorem cv_or {α:Type} {t1 t2 t3:Bool} {a b:α}:(bif t1 then a else bif t2 then a else bif t3 then a else b)=bif (t1||(t2||t3)) then a else b:=by cases t1 <;> cases t2 <;> cases t3 <;> rfl
theorem v7f {σ:Type} {step:σ→Xe σ} {N:Nat} {c:Bool} {a b:Xe σ}:Yj step N (bif c then a else b)=bif c then Yj step N a else Yj step N b:=by cases c <;> rfl
theorem cvd_h6 {q:Nat} {B:R6} {L:List R6} {x:Int} (hL:L.length≤q) (hl:L.length≤100000) {i:Nat} (hi:i<L.length) (bC cB dR bK cA:Int): ∃N,Yj (Vx q B.a B.b B.c B.d B.e B.f L x) N (.to (.h6 bC cB dR bK cA (i:Int)))=.ret [.bool (cvq x L i ⟨bC,cB,dR,bK,cA,B.f⟩)]:=by
 have hw:IntKind.wrap .i64 ((i:Int)+1)=((i+1:Nat):Int):=Zu (by omega);have e1:decide (i+1≤L.length)=true:=Yz hi;have e2: ∀{X Y:Xe cvdS},(bif decide (L.length≤L.length) then X else Y)=X:=fun {X Y}=>by rw [Yz (Nat.le_refl _)];rfl
 have e3: ∀{X Y:Xe cvdS},(bif decide (0≤((i+1:Nat):Int)) then X else Y)=X:=fun {X Y}=>by rw [Xc (by omega)];rfl
 refine ⟨1,?_⟩;rw [Zw,y8w];simp only [Vx,hw,e2,e3,Zj,e1,z5b L (show i+1≤L.length from hi),cvo hL hl hi,cond_true];cases decide (bC≥bK) <;> cases decide (cB≥cA) <;> cases decide (dR≥B.f) <;> rfl
theorem cvd_h5 {q:Nat} {B:R6} {L:List R6} {x:Int} (hL:L.length≤q) (hl:L.length≤100000) {i:Nat} (hi:i<L.length) (bC cB bK cA dQ bH:Int): ∃N,Yj (Vx q B.a B.b B.c B.d B.e B.f L x) N (.to (.h5 bC cB bK cA dQ (i:Int) bH))=.ret [.bool (cvq x L i ⟨bC,cB,B.c,bK,cA,dQ⟩&&(cvq x L i ⟨bC,cB,bH,bK,cA,B.f⟩))]:=by
 have hw:IntKind.wrap .i64 ((i:Int)+1)=((i+1:Nat):Int):=Zu (by omega);have e1:decide (i+1≤L.length)=true:=Yz hi;have e2: ∀{X Y:Xe cvdS},(bif decide (L.length≤L.length) then X else Y)=X:=fun {X Y}=>by rw [Yz (Nat.le_refl _)];rfl
 have e3: ∀{X Y:Xe cvdS},(bif decide (0≤((i+1:Nat):Int)) then X else Y)=X:=fun {X Y}=>by rw [Xc (by omega)];rfl
 obtain ⟨N,hN⟩:=cvd_h6 (B:=B) (x:=x) hL hl hi bC cB bH bK cA;refine ⟨N+1,?_⟩;rw [Zw,show cvq x L i ⟨bC,cB,B.c,bK,cA,dQ⟩=_ from y8w];simp only [Vx,hw,e2,e3,Zj,e1,z5b L (show i+1≤L.length from hi),cvo hL hl hi,cond_true];exact cv_fin hN
theorem cvd_h4 {q:Nat} {B:R6} {L:List R6} {x:Int} (hL:L.length≤q) (hl:L.length≤100000) {i:Nat} (hi:i<L.length) (bC cB bK bZ bT bH:Int): ∃N,Yj (Vx q B.a B.b B.c B.d B.e B.f L x) N (.to (.h4 bC cB bK (i:Int) bZ bT bH))=.ret [.bool (cvq x L i ⟨bC,cB,B.c,bK,B.e,B.f⟩&&(cvq x L i ⟨bC,bZ,B.c,bK,cB,bT⟩&&cvq x L i ⟨bC,bZ,bH,bK,cB,B.f⟩))]:=by
 have hw:IntKind.wrap .i64 ((i:Int)+1)=((i+1:Nat):Int):=Zu (by omega);have e1:decide (i+1≤L.length)=true:=Yz hi;have e2: ∀{X Y:Xe cvdS},(bif decide (L.length≤L.length) then X else Y)=X:=fun {X Y}=>by rw [Yz (Nat.le_refl _)];rfl
 have e3: ∀{X Y:Xe cvdS},(bif decide (0≤((i+1:Nat):Int)) then X else Y)=X:=fun {X Y}=>by rw [Xc (by omega)];rfl
 obtain ⟨N,hN⟩:=cvd_h5 (B:=B) (x:=x) hL hl hi bC bZ bK cB bT bH;refine ⟨N+1,?_⟩;rw [Zw,show cvq x L i ⟨bC,cB,B.c,bK,B.e,B.f⟩=_ from y8w];simp only [Vx,hw,e2,e3,Zj,e1,z5b L (show i+1≤L.length from hi),cvo hL hl hi,cond_true];exact x0y hN
theorem cvd_h3 {q:Nat} {B:R6} {L:List R6} {x:Int} (hL:L.length≤q) (hl:L.length≤100000) {i:Nat} (hi:i<L.length) (bC bK cA bT bY bH:Int): ∃N,Yj (Vx q B.a B.b B.c B.d B.e B.f L x) N (.to (.h3 bC bK cA (i:Int) bT bY bH))=.ret [.bool (cvq x L i ⟨bC,B.b,B.c,bK,cA,B.f⟩&&(cvq x L i ⟨bC,bY,B.c,bK,B.e,B.f⟩&&(cvq x L i ⟨bC,cA,B.c,bK,bY,bT⟩&&cvq x L i ⟨bC,cA,bH,bK,bY,B.f⟩)))]:=by
 have hw:IntKind.wrap .i64 ((i:Int)+1)=((i+1:Nat):Int):=Zu (by omega);have e1:decide (i+1≤L.length)=true:=Yz hi;have e2: ∀{X Y:Xe cvdS},(bif decide (L.length≤L.length) then X else Y)=X:=fun {X Y}=>by rw [Yz (Nat.le_refl _)];rfl
 have e3: ∀{X Y:Xe cvdS},(bif decide (0≤((i+1:Nat):Int)) then X else Y)=X:=fun {X Y}=>by rw [Xc (by omega)];rfl
 obtain ⟨N,hN⟩:=cvd_h4 (B:=B) (x:=x) hL hl hi bC bY bK cA bT bH;refine ⟨N+1,?_⟩;rw [Zw,show cvq x L i ⟨bC,B.b,B.c,bK,cA,B.f⟩=_ from y8w];simp only [Vx,hw,e2,e3,Zj,e1,z5b L (show i+1≤L.length from hi),cvo hL hl hi,cond_true];exact x0y hN
theorem cvd_h2 {q:Nat} {B:R6} {L:List R6} {x:Int} (hL:L.length≤q) (hl:L.length≤100000) {i:Nat} (hi:i<L.length) (bC aE bZ bT bY bH:Int): ∃N,Yj (Vx q B.a B.b B.c B.d B.e B.f L x) N (.to (.h2 bC (i:Int) aE bZ bT bY bH))=.ret [.bool (cvq x L i ⟨bC,B.b,B.c,B.d,B.e,B.f⟩&&(cvq x L i ⟨aE,B.b,B.c,bC,bZ,B.f⟩&&(cvq x L i ⟨aE,bY,B.c,bC,B.e,B.f⟩&&(cvq x L i ⟨aE,bZ,B.c,bC,bY,bT⟩&&cvq x L i ⟨aE,bZ,bH,bC,bY,B.f⟩))))]:=by
 have hw:IntKind.wrap .i64 ((i:Int)+1)=((i+1:Nat):Int):=Zu (by omega);have e1:decide (i+1≤L.length)=true:=Yz hi;have e2: ∀{X Y:Xe cvdS},(bif decide (L.length≤L.length) then X else Y)=X:=fun {X Y}=>by rw [Yz (Nat.le_refl _)];rfl
 have e3: ∀{X Y:Xe cvdS},(bif decide (0≤((i+1:Nat):Int)) then X else Y)=X:=fun {X Y}=>by rw [Xc (by omega)];rfl
 obtain ⟨N,hN⟩:=cvd_h3 (B:=B) (x:=x) hL hl hi aE bC bZ bT bY bH;refine ⟨N+1,?_⟩;rw [Zw,show cvq x L i ⟨bC,B.b,B.c,B.d,B.e,B.f⟩=_ from y8w];simp only [Vx,hw,e2,e3,Zj,e1,z5b L (show i+1≤L.length from hi),cvo hL hl hi,cond_true];exact x0y hN
theorem cvd_h1 {q:Nat} {B:R6} {L:List R6} {x:Int} (hL:L.length≤q) (hl:L.length≤100000) {i:Nat} (hi:i<L.length) (bK w aE bZ bT cW bY bH:Int): ∃N,Yj (Vx q B.a B.b B.c B.d B.e B.f L x) N (.to (.h1 bK w (i:Int) aE bZ bT cW bY bH))=.ret [.bool (cvq x L i ⟨B.a,B.b,B.c,bK,B.e,B.f⟩&&(cvq x L i ⟨cW,B.b,B.c,B.d,B.e,B.f⟩&&(cvq x L i ⟨aE,B.b,B.c,cW,bZ,B.f⟩&&(cvq x L i ⟨aE,bY,B.c,cW,B.e,B.f⟩&&(cvq x L i ⟨aE,bZ,B.c,cW,bY,bT⟩&&cvq x L i ⟨aE,bZ,bH,cW,bY,B.f⟩)))))]:=by
 have hw:IntKind.wrap .i64 ((i:Int)+1)=((i+1:Nat):Int):=Zu (by omega);have e1:decide (i+1≤L.length)=true:=Yz hi;have e2: ∀{X Y:Xe cvdS},(bif decide (L.length≤L.length) then X else Y)=X:=fun {X Y}=>by rw [Yz (Nat.le_refl _)];rfl
 have e3: ∀{X Y:Xe cvdS},(bif decide (0≤((i+1:Nat):Int)) then X else Y)=X:=fun {X Y}=>by rw [Xc (by omega)];rfl
 obtain ⟨N,hN⟩:=cvd_h2 (B:=B) (x:=x) hL hl hi cW aE bZ bT bY bH;refine ⟨N+1,?_⟩;rw [Zw,show cvq x L i ⟨B.a,B.b,B.c,bK,B.e,B.f⟩=_ from y8w];simp only [Vx,hw,e2,e3,Zj,e1,z5b L (show i+1≤L.length from hi),cvo hL hl hi,cond_true];exact x0y hN
theorem u4f {q:Nat} {B:R6} {L:List R6} {x:Int} (hL:L.length≤q) (hl:L.length≤100000): ∀(k i:Nat),i+k=L.length→ ∃N,Yj (Vx q B.a B.b B.c B.d B.e B.f L x) N (.to (.h0 (i:Int)))=.ret [.bool (covB x (L.drop i) B)]
 | 0,i,h=>by refine ⟨1,?_⟩;rw [Zw,List.drop_eq_nil_of_le (by omega)];simp (disch:=omega) only [Vx,Zo,cond_false];rfl
 | k+1,i,h=>by
  have hi:i<L.length:=by omega
  have hw:IntKind.wrap .i64 ((i:Int)+1)=((i+1:Nat):Int):=Zu (by omega);obtain ⟨N,hN⟩:=u4f (B:=B) (x:=x) hL hl k (i+1) (by omega);obtain ⟨M,hM⟩:=cvd_h1 (B:=B) (x:=x) hL hl hi (gA x (rd L i) B).a (gA x (rd L i) B).a (gA x (rd L i) B).a (gA x (rd L i) B).b (gA x (rd L i) B).c (gA x (rd L i) B).d (gA x (rd L i) B).e (gA x (rd L i) B).f;rw [Yc hi];have key: ∀K,Yj (Vx q B.a B.b B.c B.d B.e B.f L x) (K+1) (.to (.h0 (i:Int)))=bif z7z (gA x (rd L i) B) then Yj (Vx q B.a B.b B.c B.d B.e B.f L x) K (.to (.h0 ((i+1:Nat):Int))) else Yj (Vx q B.a B.b B.c B.d B.e B.f L x) K (.to (.h1 (gA x (rd L i) B).a (gA x (rd L i) B).a (i:Int) (gA x (rd L i) B).a (gA x (rd L i) B).b (gA x (rd L i) B).c (gA x (rd L i) B).d (gA x (rd L i) B).e (gA x (rd L i) B).f)):=fun K=>by rw [Zw];simp (disch:=omega) only [Vx,Zd,Ze,hw,Zj,Bool.and_true,cond_true];exact (congrArg (Yj _ K) cv_or).trans v7f
  show∃N,Yj _ N _=Xe.ret [.bool (bif z7z (gA x (rd L i) B) then covB x (L.drop (i+1)) B else (cvq x L i (u4e (gA x (rd L i) B) B))&&((cvq x L i (u4d (gA x (rd L i) B) B))&&((cvq x L i (v3j (gA x (rd L i) B) B))&&((cvq x L i (v3i (gA x (rd L i) B) B))&&((cvq x L i (w5q (gA x (rd L i) B) B))&&(cvq x L i (w5p (gA x (rd L i) B) B)))))))];rcases Yv (z7z (gA x (rd L i) B)) with he | he
  ·refine ⟨N+1,?_⟩;rw [key,he,cond_true,cond_true];exact hN
  ·refine ⟨M+1,?_⟩;rw [key,he,cond_false,cond_false];exact hM
theorem j0y {q:Nat} (a b c d e f:Int) (L:List R6) (x:Int) (hL:L.length≤q) (hl:L.length≤100000): ∃N,Yj (Vx q a b c d e f L x) N (x0x a b c d e f L x)=.ret [.bool (w5r a b c d e f L x)]:=
 u4f (B:=⟨a,b,c,d,e,f⟩) hL hl L.length 0 (Nat.zero_add _)
theorem x3s {S:Specs} (hS:Zq prog S) {q:Nat} (hq:Zq prog (Tcv q)) (F:List AVal→Option (AVal×Bool)) (hF: ∀args v,F args=some (v,true)→fCov (q+1) args=some (v,true)):Zq prog (S.with y1y F):=by
 refine z3b hS (by kernel_rfl) fun args v h=> ?_
 replace h:=hF args v h
 unfold fCov at h;split at h
 ·rename_i aZ aX aS bL bV bN a1 x2;split at h
  ·rename_i L1 g1 n1 e1;simp only [Option.some.injEq,Prod.mk.injEq,Bool.and_eq_true,Vt,decide_eq_true_eq] at h;obtain ⟨rfl,ho1,hw1,hw2⟩:=h;obtain ⟨N,hN⟩:=j0y (q:=q) aZ aX aS bL bV bN L1 x2 (by omega) hw2;exact ⟨_,_,(.cons (.refl _) (.cons (asL_le e1 ho1) (.cons (.refl _) .nil))),rfl,v8k hq aZ aX aS bL bV bN L1 x2 N _ hN,3,rfl⟩
  ·cases h
 ·cases h
theorem u4v : ∀q,Zq prog (Tcv q)
 | 0=>by
  refine z3b z6k (by kernel_rfl) fun args v h=> ?_;unfold fCov at h;split at h
  ·split at h
   ·simp only [Option.some.injEq,Prod.mk.injEq,Bool.and_eq_true,Vt,decide_eq_true_eq] at h;exact absurd h.2.2.1 (Nat.not_lt_zero _)
   ·cases h
  ·cases h
 | q+1=>x3s z6k (u4v q) _ fun _ _ h=>h
def cvdV (a b c d e f:Int) (L:List R6) (x:Int):Bool:=w5r a b c d e f L x
def z8c (a b c d e f:Int) (L:List R6) (x:Int):Bool:=decide (L.length≤100000)
def fCvd :List AVal→Option (AVal×Bool)
 | [.agg [.int .i64 aZ,.int .i64 aX,.int .i64 aS,.int .i64 bL,.int .i64 bV,.int .i64 bN],a1,.int .i64 x2]=>match asL R6 a1 with
  | some (L1,g1,n1)=>some (.bool (cvdV aZ aX aS bL bV bN L1 x2),isT R6 n1 g1&&(z8c aZ aX aS bL bV bN L1 x2))
  | _=>none
 | _=>none
theorem j0i {S:Specs} (hS:Zq prog S):Zq prog (S.with y1y fCvd):=x3s hS (u4v 100000) _ fun args v h=>by
 unfold fCvd at h;split at h
 ·split at h
  ·rename_i e1;simp only [Option.some.injEq,Prod.mk.injEq,Bool.and_eq_true,z8c,decide_eq_true_eq] at h;obtain ⟨rfl,ho1,hw⟩:=h;unfold fCov;simp only [e1,ho1,Bool.true_and,Vt];rw [Zs (by omega),Yz hw];rfl
  ·cases h
 ·cases h
def Da :Specs:=T9.with y1y fCvd
theorem y5t :Zq prog Da:=j0i z6k
end Go.Am
namespace Go.Am
open Go.Proofs.Tryz
open Go.Proofs
inductive rchS where
 | h0 (v5:Int) (v6:Int)
 | h1 (v8:Int) (dM:Int) (dS:Int) (dH:Int) (dO:Int) (aK:Int)
def rchC (l0:List R6) (l1:List R6):rchS→Cfg
 | .h0 v5 v6=>⟨⟨26,0,true⟩,none,(Zb prog 92 [1,1,0,0,0] 0),none,(Zy prog 3),⟨Yq [(1,(.fn 93 [(.ptr 0 0),(.ptr 1 0)])),(5,(ii v5)),(6,(ii v6))],Uv [⟨[(.dat l0.length (Zz l0))],30,none⟩,⟨[(.dat l1.length (Zz l1))],30,none⟩] 0,2,[],true⟩,[⟨⟨7,0,true⟩,(Wd prog 57 [1,0] 1),(Zb prog 57 [1,0] 1),none,(Zy prog 3),Yq [(5,(.fn 93 [(.ptr 0 0),(.ptr 1 0)]))]⟩],.leaf⟩
 | .h1 v8 dM dS dH dO aK=>⟨⟨19,0,true⟩,none,(Zb prog 124 [1,0,1,0,0] 0),none,(Zy prog 3),⟨Yq [(0,(.dat l0.length (Zz l0))),(1,(.fn 94 [(.ptr 0 0),(.ptr 1 0)])),(7,(ii (l0.length:Int))),(8,(ii v8))],Uv [⟨[(.dat l1.length (Zz l1))],30,none⟩,⟨[(ii aK)],3,none⟩,⟨[(.dat l0.length (Zz l0))],30,none⟩] 0,3,[],true⟩,[⟨⟨9,0,true⟩,(Wd prog 86 [1,0] 2),(Zb prog 86 [1,0] 1),none,(Zy prog 3),Yq [(5,(.dat l0.length (Zz l0))),(6,(.fn 94 [(.ptr 0 0),(.ptr 1 0)]))]⟩,⟨⟨9,0,true⟩,(Wd prog 93 [1,0] 2),(Zb prog 93 [1,0] 1),none,(Zy prog 3),Yq [(5,(.dat l0.length (Zz l0))),(6,(.fn 94 [(.ptr 0 0),(.ptr 1 0)]))]⟩,⟨⟨26,0,true⟩,(Wd prog 92 [1,1,0,0,0,1,0,1,0] 2),(Zb prog 92 [1,1,0,0,0,1,0,1,0] 1),none,(Zy prog 3),Yq [(1,(.fn 93 [(.ptr 2 0),(.ptr 0 0)])),(5,(ii dM)),(6,(ii dS)),(7,(ii dH)),(18,(.fn 93 [(.ptr 2 0),(.ptr 0 0)])),(19,(ii dO))]⟩,⟨⟨7,0,true⟩,(Wd prog 57 [1,0] 1),(Zb prog 57 [1,0] 1),none,(Zy prog 3),Yq [(5,(.fn 93 [(.ptr 2 0),(.ptr 0 0)]))]⟩],.leaf⟩
def v5l :List (Option (List Nat)):=[some [1,5,6],some [5]]
def v5m :List (Option (List Nat)):=[]
def rchN1 :List (Option (List Nat)):=[some [0,1,7,8],some [5,6],some [5,6],some [1,5,6,7,18,19],some [5]]
def rchM1 :List (Option (List Nat)):=[]
def Kb (l0:List R6) (l1:List R6):rchS→Xe rchS
 | .h0 v5 v6=>(bif (decide (v5<v6)) then (.to (.h1 0 v5 v6 (IntKind.wrap .i64 (Int.fdiv (IntKind.wrap IntKind.u64 (IntKind.wrap .i64 (v5+v6))) 2)) (IntKind.wrap .i64 (Int.fdiv (IntKind.wrap IntKind.u64 (IntKind.wrap .i64 (v5+v6))) 2)) (IntKind.wrap .i64 (Int.fdiv (IntKind.wrap IntKind.u64 (IntKind.wrap .i64 (v5+v6))) 2)))) else (.ret [(.int .i64 v5)]))
 | .h1 v8 dM dS dH dO aK=>(bif (decide (v8<(l0.length:Int))) then (bif ((decide (0≤v8∧v8<(l0.length:Int)))&&true) then (bif (z8c (rd l0 v8.toNat).a (rd l0 v8.toNat).b (rd l0 v8.toNat).c (rd l0 v8.toNat).d (rd l0 v8.toNat).e (rd l0 v8.toNat).f (cvT l1) aK) then (bif (!(cvdV (rd l0 v8.toNat).a (rd l0 v8.toNat).b (rd l0 v8.toNat).c (rd l0 v8.toNat).d (rd l0 v8.toNat).e (rd l0 v8.toNat).f (cvT l1) aK)) then (bif (!(!(decide (v8≥0)))) then (.to (.h0 (IntKind.wrap .i64 (dH+1)) dS)) else (.to (.h0 dM dH))) else (.to (.h1 (IntKind.wrap .i64 (v8+1)) dM dS dH dO aK))) else .stuck) else .stuck) else (.to (.h0 dM dH)))
def x0b (l0:List R6) (l1:List R6):Xe rchS:=(.to (.h0 0 2000000))
theorem w3o (l0:List R6) (l1:List R6): ∀s,Xr prog (Zy prog 57) (rchC l0 l1) (rchC l0 l1 s) (Kb l0 l1 s)
 | .h0 v5 v6=>(lb (fun k0=>(sl y5t 57 [] ⟨[1,2,0],[],rchN1,rchM1⟩ ⟨[],[],[]⟩ [true] (tt k0 nn))) (fun k0=>(lr 7 3 [1,1,1,1,1,1,0] 1 3 [(4,(ii v5))] (sl y5t 17 [] ⟨[],[],[some [4]],[]⟩ ⟨[],[],[]⟩ [false] (tt k0 nn)))))
 | .h1 v8 dM dS dH dO aK=>(lb (fun k0=>(lo fun aJ=>(lo fun bJ=>(lb (fun k1=>(lb (fun k2=>(sl y5t 63 [] ⟨[2,0],[],v5l,v5m⟩ ⟨[],[],[]⟩ (trs 3 []) (tt k2 (tt k1 (pp (pp (xr l1) (xw bJ)) (ww aJ (tt k0 nn))))))) (fun k2=>(sl y5t 62 [] ⟨[2,0],[],v5l,v5m⟩ ⟨[],[],[]⟩ (bl 3 3) (tt k2 (tt k1 (pp (pp (xr l1) (xw bJ)) (ww aJ (tt k0 nn))))))))) (fun k1=>(sl y5t 46 [] ⟨[0,1,2],[],rchN1,rchM1⟩ ⟨[],[],[]⟩ (bl 2 1) (tt k1 (pp (pp (xr l1) (xw bJ)) (ww aJ (tt k0 nn)))))))))) (fun k0=>(sl y5t 29 [] ⟨[2,0],[],v5l,v5m⟩ ⟨[],[],[]⟩ (bl 2 0) (tt k0 nn))))
theorem x6m (l0:List R6) (l1:List R6):Xr prog (Zy prog 57) (rchC l0 l1) (Zi prog 57 [(.dat l0.length (Zz l0)),(.dat l1.length (Zz l1))] true []) (x0b l0 l1):=(sl y5t 23 [] ⟨[0,1],[],v5l,v5m⟩ ⟨[],[],[]⟩ [] nn)
theorem v5k (l0:List R6) (l1:List R6) (n:Nat) (vs:List AVal) (h:Yj (Kb l0 l1) n (x0b l0 l1)=.ret vs):Kg prog (Zy prog 57) (Zi prog 57 [(.dat l0.length (Zz l0)),(.dat l1.length (Zz l1))] true []) vs:=by have:=Yw (w3o l0 l1) n _ (x6m l0 l1);rwa [h] at this
inductive frmS where
 | h0 (v5:Int) (v6:Int)
def frmC (aZ:Int) (aX:Int) (aS:Int) (l1:List R6):frmS→Cfg
 | .h0 v5 v6=>⟨⟨27,0,true⟩,none,(Zb prog 49 [1,1,0,1,0,0] 0),none,(Zy prog 3),⟨Yq [(1,(.dat l1.length (Zz l1))),(2,(.ptr 0 0)),(5,(ii v5)),(6,(ii v6))],Uv [⟨[(ii aZ),(ii aX),(ii aS)],65,none⟩] 0,1,[],true⟩,[],.leaf⟩
def frmN0 :List (Option (List Nat)):=[some [1,2,5,6]]
def frmM0 :List (Option (List Nat)):=[]
def z9h (aZ:Int) (aX:Int) (aS:Int) (l1:List R6):frmS→Xe frmS
 | .h0 v5 v6=>(bif (decide (v6<(l1.length:Int))) then (bif ((decide (0≤v6∧v6<(l1.length:Int)))&&true) then (.to (.h0 (Ju v5 (Wf (Wf (Wf (Wf (Wf (Wf 0 (IntKind.wrap .i64 ((rd l1 v6.toNat).a - aZ))) (IntKind.wrap .i64 ((IntKind.wrap .i64 (aZ - (rd l1 v6.toNat).d))+1))) (IntKind.wrap .i64 ((rd l1 v6.toNat).b - aX))) (IntKind.wrap .i64 ((IntKind.wrap .i64 (aX - (rd l1 v6.toNat).e))+1))) (IntKind.wrap .i64 ((rd l1 v6.toNat).c - aS))) (IntKind.wrap .i64 ((IntKind.wrap .i64 (aS - (rd l1 v6.toNat).f))+1)))) (IntKind.wrap .i64 (v6+1)))) else .stuck) else (.ret [(.int .i64 v5)]))
def y2h (aZ:Int) (aX:Int) (aS:Int) (l1:List R6):Xe frmS:=(bif ((decide ((0:Int)≤0∧0<(l1.length:Int)))&&true) then (.to (.h0 (Wf (Wf (Wf (Wf (Wf (Wf 0 (IntKind.wrap .i64 ((rd l1 0).a - aZ))) (IntKind.wrap .i64 ((IntKind.wrap .i64 (aZ - (rd l1 0).d))+1))) (IntKind.wrap .i64 ((rd l1 0).b - aX))) (IntKind.wrap .i64 ((IntKind.wrap .i64 (aX - (rd l1 0).e))+1))) (IntKind.wrap .i64 ((rd l1 0).c - aS))) (IntKind.wrap .i64 ((IntKind.wrap .i64 (aS - (rd l1 0).f))+1))) 1)) else .stuck)
theorem w4k (aZ:Int) (aX:Int) (aS:Int) (l1:List R6): ∀s,Xr prog (Zy prog 49) (frmC aZ aX aS l1) (frmC aZ aX aS l1 s) (z9h aZ aX aS l1 s)
 | .h0 v5 v6=>(lb (fun k0=>(lo fun o0=>(sl y5t 20 [] ⟨[0],[],frmN0,frmM0⟩ ⟨[],[],[]⟩ [true] (ww o0 (tt k0 nn))))) (fun k0=>(lr 27 3 [1,1,1,1,1,1,0] 1 3 [(4,(ii v5))] (sl y5t 15 [] ⟨[],[],[some [4]],[]⟩ ⟨[],[],[]⟩ [false] (tt k0 nn)))))
theorem x7t (aZ:Int) (aX:Int) (aS:Int) (l1:List R6):Xr prog (Zy prog 49) (frmC aZ aX aS l1) (Zi prog 49 [(.agg [(.int .i64 aZ),(.int .i64 aX),(.int .i64 aS)]),(.dat l1.length (Zz l1))] true []) (y2h aZ aX aS l1):=(lo fun o0=>(sl y5t 14 [] ⟨[0],[],frmN0,frmM0⟩ ⟨[],[],[]⟩ [] (ww o0 nn)))
theorem v7j (aZ:Int) (aX:Int) (aS:Int) (l1:List R6) (n:Nat) (vs:List AVal) (h:Yj (z9h aZ aX aS l1) n (y2h aZ aX aS l1)=.ret vs):Kg prog (Zy prog 49) (Zi prog 49 [(.agg [(.int .i64 aZ),(.int .i64 aX),(.int .i64 aS)]),(.dat l1.length (Zz l1))] true []) vs:=by have:=Yw (w4k aZ aX aS l1) n _ (x7t aZ aX aS l1);rwa [h] at this
end Go.Am
namespace Go.Am
open Go.Proofs.Tryz
open Go.Proofs
def u4u (L1:List R6) (d:Int) (L0:List R6):Bool:=L0.all fun r=>cvdV r.a r.b r.c r.d r.e r.f L1 d
def v3e (F:Int→Bool):Nat→Int→Int→Int
 | 0,i,_=>i
 | n+1,i,j=>bif decide (i<j) then (bif F ((i+j) / 2) then v3e F n i ((i+j) / 2) else v3e F n ((i+j) / 2+1) j) else i
def w0l (L0 L1:List R6):Int:=v3e (fun d=>u4u L1 d L0) 22 0 2000000
def Jt (L0 L1:List R6):Bool:=decide (L0.length≤100000)&&decide (L1.length≤100000)
theorem cvd_o {a b c d e f:Int} {L:List R6} {x:Int} (h:L.length≤100000):z8c a b c d e f L x=true:=decide_eq_true h
theorem u1y {L0 L1:List R6} (h0:L0.length≤100000) (h1:L1.length≤100000) (v5 v6 v7 v19 d:Int): ∀(k i:Nat),i+k=L0.length→ ∃N,∀M,Yj (Kb L0 L1) (M+N) (.to (.h1 (i:Int) v5 v6 v7 v19 d))=Yj (Kb L0 L1) M (bif u4u L1 d (L0.drop i) then .to (.h0 v5 v7) else .to (.h0 (IntKind.wrap .i64 (v7+1)) v6))
 | 0,i,h=>by refine ⟨1,fun M=> ?_⟩;rw [Zw,List.drop_eq_nil_of_le (by omega)];simp (disch:=omega) only [Kb,Zo,cond_false];rfl
 | k+1,i,h=>by
  have hi:i<L0.length:=by omega
  obtain ⟨N,hN⟩:=u1y h0 h1 v5 v6 v7 v19 d k (i+1) (by omega);have hw:IntKind.wrap .i64 ((i:Int)+1)=((i+1:Nat):Int):=Zu (by omega);rcases Yv (cvdV (rd L0 i).a (rd L0 i).b (rd L0 i).c (rd L0 i).d (rd L0 i).e (rd L0 i).f L1 d) with q | q
  ·refine ⟨N+1,fun M=> ?_⟩;rw [←Nat.add_assoc,Zw,Yc hi];simp (disch:=omega) only [Kb,Zd,Ze,v8g,hw,Zj,Zp,cvd_o h1,q,Bool.and_true,Bool.true_and,Bool.not_true,Bool.not_false,cond_true,cond_false,u4u,List.all_cons];exact hN M
  ·refine ⟨1,fun M=> ?_⟩;rw [Zw,Yc hi];simp (disch:=omega) only [Kb,Zd,Ze,v8g,hw,Zj,Zp,cvd_o h1,q,Bool.and_true,Bool.false_and,Bool.not_true,Bool.not_false,cond_true,cond_false,u4u,List.all_cons]
theorem x9o {i j:Int} (hi:0≤i) (hj:j≤2000000) (hij:i≤j):IntKind.wrap .i64 (Int.fdiv (IntKind.wrap IntKind.u64 (IntKind.wrap .i64 (i+j))) 2)=(i+j) / 2:=by
 rw [Zu (n:=i+j) (by omega)];have e:IntKind.wrap IntKind.u64 (i+j)=i+j:=by show (i+j) %18446744073709551616=i+j;omega
 rw [e,Int.fdiv_eq_ediv_of_nonneg _ (by omega),Zu (by omega)]
theorem w9a {L0 L1:List R6} (h0:L0.length≤100000) (h1:L1.length≤100000): ∀(n:Nat) (i j:Int),0≤i→i≤j→j≤2000000→j - i<2 ^ n→ ∃N,Yj (Kb L0 L1) N (.to (.h0 i j))=.ret [.int .i64 (v3e (fun d=>u4u L1 d L0) n i j)]
 | 0,i,j,hi,hij,hj,hn=>by
  refine ⟨1,?_⟩;have:i=j:=by simp at hn;omega
  rw [Zw];simp (disch:=omega) only [Kb,Zo,cond_false,Zg,v3e]
 | n+1,i,j,hi,hij,hj,hn=>by
  by_cases hlt:i<j
  ·have hp:(2:Int) ^ (n+1)=2*2 ^ n:=by rw [Int.pow_succ,Int.mul_comm]
   rw [hp] at hn;generalize hP:(2:Int) ^ n=p at hn;obtain ⟨N,hN⟩:=u1y h0 h1 i j ((i+j) / 2) ((i+j) / 2) ((i+j) / 2) L0.length 0 (Nat.zero_add _);unfold v3e;rw [Zd hlt,cond_true];have hw:IntKind.wrap .i64 ((i+j) / 2+1)=(i+j) / 2+1:=Zu (by omega);rcases Yv (u4u L1 ((i+j) / 2) L0) with q | q
   ·obtain ⟨M,hM⟩:=w9a h0 h1 n i ((i+j) / 2) hi (by omega) (by omega) (by rw [hP];omega);refine ⟨M+N+1,?_⟩;rw [Zw];simp only [Kb,Zd hlt,cond_true,x9o hi hj hij];rw [show (0:Int)=((0:Nat):Int) from rfl,hN,List.drop_zero,q,cond_true,hM];rfl
   ·obtain ⟨M,hM⟩:=w9a h0 h1 n ((i+j) / 2+1) j (by omega) (by omega) hj (by rw [hP];omega);refine ⟨M+N+1,?_⟩;rw [Zw];simp only [Kb,Zd hlt,cond_true,x9o hi hj hij];rw [show (0:Int)=((0:Nat):Int) from rfl,hN,List.drop_zero,q,cond_false,hw,hM];rfl
  ·refine ⟨1,?_⟩;rw [Zw];simp (disch:=omega) only [Kb,Zo,cond_false,Zg,v3e]
theorem u7l (L0 L1:List R6) (h:Jt L0 L1=true): ∃N,Yj (Kb L0 L1) N (x0b L0 L1)=.ret [.int .i64 (w0l L0 L1)]:=by simp only [Jt,Bool.and_eq_true,decide_eq_true_eq] at h;exact w9a h.1 h.2 22 0 2000000 (by omega) (by omega) (by omega) (by decide)
def v7o (x y z:Int) (r:R6):Int:=Wf (Wf (Wf (Wf (Wf (Wf 0 (IntKind.wrap .i64 (r.a - x))) (IntKind.wrap .i64 (IntKind.wrap .i64 (x - r.d)+1))) (IntKind.wrap .i64 (r.b - y))) (IntKind.wrap .i64 (IntKind.wrap .i64 (y - r.e)+1))) (IntKind.wrap .i64 (r.c - z))) (IntKind.wrap .i64 (IntKind.wrap .i64 (z - r.f)+1))
def u3y (x y z:Int):List R6→Int→Int
 | [],d=>d
 | r::l,d=>u3y x y z l (Ju d (v7o x y z r))
def w4l (x y z:Int) (L:List R6):Int:=u3y x y z (L.drop 1) (v7o x y z (rd L 0))
def y4l (x y z:Int) (L:List R6):Bool:=decide (0<L.length)&&decide (L.length≤100000)
theorem u3x {x y z:Int} {L:List R6} (hl:L.length≤100000): ∀(k i:Nat) (d:Int),i+k=L.length→ ∃N,Yj (z9h x y z L) N (.to (.h0 d (i:Int)))=.ret [.int .i64 (u3y x y z (L.drop i) d)]
 | 0,i,d,h=>by refine ⟨1,?_⟩;rw [Zw,List.drop_eq_nil_of_le (by omega)];simp (disch:=omega) only [z9h,Zo,cond_false];rfl
 | k+1,i,d,h=>by
  have hi:i<L.length:=by omega
  obtain ⟨N,hN⟩:=u3x hl k (i+1) (Ju d (v7o x y z (rd L i))) (by omega);have hw:IntKind.wrap .i64 ((i:Int)+1)=((i+1:Nat):Int):=Zu (by omega);refine ⟨N+1,?_⟩;rw [Zw,Yc hi];simp (disch:=omega) only [z9h,u3y,Zd,Ze,hw,Zj,Bool.and_true,cond_true];exact hN
theorem u9f (x y z:Int) (L:List R6) (h:y4l x y z L=true): ∃N,Yj (z9h x y z L) N (y2h x y z L)=.ret [.int .i64 (w4l x y z L)]:=by simp only [y4l,Bool.and_eq_true,decide_eq_true_eq] at h;obtain ⟨N,hN⟩:=u3x (x:=x) (y:=y) (z:=z) h.2 (L.length - 1) 1 (v7o x y z (rd L 0)) (by omega);refine ⟨N,?_⟩;simp (disch:=omega) only [y2h,Ze,Bool.and_true,cond_true];exact hN
def fRch :List AVal→Option (AVal×Bool)
 | [a0,a1]=>match asL R6 a0,asL R6 a1 with
  | some (L0,g0,n0),some (L1,g1,n1)=>some (.int .i64 (w0l L0 L1),isT R6 n0 g0&&(isT R6 n1 g1&&(Jt L0 L1)))
  | _,_=>none
 | _=>none
theorem u9s {S:Specs} (hS:Zq prog S):Zq prog (S.with w0x fRch):=by
 refine z3b hS (by kernel_rfl) fun args v h=> ?_;unfold fRch at h;split at h
 ·rename_i a0 a1;split at h
  ·rename_i L0 g0 n0 L1 g1 n1 e0 e1;simp only [Option.some.injEq,Prod.mk.injEq,Bool.and_eq_true] at h;obtain ⟨rfl,ho0,ho1,hw⟩:=h;obtain ⟨N,hN⟩:=u7l L0 L1 hw;exact ⟨_,_,(.cons (asL_le e0 ho0) (.cons (asL_le e1 ho1) .nil)),rfl,v5k L0 L1 N _ hN,3,rfl⟩
  ·cases h
 ·cases h
def fFrm :List AVal→Option (AVal×Bool)
 | [.agg [.int .i64 aZ,.int .i64 aX,.int .i64 aS],a1]=>match asL R6 a1 with
  | some (L1,g1,n1)=>some (.int .i64 (w4l aZ aX aS L1),isT R6 n1 g1&&(y4l aZ aX aS L1))
  | _=>none
 | _=>none
theorem j0d {S:Specs} (hS:Zq prog S):Zq prog (S.with v0a fFrm):=by
 refine z3b hS (by kernel_rfl) fun args v h=> ?_;unfold fFrm at h;split at h
 ·rename_i aZ aX aS a1;split at h
  ·rename_i L1 g1 n1 e1;simp only [Option.some.injEq,Prod.mk.injEq,Bool.and_eq_true] at h;obtain ⟨rfl,ho1,hw⟩:=h;obtain ⟨N,hN⟩:=u9f aZ aX aS L1 hw;exact ⟨_,_,(.cons (.refl _) (.cons (asL_le e1 ho1) .nil)),rfl,v7j aZ aX aS L1 N _ hN,3,rfl⟩
  ·cases h
 ·cases h
def Db :Specs:=((Da.with w0x fRch).with v0a fFrm)
theorem x1q :Zq prog Db:=(j0d (u9s y5t))
end Go.Am
end
