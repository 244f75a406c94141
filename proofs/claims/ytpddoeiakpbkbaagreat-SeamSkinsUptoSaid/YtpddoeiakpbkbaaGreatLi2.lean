/- A part of a proof: several texts in one. -/
import Derived.Test.YtpddoeiakpbkbaaGreatLi1
import Derived.AtR
import Derived.RangeFuncRecord
import Derived.RangeFuncNested
import Derived.Sort.Grow
import Derived.Deep.Slices
import Derived.Deep.Fields
import Derived.ChangeSame
import Derived.OpenShut
import Derived.Test.YtpddoeiakpbkbaaGreatProg
set_option maxRecDepth 1000000
set_option maxHeartbeats 8000000
set_option linter.unusedVariables false
set_option linter.unusedSimpArgs false
noncomputable section
namespace Go.Am
open IntKind (wrap)
section
variable {Sp:Specs} {z:Nat} {P:Program} {D:List Deferred} {ops:Array Oper} {cx:Ctx} {st:St} {f:Nat→St}
theorem w8l {ρ ρ':Rho} {floor:Nat} {m m':Mem} {n n':Nat} {w w':World} (h:Rel ρ m n w) (h':Rel ρ' m' n' w') (e:Ev ρ ρ' floor m n m' n' w w') {b:Nat} {ab:ABlk} (hm:Yn m b=some ab) (hb: ∀l,ρ b=some l→Jz ρ w' ab l):
  Rel ρ' (Wz .leaf b (some ab)) n' w':=by
 have hbn:b<n:=by
  rcases Bm b n with g | g
  ·exact g
  ·rw [h.bd b g] at hm;cases hm
 have hn:=e.nxt;have hg: ∀c,(Yn (Wz .leaf b (some ab)) c).isSome =true→c=b:=fun c hc=>by
  by_cases hcb:c=b
  ·exact hcb
  ·rw [Zw _ _ hcb] at hc;cases hc
 refine ⟨h'.dom,fun c c' l l' _ _ _ hs hs'=>(hg c hs).trans (hg c' hs').symm,fun c l a hc ha=> ?_,h'.old,fun c l hc hs=> ?_,h'.real,fun c hc=> ?_,h'.ldom⟩
 ·obtain rfl:=hg c (by rw [ha];rfl);rw [Yj] at ha;obtain rfl:=Af ha;rw [e.new c hbn] at hc;have q:=hb l hc;exact q.world e.ext rfl
 ·obtain rfl:=hg c hs;rw [e.new c hbn] at hc;rw [e.still _ (h.real c l hc)];exact h.sep c l hc (by rw [hm];rfl)
 ·rw [Zw _ _ (by omega)];rfl
theorem u5c (g:Reg Sp z P ops cx st f) {ρ0:Rho} {w0:World} (hout: ∀i,cx.n≤i→T.get .undef st.env i=.undef) (hbd: ∀b,st.next≤b→Yn st.mem b=none): ∀(fuel:Nat) (listed:Array Bool) (p:Nat) (ρ:Rho) (a:Act) (w:World),listed.size=ops.size→
  (List.range ops.size).countP (fun i=> !listed.getD i false)=fuel→Inv z P D ops cx st f ρ0 w0 (fun i=>listed.getD i false) p ρ a w→wpAny P .any ops (Fin D ρ0 cx st (f ops.size) w0) fuel listed a w:=by
 have someReady: ∀listed:Array Bool,listed.size=ops.size→ ∀i,i<ops.size→listed.getD i false=false→ ∃j,j∈Region.ready .any ops listed:=by
  intro listed hsz i
  induction i using Nat.strongRecOn with
  | _ i ih=>
   intro hi hl;by_cases h: ∃e∈(ops[i]).after.toList,Region.binds .any e=true∧listed.getD e.on false=false
   ·obtain ⟨e,he,hb,hf⟩:=h;have hlt:=g.chk.ord i ops[i] (by simp [hi]) e he hb;exact ih e.on hlt (by omega) hf
   ·refine ⟨i,mem_ready.2 ⟨?_,ops[i],by simp [hi],fun e he hb=> ?_⟩⟩
    ·have:i<listed.size:=by omega
     simpa [this] using hl
    ·cases hf:listed.getD e.on false with
     | true=>rfl
     | false=>exact absurd ⟨e,A8.2 he,hb,hf⟩ h
 intro fuel
 induction fuel with
 | zero=>
  intro listed p ρ a w hsz hcnt I;have eZ: ∀i,i<ops.size→listed.getD i false=true:=by
   intro i hi;have:=List.countP_eq_zero.1 hcnt i (A0.2 hi)
   simpa using this
  refine ⟨?_,rfl,I.defers,ρ,?_,?_,?_⟩
  ·cases hr:Region.ready .any ops listed with
   | nil=>rfl
   | cons j r=>
    have hj:j∈Region.ready .any ops listed:=by rw [hr];simp
    obtain ⟨h1,o,ho,_⟩:=mem_ready.1 hj;have hjl:j<ops.size:=(AJ.1 ho).1;have:=eZ j hjl;have hj2:j<listed.size:=(by omega);simp [hj2] at h1 this;rw [h1] at this;cases this
  ·refine ⟨I.tsz,fun t=> ?_,fun i hi=> ?_⟩
   ·by_cases hw: ∃(i:Nat) (x:Oper),ops[i]? =some x∧x.dst=some t
    ·obtain ⟨i,x,hx,hd⟩:=hw;have hil:i<ops.size:=(AJ.1 hx).1;obtain ⟨k,hk,rfl⟩:=j8k hil;have hst:(f ops.size).tmp t=(f (k+1)).tmp t:=g.slot_stays (by omega) (Ar _) fun q y h1 h2 hy hyd=>by
      have e:at_ ops k=at_ ops q:=x4k g hx hy hd hyd;rcases z2h (ops:=ops) (k1:=k) (k2:=q) (by omega) h2 with ⟨h3,h4⟩ | ⟨_,h4⟩
      ·rw [e,h4] at h3;cases h3
      ·omega
     show Yw ρ ((f ops.size).tmp t) _;rw [hst];exact I.done k x t hk hx (eZ _ hil) hd
    ·have hst:(f ops.size).tmp t=(f 0).tmp t:=g.slot_stays (AD _) (Ar _) fun q y _ h2 hy hyd=>hw ⟨_,y,hy,hyd⟩;show Yw ρ ((f ops.size).tmp t) _;rw [hst,g.f0];exact I.undone t fun i x hx _ hd=>hw ⟨i,x,hx,hd⟩
   ·have hst:(f ops.size).tmp i=(f 0).tmp i:=g.slot_stays (AD _) (Ar _) fun q y _ h2 hy hyd=>by obtain ⟨o,ho,s⟩:=g.step' h2;rw [hy] at ho;obtain rfl:=Af ho;exact absurd hi (Nat.not_le_of_lt (s.slot i hyd))
    show (f ops.size).tmp i=_;rw [hst,g.f0];exact hout i hi
  ·obtain ⟨e1,e2⟩:=g.mem_stays I.ple (Ar _) fun k o h1 h2 ho=>by
    rcases w2i z o with h | h | h | h
    ·exact .inl h
    ·exact .inr h
    ·have:=I.past k o h2 ho h;omega
    ·have:=(I.chain k o h2 ho h).1 (eZ _ (u5l h2));omega
   rw [e1,e2];exact I.rel
  ·obtain ⟨e1,e2⟩:=g.mem_stays I.ple (Ar _) fun k o h1 h2 ho=>by
    rcases w2i z o with h | h | h | h
    ·exact .inl h
    ·exact .inr h
    ·have:=I.past k o h2 ho h;omega
    ·have:=(I.chain k o h2 ho h).1 (eZ _ (u5l h2));omega
   rw [e1,e2];exact I.ev
 | succ fuel ih=>
  intro listed p ρ a w hsz hcnt I;refine ⟨fun hr=> ?_,fun i hi=> ?_⟩
  ·exfalso;have: ∃i,i<ops.size∧listed.getD i false=false:=by have hpos:0<(List.range ops.size).countP (fun i=> !listed.getD i false):=(by omega);obtain ⟨i,hi,h⟩:=List.countP_pos_iff.1 hpos;exact ⟨i,A0.1 hi,by simpa using h⟩
   obtain ⟨i,hi,h⟩:=this;obtain ⟨j,hj⟩:=someReady listed hsz i hi h;rw [hr] at hj;cases hj
  ·obtain ⟨hun,o,ho,hafter⟩:=mem_ready.1 hi;have hil:i<ops.size:=(AJ.1 ho).1;obtain ⟨k,hk,rfl⟩:=j8k hil;have hil2:at_ ops k<listed.size:=by omega
   have hns:listed.getD (at_ ops k) false=false:=by simpa [hil2] using hun
   have dZ:x5g (fun i=>listed.getD i false) o:=fun e he hb=>hafter e (A8.1 he) hb;have hS: ∀j,(listed.setIfInBounds (at_ ops k) true).getD j false=(listed.getD j false||j == at_ ops k):=by
    intro j;by_cases hj:j=at_ ops k
    ·subst hj;simp [hil2]
    ·have:(j == at_ ops k)=false:=(by simpa using hj);simp [this,Array.getElem?_setIfInBounds_ne (Ne.symm hj)]
   have hcnt':(List.range ops.size).countP (fun i=> !(listed.setIfInBounds (at_ ops k) true).getD i false)=fuel:=by
    have:=z4c (fun i=> !listed.getD i false) (fun i=> !(listed.setIfInBounds (at_ ops k) true).getD i false) (at_ ops k) ops.size (fun j hj=>by
     rw [hS];simp [hj]) (by simp only [hns];rfl) (by rw [hS];simp) hil
    omega
   have fS:(listed.setIfInBounds (at_ ops k) true).size =ops.size:=by simpa using hsz
   have fU:=I.closes ho dZ hS;have undone: ∀{j:Nat},(listed.setIfInBounds (at_ ops k) true).getD j false=false→listed.getD j false=false:=fun {j} h=>by rw [hS] at h;simp only [Bu] at h;exact h.1
   have calms: ∀(k1 q:Nat) (o1 x:Oper),k1<q→q<p→q<ops.size→ops[at_ ops k1]? =some o1→ops[at_ ops q]? =some x→(listed.setIfInBounds (at_ ops k) true).getD (at_ ops k1) false=false→Qo z x→z2m z ops (at_ ops k1) (at_ ops q)=true→u5i z o.op=true:=fun k1 q o1 x c1 c2 c3 c4 c5 c6 c7 c8=>by
    have hq:=(I.chain q x c3 c5 c7).2 c2;have h8:=At.1 c8 (at_ ops k) (A0.2 hil);rw [ho] at h8;simp only [Br] at h8;rcases h8 with h8 | h8 | h8 | h8
    ·exact h8
    ·have e:=Ak h8;rw [e,hq] at hns;cases hns
    ·have:=(g.chk.bits _ _ c5 _ h8).2 _ I.closed fun e he hb=>I.closed _ _ c5 hq e he hb;rw [hns] at this;cases this
    ·have:=(g.chk.bits _ _ ho _ h8).2 _ I.closed dZ;rw [undone c6] at this;cases this
   have notcalm: ∀{α:Prop},Xj z o.op≠ .pure →Xj z o.op≠ .read →u5i z o.op=true→α:=fun h1 h2 h=>by
    unfold u5i at h;split at h
    ·rename_i e;exact absurd e h1
    ·rename_i e;exact absurd e h2
    ·cases h
   obtain ⟨o',ho',s⟩:=g.step' hk;rw [ho] at ho';obtain rfl:=Af ho';have hops:=I.operands g hk ho hns dZ;have hguard: ∀d,Jk ops o=some d→Yw ρ ((f k).tmp d) (a.tmps.getD d undef):=fun d hd=>I.looks g hk ho hns dZ (x3z hd);have hob:=g.ob (k+1) (by omega);have finish: ∀{q:Prop},(if Region.wanted o (yielded ops a.tmps) then o.wp P a w (wpAny P .any ops (Fin D ρ0 cx st (f ops.size) w0) fuel (listed.setIfInBounds (at_ ops k) true)) (Fin D ρ0 cx st (f ops.size) w0) else wpAny P .any ops (Fin D ρ0 cx st (f ops.size) w0) fuel (listed.setIfInBounds (at_ ops k) true) (a.put o.dst undef) w)→
     wpOp P ops (Fin D ρ0 cx st (f ops.size) w0) (at_ ops k) (wpAny P .any ops (Fin D ρ0 cx st (f ops.size) w0) fuel (listed.setIfInBounds (at_ ops k) true)) a w:=by
    intro _ h;unfold wpOp;rw [ho];simp only;split
    ·rename_i hw;rw [AC hw] at h;exact .inl h
    ·rename_i hw;rw [Ay hw] at h;exact h
   have calm:(Xj z o.op=.pure ∨Xj z o.op=.read)→wpOp P ops (Fin D ρ0 cx st (f ops.size) w0) (at_ ops k) (wpAny P .any ops (Fin D ρ0 cx st (f ops.size) w0) fuel (listed.setIfInBounds (at_ ops k) true)) a w:=by
    intro hkd;obtain ⟨memC,hrelC,hagC⟩: ∃memC,Rel ρ memC (f p).next w∧ ∀t y b ab,o.op=.load t y→w1g o.op (f k).eval =some b→Yn (f k).mem b=some ab→Yn memC b=some ab:=by
     by_cases hl: ∃t y b ab q x,o.op=.load t y∧w1g o.op (f k).eval =some b∧Yn (f k).mem b=some ab∧k≤q∧q<p∧ops[at_ ops q]? =some x∧Qo z x∧z2m z ops (at_ ops k) (at_ ops q)=true∧w3y x.op (f q).eval (f q).mem =some b
     ·obtain ⟨t,y,b,ab,q0,x0,hop,hrd,hm,l1,l2,l3,l4,l5,l6⟩:=hl;have fL:Xj z o.op=.read :=by rw [hop];rfl
      obtain ⟨_,b2⟩:=I.between g hk ho hns dZ fL hrd;have hbn:b<(f k).next :=by
       rcases Bm b (f k).next with h | h
       ·exact h
       ·rw [g.bd hbd (by omega) b h] at hm;cases hm
      have first: ∀n q x,q≤n→k≤q→q<p→ops[at_ ops q]? =some x→Qo z x→z2m z ops (at_ ops k) (at_ ops q)=true→w3y x.op (f q).eval (f q).mem =some b→
        ∃q x,k≤q∧q<p∧ops[at_ ops q]? =some x∧Qo z x∧z2m z ops (at_ ops k) (at_ ops q)=true∧w3y x.op (f q).eval (f q).mem =some b∧ ∀q' x',k≤q'→q'<q→ops[at_ ops q']? =some x'→ ¬(Qo z x'∧z2m z ops (at_ ops k) (at_ ops q')=true∧w3y x'.op (f q').eval (f q').mem =some b):=by
       intro n
       induction n with
       | zero=>exact fun q x h0 h1 h2 h3 h4 h5 h6=>⟨q,x,h1,h2,h3,h4,h5,h6,fun q' x' _ h=>by omega⟩
       | succ n ih=>
        intro q x h0 h1 h2 h3 h4 h5 h6;by_cases he: ∃q' x',k≤q'∧q'<q∧ops[at_ ops q']? =some x'∧Qo z x'∧z2m z ops (at_ ops k) (at_ ops q')=true∧w3y x'.op (f q').eval (f q').mem =some b
        ·obtain ⟨q',x',e1,e2,e3,e4,e5,e6⟩:=he;exact ih q' x' (by omega) e1 (by omega) e3 e4 e5 e6
        ·exact ⟨q,x,h1,h2,h3,h4,h5,h6,fun q' x' e1 e2 e3 e4=>he ⟨q',x',e1,e2,e3,e4⟩⟩
      obtain ⟨q,x,h1,h2,h3,h4,h5,h6,h7⟩:=first q0 q0 x0 (Ar _) l1 l2 l3 l4 l5 l6
      have hple:=I.ple;have hne:k≠q:=fun e=>by
       rw [←e,ho] at h3;obtain rfl:=Af h3;rcases h4 with h | h <;> rw [fL] at h <;> cases h
      have hst:=g.blk_stays (x:=b) (a:=k) (b:=q) h1 (by omega) hbn fun q' x' e1 e2 e3=>by
       rcases b2 q' x' e1 (by omega) e3 with d | d | d | d | d | d
       ·exact .inl d
       ·exact .inr (.inl d)
       ·exact .inr (.inr (.inl d))
       ·exact .inr (.inr (.inr (.inl d)))
       ·exact .inr (.inr (.inr (.inr d)))
       ·exact absurd d (h7 q' x' e1 e2 e3)
      refine ⟨_,I.late k q o x b ab (by omega) h2 (by omega) ho h3 hns h4 h5 h6 (by rw [hst];exact hm),fun t' y' b' ab' hop' hrd' hm'=> ?_⟩;rw [hrd] at hrd';obtain rfl:=Af hrd';rw [hm] at hm';obtain rfl:=Af hm';exact Yj _ _ _
     ·refine ⟨(f p).mem,I.rel,fun t y b ab hop hrd hm=> ?_⟩;have fL:Xj z o.op=.read :=by rw [hop];rfl
      obtain ⟨b1,b2⟩:=I.between g hk ho hns dZ fL hrd;have b2: ∀q x,k≤q→q<p→ops[at_ ops q]? =some x→w1n z x∨Xj z x.op=.read ∨(Xj z x.op=.call ∧z5o ops (at_ ops q)=true∧wrC Sp x.op (f q).eval ≠some b)∨(Xj z x.op=.chain ∧x5h x.op (f q).eval ≠some b)∨z9v z x:=fun q x e1 e2 e3=>by
       rcases b2 q x e1 e2 e3 with d | d | d | d | d | d
       ·exact .inl d
       ·exact .inr (.inl d)
       ·exact .inr (.inr (.inl d))
       ·exact .inr (.inr (.inr (.inl d)))
       ·exact .inr (.inr (.inr (.inr d)))
       ·exact absurd ⟨t,y,b,ab,q,x,hop,hrd,hm,e1,e2,e3,d⟩ hl
      have hρ: ∃l,ρ b=some l:=by
       have:=hops y (by rw [hop];simp [Op.operands]);rw [hop] at hrd;simp only [w1g] at hrd;generalize a.eval y=uy at this;split at hrd
       ·rename_i hy;rw [hy] at this;obtain rfl:=Af hrd;cases this with
        | ptr _ _ l h=>exact ⟨l,h⟩
       ·rename_i hy;rw [hy] at this;obtain rfl:=Af hrd;cases this with
        | epa _ _ _ _ l h=>exact ⟨l,h⟩
       ·cases hrd
      obtain ⟨l,hl⟩:=hρ;rcases Nat.le_total p k with hpk | hpk
      ·have:=g.blk_stays (x:=b) hpk (by omega) (I.rel.dom b l hl) b1;rw [←this];exact hm
      ·have hbn:b<(f k).next :=by
        rcases Bm b (f k).next with h | h
        ·exact h
        ·rw [g.bd hbd (by omega) b h] at hm;cases hm
       have:=g.blk_stays (x:=b) hpk I.ple hbn b2;rw [this];exact hm
    refine finish (q:=True) (s.calm hob hkd ρ a w (f k).eval memC (f p).next I.tsz (fun _ _=>rfl) hguard hops hrelC hagC _ _ fun u eC=> ?_)
    ·obtain ⟨d1,d2⟩:=I.slots g hk ho hns (Rho.le_refl ρ) eC hS;refine ih _ p ρ _ w fS hcnt' ⟨fU,by rw [Act.put_defers'];exact I.defers,by cases h:o.dst <;> simp [Act.put,I.tsz],d1,d2,I.ple,I.past,fun q x hq hx hc=> ?_,I.rel,I.ev,fun k1 q o1 x b ab c1 c2 c3 c4 c5 c6=>I.late k1 q o1 x b ab c1 c2 c3 c4 c5 (undone c6),fun q x hq hx hnw hs=> ?_⟩
     ·have hne:at_ ops q≠at_ ops k:=fun e=>by
       rw [e,ho] at hx;obtain rfl:=Af hx;rcases hc with h | h <;> rcases hkd with h' | h' <;> rw [h] at h' <;> cases h'
      rw [hS]
      simpa [hne] using I.chain q x hq hx hc
     ·rw [hS] at hs;simp only [Bu] at hs;exact I.allocs q x hq hx hnw hs.1
   rcases w2i z o with (hkd | hkd) | hkd | hkd | hkd
   ·exact calm (.inl hkd)
   ·-- a slice that is written out, as data
    refine finish (q:=True) (s.lit hob hkd ρ a w (f k).eval (f p).mem (f p).next I.tsz (fun _ _=>rfl) hguard hops I.rel _ _ fun ρ' u w' eC eT eB hev=> ?_);obtain ⟨d1,d2⟩:=I.slots g hk ho hns (hev cx.floor (f p).mem).ext eC hS;refine ih _ p ρ' _ w' fS hcnt' ⟨fU,by rw [Act.put_defers'];exact I.defers,by cases h:o.dst <;> simp [Act.put,I.tsz],d1,d2,I.ple,I.past,fun q x hq hx hc=> ?_,eT,I.ev.trans (hev _ _),fun k1 q o1 x b ab c1 c2 c3 c4 c5 c6 c7 c8=>notcalm (by rw [hkd];exact fun h=>by cases h) (by rw [hkd];exact fun h=>by cases h) (calms k1 q o1 x c1 c2 c3 c4 c5 c6 c7 c8),fun q x hq hx hnw hs=> ?_⟩
    ·have hne:at_ ops q≠at_ ops k:=fun e=>by
      rw [e,ho] at hx;obtain rfl:=Af hx;rcases hc with h | h <;> rw [h] at hkd <;> cases hkd
     rw [hS]
     simpa [hne] using I.chain q x hq hx hc
    ·rw [hS] at hs;simp only [Bu] at hs;obtain ⟨m1,m2,m3,m4⟩:=I.allocs q x hq hx hnw hs.1;exact ⟨m1,m2,by rw [eB];exact m3,m4⟩
   ·exact calm (.inr hkd)
   ·-- a block is made
    have hgn:=g.chk.guard _ o ho hkd;obtain ⟨cells,ty,hm1,hn1,hborn⟩:=s.fresh hob hkd hgn;obtain ⟨l1,l2,l3,l4⟩:=I.allocs k o hk ho hkd hns;rw [hm1,Yj] at l4;obtain ⟨u,vs,el,hvs,dS,eC⟩:=hborn ρ a w (f k).eval (fun _ _=>rfl) hops;have eT:=I.rel.birth l2 l3 l4 el hvs;refine finish (q:=True) ?_;rw [AC (by unfold Region.wanted;rw [hgn])];unfold Oper.wp;rw [dS];have hle:ρ.le (Uw ρ (f k).next ⟨w.heap.size,0,cells.length,vs.size⟩):=z1a l3;obtain ⟨d1,d2⟩:=I.slots g hk ho hns hle (u:=u) (fun d hd=>eC _ (by simp [Uw]) d hd) hS;have ev':Ev ρ0 (Uw ρ (f k).next ⟨w.heap.size,0,cells.length,vs.size⟩) cx.floor st.mem st.next (f p).mem (f p).next w0 {w with heap:=w.heap.push (.cells vs el)}:=by
     have e:=I.ev;refine ⟨Rho.le_trans e.ext hle,fun b hb=> ?_,e.nxt,e.unborn,fun q ob hq hf=> ?_,fun b l hb hl=> ?_,?_,e.os,e.tape,e.output,e.still⟩
     ·rw [←e.new b hb];rw [Uq,Ay (by omega)]
     ·have:=e.frame q ob hq hf;have hlt:q<w.heap.size:=(AJ.1 this).1;simp only [Bp,A7 hlt,Cr];exact this
     ·rw [Uq] at hl;by_cases hbk:b=(f k).next
      ·rw [AC hbk] at hl;obtain rfl:=Af hl;exact .inl e.size
      ·rw [Ay hbk] at hl;exact e.fresh b l hb hl
     ·have:=e.size;simp;omega
    refine ih _ p _ _ _ fS hcnt' ⟨fU,by rw [Act.put_defers'];exact I.defers,by cases h:o.dst <;> simp [Act.put,I.tsz],d1,d2,I.ple,I.past,fun q x hq hx hc=> ?_,eT,ev',fun k1 q o1 x b ab c1 c2 c3 c4 c5 c6 c7 c8=>notcalm (by rcases hkd with h | h <;> rw [h] <;> exact fun h=>by cases h) (by rcases hkd with h | h <;> rw [h] <;> exact fun h=>by cases h) (calms k1 q o1 x c1 c2 c3 c4 c5 c6 c7 c8),fun q x hq hx hnw hs=> ?_⟩
    ·have hne:at_ ops q≠at_ ops k:=fun e=>by
      rw [e,ho] at hx;obtain rfl:=Af hx;rcases hc with h | h <;> rcases hkd with h' | h' <;> rw [h] at h' <;> cases h'
     rw [hS]
     simpa [hne] using I.chain q x hq hx hc
    ·rw [hS] at hs;simp only [Bu] at hs;obtain ⟨m1,m2,m3,m4⟩:=I.allocs q x hq hx hnw hs.1;refine ⟨m1,m2,?_,m4⟩;have hne:(f q).next ≠(f k).next :=by
      have hqk:q≠k:=fun e=>by rw [e] at hs;simp at hs
      have up: ∀q x,q<ops.size→ops[at_ ops q]? =some x→z9v z x→(f (q+1)).next =(f q).next +1:=by intro q x hq hx hn;obtain ⟨x',hx',s'⟩:=g.step' hq;rw [hx] at hx';obtain rfl:=Af hx';obtain ⟨_,_,_,h6,_⟩:=s'.fresh (g.ob _ (by omega)) hn (g.chk.guard _ x hx hn);exact h6
      rcases Bt q k with h | h | h
      ·have h1:=up q x hq hx hnw;have h2:=g.next_le (a:=q+1) (b:=k) (by omega) (by omega);omega
      ·exact absurd h hqk
      ·have h1:=up k o hk ho hkd;have h2:=g.next_le (a:=k+1) (b:=q) (by omega) (by omega);omega
     rw [Uq];rw [Ay hne];exact m3
   ·-- the next one that may write
    obtain ⟨hpk,hch⟩:=I.next_chain g hk ho hns dZ hkd;obtain ⟨e1,e2⟩:=g.mem_stays hpk (by omega) fun q x h1 h2 hx=>by
     rcases w2i z x with h | h | h | h
     ·exact .inl h
     ·exact .inr h
     ·have:=I.past q x (by omega) hx h;omega
     ·have:=(I.chain q x (by omega) hx h).1 ((hch q x (by omega) hx h).2 h2);omega
    have dQ:Rel ρ (f k).mem (f k).next w:=by rw [e1,e2];exact I.rel
    refine finish (q:=True) (s.does hob hkd ρ a w (f k).eval I.tsz (fun _ _=>rfl) hguard hops dQ _ _ fun ρ' u w' eC eT hev hlate=> ?_);obtain ⟨d1,d2⟩:=I.slots g hk ho hns hev.ext eC hS;have hev0:=hev;rw [e1,e2] at hev;refine ih _ (k+1) ρ' _ w' fS hcnt' ⟨fU,by rw [Act.put_defers'];exact I.defers,by cases h:o.dst <;> simp [Act.put,I.tsz],d1,d2,by omega,fun q x hq hx hc=>by have:=I.past q x hq hx hc;omega,fun q x hq hx hc=> ?_,eT,I.ev.trans hev,fun k1 q o1 x b ab c1 c2 c3 c4 c5 c6 c7 c8 c9 c10=> ?late,fun q x hq hx hnw hs=> ?_⟩
    case late=>
     by_cases hqk:q=k
     ·subst hqk;rw [ho] at c5;obtain rfl:=Af c5;exact w8l dQ eT hev0 c10 fun l hl=>hlate b ab l c9 c10 hl
     ·have hqs:=(hch q x c3 c5 c7).2 (by omega);have hqp:=(I.chain q x c3 c5 c7).1 hqs;exact notcalm (by rcases hkd with h | h <;> rw [h] <;> exact fun h=>by cases h) (by rcases hkd with h | h <;> rw [h] <;> exact fun h=>by cases h) (calms k1 q o1 x c1 hqp c3 c4 c5 c6 c7 c8)
    ·rw [hS];by_cases hqk:q=k
     ·subst hqk;simp
     ·have hne:at_ ops q≠at_ ops k:=fun e=>by
       rcases Bm q k with h | h
       ·rcases z2h (ops:=ops) h hk with ⟨h3,h4⟩ | ⟨_,h4⟩
        ·rw [e,h4] at h3;cases h3
        ·omega
       ·rcases z2h (ops:=ops) (k1:=k) (k2:=q) (by omega) hq with ⟨h3,h4⟩ | ⟨_,h4⟩
        ·rw [←e,h4] at h3;cases h3
        ·omega
      have:=hch q x hq hx hc;simp only [beq_eq_false_iff_ne.2 hne,Cg];rw [this];omega
    ·rw [hS] at hs;simp only [Bu] at hs;obtain ⟨m1,m2,m3,m4⟩:=I.allocs q x hq hx hnw hs.1;obtain ⟨x',hx',s'⟩:=g.step' hq;rw [hx] at hx';obtain rfl:=Af hx';obtain ⟨cells,ty,hm1,_,_⟩:=s'.fresh (g.ob _ (by omega)) hnw (g.chk.guard _ x hx hnw);have e0:Yn (f (q+1)).mem (f q).next =some ⟨cells,ty,none⟩:=by rw [hm1,Yj]
     rw [e0] at m4;refine ⟨m1,Ba m2 hev.nxt,by rw [hev.new _ m2];exact m3,by rw [e0];exact hev.unborn _ m2 m3 _ _ m4⟩
theorem v6x (g:Reg Sp z P ops cx st f) {ρ:Rho} {a:Act} {w:World} (hd:a.defers=D) (dU:Wg ρ st.env cx.n a.tmps) (dQ:Rel ρ st.mem st.next w):
  ∃p,Inv z P D ops cx st f ρ w (fun i=>(Array.replicate ops.size false).getD i false) p ρ a w:=by
 have hf: ∀i,(Array.replicate ops.size false).getD i false=false:=fun i=>by
  by_cases h:i<ops.size
  ·simp [h]
  ·simp [h]
 have hA: ∃p,p≤ops.size∧(∀k o,k<ops.size→ops[at_ ops k]? =some o→z9v z o→k<p)∧(p=0∨ ∃o,ops[at_ ops (p - 1)]? =some o∧z9v z o):=by
  have: ∀n,n≤ops.size→ ∃p,p≤n∧(∀k o,k<n→ops[at_ ops k]? =some o→z9v z o→k<p)∧(p=0∨ ∃o,ops[at_ ops (p - 1)]? =some o∧z9v z o):=by
   intro n
   induction n with
   | zero=>intro _;exact ⟨0,Ar _,fun k o h=>by omega,.inl rfl⟩
   | succ n ih=>
    intro hn;obtain ⟨p,hp,hk,fA⟩:=ih (by omega);have hlt:=u5l (ops:=ops) (k:=n) (by omega);have hx:ops[at_ ops n]? =some ops[at_ ops n]:=(by simp [hlt]);by_cases e:z9v z ops[at_ ops n]
    ·exact ⟨n+1,Ar _,fun k o h _ _=>h,.inr ⟨_,hx,e⟩⟩
    ·refine ⟨p,by omega,fun k o h ho hnw=> ?_,fA⟩;by_cases hkn:k=n
     ·subst hkn;rw [hx] at ho;obtain rfl:=Af ho;exact absurd hnw e
     ·exact hk k o (by omega) ho hnw
  exact this ops.size (Ar _)
 obtain ⟨p,hp,hpk,fA⟩:=hA;have noch: ∀k o,k<p→ops[at_ ops k]? =some o→ ¬Qo z o:=by
  intro k o hk ho hc;rcases fA with h0 | ⟨x,hx,hnw⟩
  ·omega
  ·by_cases hkp:k=p - 1
   ·rw [←hkp,ho] at hx;obtain rfl:=Af hx;rcases hc with h | h <;> rcases hnw with h' | h' <;> rw [h] at h' <;> cases h'
   ·have nal:isAlloc ops (at_ ops k)=false:=by
     cases e:isAlloc ops (at_ ops k) with
     | false=>rfl
     | true=>
      have:=(Jj (z:=z) ho).1 e;rcases hc with h | h <;> rw [h] at this <;> cases this
    rcases z2h (ops:=ops) (k1:=k) (k2:=p - 1) (by omega) (by omega) with ⟨h3,_⟩ | ⟨h3,h4⟩
    ·rw [nal] at h3;cases h3
    ·rw [nal] at h3;rcases hnw with hnw | hnw
     ·have:=(Jj (z:=z) hx).2 hnw;rw [this] at h3;cases h3
     ·exact g.chk.birth _ _ _ _ h4 ho hx hnw hc
 have stepAt: ∀k,k<p→((f (k+1)).mem =(f k).mem ∧(f (k+1)).next =(f k).next)∨ ∃cells ty,(f (k+1)).mem =Wz (f k).mem (f k).next (some ⟨cells,ty,none⟩)∧(f (k+1)).next =(f k).next +1:=by
  intro k hk;obtain ⟨o,ho,s⟩:=g.step' (k:=k) (by omega);rcases w2i z o with h | h | h | h
  ·exact .inl (s.stay (by rcases h with h | h <;> simp [h]))
  ·exact .inl (s.stay (.inr (.inl h)))
  ·obtain ⟨cells,ty,h1,h2,_⟩:=s.fresh (g.ob _ (by omega)) h (g.chk.guard _ o ho h);exact .inr ⟨cells,ty,h1,h2⟩
  ·exact absurd h (noch k o hk ho)
 have start: ∀k,k≤p→Rel ρ (f k).mem (f k).next w∧Ev ρ ρ cx.floor st.mem st.next (f k).mem (f k).next w w:=by
  intro k
  induction k with
  | zero=>intro _;rw [g.f0];exact ⟨dQ,Ev.refl _ _ _ _ _ dQ.dom⟩
  | succ k ih=>
   intro hk;obtain ⟨hr,he⟩:=ih (by omega);rcases stepAt k (by omega) with ⟨h3,h4⟩ | ⟨cells,ty,h3,h4⟩
   ·rw [h3,h4];exact ⟨hr,he⟩
   ·rw [h3,h4];refine ⟨hr.unborn _,he.trans ⟨Rho.le_refl _,fun _ _=>rfl,Cs _,fun b hb _ cs ty hm=>by rw [Zw _ _ (by omega)];exact hm,fun _ _ h _=>h,fun b l hb hl=>by have:=hr.dom b l hl;omega,Ar _,rfl,rfl,rfl,fun _ _=>rfl⟩⟩
 have later: ∀k k',(f (k+1)).next =(f k).next +1→k<k'→k'≤p→(f k).next <(f k').next ∧Yn (f k').mem (f k).next =Yn (f (k+1)).mem (f k).next :=by
  intro k k' hk1 hk
  induction k' with
  | zero=>omega
  | succ k' ih=>
   intro hk';by_cases e:k=k'
   ·subst e;exact ⟨by omega,rfl⟩
   ·obtain ⟨h1,h2⟩:=ih (by omega) (by omega);rcases stepAt k' (by omega) with ⟨h3,h4⟩ | ⟨cells,ty,h3,h4⟩
    ·rw [h3,h4];exact ⟨h1,h2⟩
    ·refine ⟨by omega,?_⟩;rw [h3,Zw _ _ (by omega)];exact h2
 obtain ⟨hrp,hep⟩:=start p (Ar _);refine ⟨p,?_,hd,dU.size,?_,?_,hp,hpk,?_,hrp,hep,fun k q o x b ab _ hqp _ _ hx _ hc=>absurd hc (noch q x hqp hx),?_⟩
 ·intro j o _ hs;simp only [hf] at hs;cases hs
 ·intro k o d _ _ hs;simp only [hf] at hs;cases hs
 ·intro t _;exact dU.get t
 ·intro k o hk ho hc;simp only [hf];constructor
  ·intro h;cases h
  ·intro h;exact absurd hc (noch k o h ho)
 ·intro k o hk ho hnw _;have hkp:k<p:=hpk k o hk ho hnw;obtain ⟨o',ho',s⟩:=g.step' (k:=k) hk;rw [ho] at ho';obtain rfl:=Af ho';obtain ⟨cells,ty,h3,h4,_⟩:=s.fresh (g.ob _ (by omega)) hnw (g.chk.guard _ o ho hnw);obtain ⟨h5,h6⟩:=later k p h4 hkp (Ar _);have hge:st.next≤(f k).next :=by have:=g.next_le (a:=0) (b:=k) (AD _) (by omega);rw [g.f0] at this;exact this
  refine ⟨hge,h5,?_,h6⟩;cases e:ρ (f k).next with
  | none=>rfl
  | some l=>have:=dQ.dom _ l e;omega
theorem z9o {S:Specs} {R:Runner} (hN:y0s P) (hS:Zu P S) (hRI:w7j R) (hR:ROk P R) {st':St} (hcx:cx.floor≤st.next) (eW:y8f z ops=true)
  (h:y1p z P S R ops cx (z2f ops) [] st=some st') (ho:st'.ob=true) {ρ:Rho} {a:Act} {w:World} (hd:a.defers=D) (dU:Wg ρ st.env cx.n a.tmps) (dQ:Rel ρ st.mem st.next w):
  wpAny P .any ops (Fin D ρ cx st st' w) ops.size (Array.replicate ops.size false) a w:=by
 obtain ⟨f,f0,fn,fs,_,fp⟩:=z3u (z2f ops) [] st st' h;have dR:(z2f ops).length =ops.size:=by simp [z2f,Xw]
 rw [dR] at fn;have eY: ∀(k:Nat) (hk:k<(Yk ops).length),cx.floor≤(f k).next →u5o S z P ops cx (z5o ops (Yk ops)[k],ops.getD (Yk ops)[k] default) (f k) (f (k+1)):=by intro k hk hc;have:=fs k (by rw [dR,←Xw];exact hk);simp only [z2f,B5] at this;exact w7z hN hS hRI hR hc this
 have hnx: ∀k,k≤ops.size→cx.floor≤(f k).next :=by
  intro k
  induction k with
  | zero=>intro _;rw [f0];exact hcx
  | succ k ih=>intro hk;have hc:=ih (by omega);exact AK hc (eY k (by rw [Xw];omega) hc).inv.nxt
 have hob: ∀k,k≤ops.size→(f (ops.size - k)).ob =true:=by
  intro k
  induction k with
  | zero=>intro _;rw [Nat.sub_zero,fn];exact ho
  | succ k ih=>
   intro hk;have hk':ops.size - (k+1)<(Yk ops).length :=by rw [Xw];omega
   have s:=eY _ hk' (hnx _ (by omega));refine s.inv.ob ?_;rw [show ops.size - (k+1)+1=ops.size - k by omega];exact ih (by omega)
 have g:Reg S z P ops cx st f:=⟨z8c eW,f0,hcx,fun k hk=>by
  have:=hob (ops.size - k) (by omega);rwa [show ops.size - (ops.size - k)=k by omega] at this,fun k hk=>eY k hk (hnx k (by rw [Xw] at hk;omega)),fun q k hq hk=>by
   have:=fp q k hq (by rw [dR,←Xw];exact hk)
   simpa only [z2f,B5] using this⟩
 obtain ⟨p,I⟩:=v6x g hd dU dQ;have:=u5c g dU.out dQ.bd ops.size (Array.replicate ops.size false) p ρ a w (by simp) (by
  rw [List.countP_eq_length.2]
  ·simp
  ·intro i hi;have:=A0.1 hi;simp [this]) I
 rwa [fn] at this
theorem x1j {S:Specs} {R:Runner} (hRI:w7j R): ∀(l:List (Bool×Oper)) (st st':St),x1k P S R ops cx l st=some st'→Xe cx.floor st st'
 | [],st,st',h=>by have h:some st=some st':=h;obtain rfl:=Af h;exact Xe.refl _ _
 | x::l,st,st',h=>by
  rw [z7t,BF] at h;obtain ⟨st1,h1,h2⟩:=h;refine Xe.trans ?_ (x1j hRI l st1 st' h2);unfold y9g at h1;split at h1
  ·cases h1
  ·rename_i st2 hw;obtain ⟨w1,w2,w3⟩:=Wu hw;refine (Xe.same w1 w2 fun h=>(w3 h).1).trans ?_;unfold z9p at h1;split at h1
   ·split at h1
    ·rename_i st3 ho;obtain ⟨_,e2,e3,e4⟩:=Xi ho;obtain ⟨p1,p2,p3,_⟩:=Wn h1;exact (Xe.same e2 e3 fun h=>(e4 h).2).trans (Xe.same p1 p2 fun h=>by rw [←p3];exact h)
    ·cases h1
   ·split at h1
    ·rename_i v st3 he;obtain ⟨p1,p2,p3,_⟩:=Wn h1;exact (y8s hRI he).1.trans (Xe.same p1 p2 fun h=>by rw [←p3];exact h)
    ·cases h1
  ·rename_i st2 hw;obtain ⟨w1,w2,w3⟩:=Wu hw;obtain ⟨p1,p2,p3,_⟩:=Wn h1;exact (Xe.same w1 w2 fun h=>(w3 h).1).trans (Xe.same p1 p2 fun h=>by rw [←p3];exact h)
theorem v2y {S:Specs} {R:Runner} (hRI:w7j R) {x:Bool×Oper} {st st':St} (h:x9e z P S R ops cx x st=some st'):Xe cx.floor st st':=by
 unfold x9e at h;cases hz:y9j z x.2.op with
 | false=>
  rw [hz,Aa] at h;cases hz2:isBirth z x.2.op with
  | true=>
   rw [hz2,Ab] at h;split at h
   ·cases h
   ·rename_i st2 hw;obtain ⟨w1,w2,w3⟩:=Wu hw;unfold y8l at h;split at h
    ·split at h
     ·obtain ⟨p1,p2,p3,_⟩:=Wn h;exact ((Xe.same w1 w2 fun h=>(w3 h).1).trans (Xe.new _ _ _)).trans (Xe.same p1 p2 fun h=>by rw [←p3];exact h)
     ·cases h
    ·cases h
   ·rename_i st2 hw;obtain ⟨w1,w2,w3⟩:=Wu hw;obtain ⟨p1,p2,p3,_⟩:=Wn h;exact (Xe.same w1 w2 fun h=>(w3 h).1).trans (Xe.same p1 p2 fun h=>by rw [←p3];exact h)
  | false=>rw [hz2,Aa] at h;exact x1j hRI [x] st st' (by rw [z7t,h];rfl)
 | true=>
  rw [hz,Ab] at h;split at h
  ·cases h
  ·rename_i st2 hw;obtain ⟨w1,w2,w3⟩:=Wu hw;unfold w2d at h;split at h
   ·split at h
    ·obtain ⟨p1,p2,p3,_⟩:=Wn h;exact (Xe.same w1 w2 fun h=>(w3 h).1).trans (Xe.same p1 p2 fun h=>by rw [←p3];exact h)
    ·cases h
   ·cases h
  ·rename_i st2 hw;obtain ⟨w1,w2,w3⟩:=Wu hw;obtain ⟨p1,p2,p3,_⟩:=Wn h;exact (Xe.same w1 w2 fun h=>(w3 h).1).trans (Xe.same p1 p2 fun h=>by rw [←p3];exact h)
theorem y7a {S:Specs} {R:Runner} (hRI:w7j R) (l:List (Nat×Bool×Oper)) (acc:List Foot) (st st':St) (h:y1p z P S R ops cx l acc st=some st'):Xe cx.floor st st':=by
 obtain ⟨f,f0,fn,fs,_,_⟩:=z3u l acc st st' h;have: ∀k,k≤l.length→Xe cx.floor st (f k):=by
  intro k
  induction k with
  | zero=>intro _;rw [f0];exact Xe.refl _ _
  | succ k ih=>intro hk;refine (ih (by omega)).trans ?_;have:=fs k (by omega);exact v2y hRI this
 rw [←fn];exact this _ (Ar _)
end
section
variable {P:Program}
theorem x6f {H:Old} {w:World} (hH: ∀k o,H k=some o→w.heap[k]? =some o):Rel (z2w H) .leaf 0 w:=
 ⟨(fun b l h=>by cases h),(fun b b' l l' h=>by cases h),(fun b l ab h=>by cases h),hH,(fun b l h=>by cases h),(fun b l h=>by cases h),(fun b _=>rfl),(fun j l h=>by cases h)⟩
structure Out (H:Old) (w:World) (ρ:Rho) (v:AVal) (u:Value) (w':World):Prop where
 val:Yw ρ v u
 le: ∀k o,H k=some o→ρ.fz k=some o
 old: ∀k o,ρ.fz k=some o→w'.heap[k]? =some o
 same: ∀k,k<w.heap.size→ρ.fz k=H k
 below:RowKit.Below w.heap.size w w'
theorem out_of {H:Old} {w w':World} {ρ:Rho} {v:AVal} {u:Value} {mem:Mem} {next floor:Nat} (hv:Yw ρ v u) (hr:Rel ρ mem next w') (hev:Ev (z2w H) ρ floor .leaf 0 mem next w w'):Out H w ρ v u w':=
 ⟨hv,hev.ext.2.1,hr.old,hev.still,hev.os,hev.tape,hev.output,hev.size,fun k hk=>by
  have:w.heap[k]? =some w.heap[k]:=by simp [hk]
  rw [this];exact hev.frame k _ this fun b l hl=>by cases hl⟩
def noSpecs :Specs:=fun _=>none
theorem Zm :Zu P noSpecs:=fun f F h=>by cases h
end
abbrev RegOps :=Array Oper×Nat×List Oper
structure AFr where
 cx:Ctx
 ro:Option RegOps
 todo:List Item
 rnd:Option Nat
 rs:List ResultVar
 env:T AVal
structure ALoop where
 st:LoopState
 pend:Option Code
 n:Nat
 env:T AVal
 params:List Tmp
 assign:Code
 body:Code
abbrev Loops :=T (Option ALoop)
def y5m (m:Loops) (b:Nat):Option ALoop:=T.get none m b
def v2d (m:Loops) (b:Nat) (o:Option ALoop):Loops:=T.set none m b o
structure Cfg where
 cx:Ctx
 ro:Option RegOps
 todo:List Item
 rnd:Option Nat
 rs:List ResultVar
 st:St
 cs:List AFr
 lps:Loops
def popS (v:AVal) (st:St) (lps:Loops):List AFr→Option Cfg
 | ⟨cx,some (ops,i,o::l),todo,rnd,rs,env⟩::cs=>match (st.withEnv env).put cx o.dst v with
  | some st'=>some ⟨cx,some (ops,i+1,l),todo,rnd,rs,st',cs,lps⟩
  | none=>none
 | ⟨cx,none,.inRangeFunc j::k,rnd,rs,env⟩::cs=>some ⟨cx,none,.endRangeFunc j::k,rnd,rs,st.withEnv env,cs,lps⟩
 | _=>none
def x7b :Option Code→LoopState
 | none=>.ready
 | some _=>.done
def rndOk (lps:Loops):Option Nat→Bool
 | none=>true
 | some j=>(y5m lps j).isSome
def x6y (P:Program) (rnd:Option Nat) (rs:List ResultVar) (st:St) (cs:List AFr) (lps:Loops) (jump:Option Code):Option Cfg:=
 match rnd with
 | none=>match Qz P st rs with
  | some vs=>popS (z0h vs) st lps cs
  | none=>none
 | some j=>match y5m lps j with
  | some ⟨_,_,n,env,params,assign,body⟩=>
   popS (.bool jump.isNone) st (v2d lps j (some ⟨x7b jump,jump,n,env,params,assign,body⟩)) cs
  | none=>none
def x3c (n:Nat):List Tmp→List AVal→T AVal→Option (T AVal)
 | [],[],env=>some env
 | t::ts,a::l,env=>bif Nat.ble (t+1) n then x3c n ts l (T.set .undef env t a) else none
 | _,_,_=>none
def x2e (P:Program) (f:FuncId) (args:List AVal) (fr:AFr) (st:St) (cs:List AFr) (lps:Loops):Option Cfg:=
 match P.funcs[f]? with
 | some fn=>match fn.body with
  | some body=>some ⟨⟨Nat.max fn.ntmps args.length,fr.cx.floor,fr.cx.sym⟩,none,[.code body],none,fn.results.toList,st.withEnv (y2c args 0 .leaf),fr::cs,lps⟩
  | none=>none
 | none=>none
def u7t (j:Nat) (args:List AVal) (fr:AFr) (st:St) (cs:List AFr) (lps:Loops):Option Cfg:=
 match y5m lps j with
 | some ⟨_,_,n,env,params,assign,body⟩=>match x3c n params args env with
  | some env'=>some ⟨⟨n,fr.cx.floor,fr.cx.sym⟩,none,[.code assign,.beginRound,.code body],some j,[],st.withEnv env',fr::cs,lps⟩
  | none=>none
 | none=>none
def callee (S:Specs) (st:St) (op:Op):Option ((FuncId×List AVal) ⊕ (Nat×List AVal)):=
 match op with
 | .call {callee:=.value f,args,argTypes:=_}=>match st.eval f with
  | .fn g caps=>match S g with
   | some _=>none
   | none=>some (.inl (g,args.toList.map st.eval++caps))
  | .fnb g first=>match S g with
   | some _=>none
   | none=>some (.inl (g,first++args.toList.map st.eval))
  | .yld j=>some (.inr (j,args.toList.map st.eval))
  | _=>none
 | _=>none
def v2z (P:Program) (S:Specs) (Rc:Runner) (cx:Ctx) (ops:Array Oper) (i:Nat) (o:Oper) (l:List Oper) (todo:List Item) (rnd:Option Nat) (rs:List ResultVar) (st:St) (cs:List AFr) (lps:Loops):Option Cfg:=
 match z0b ops o cx st with
 | some (true,st)=>match callee S st o.op with
  | some (.inl (g,args))=>x2e P g args ⟨cx,some (ops,i,o::l),todo,rnd,rs,st.env⟩ st cs lps
  | some (.inr (j,args))=>u7t j args ⟨cx,some (ops,i,o::l),todo,rnd,rs,st.env⟩ st cs lps
  | none=>match z9p P S Rc false o cx st with
   | some st=>some ⟨cx,some (ops,i+1,l),todo,rnd,rs,st,cs,lps⟩
   | none=>none
 | some (false,st)=>match st.put cx o.dst (.tup []) with
  | some st=>some ⟨cx,some (ops,i+1,l),todo,rnd,rs,st,cs,lps⟩
  | none=>none
 | none=>none
def z3x (ops:Array Oper):Bool:=ops.toList.all fun o=>match o.op with
 | .defer _=>false
 | _=>true
def stubOp (o:Oper):Oper:=⟨none,.move (.const (.bool true)),o.type,o.pos,o.after,none⟩
def Wv (ops:Array Oper) (m:Nat):Array Oper:=⟨ops.toList.take m++(ops.toList.drop m).map stubOp⟩
def u5t (ops:Array Oper) (m:Nat):Bool:=
 z3x ops&&(y8f 0 (Wv ops m)&&(((List.range ops.size).all fun j=>Nat.ble (j+1) m||(List.range j).all fun i=>((v1o (Wv ops m).toList []).getD j 0).testBit i)&&((List.range m).all fun i=>match ops[i]? with
  | some ⟨_,_,_,_,_,some (j,_)⟩=>Nat.ble (j+1) m
  | _=>true)))
def j1s (f:Operand):List Oper→Operand
 | []=>f
 | ⟨some d,.move x,_,_,_,_⟩::l=>match f with
  | .tmp t=>bif Nat.beq t d then x else j1s f l
  | _=>f
 | _::l=>j1s f l
def v6v (st:St) (ops:List Oper):Oper→Bool
 | ⟨_,.call ⟨.value f,_,_⟩,_,_,_,_⟩=>match st.eval (j1s f ops) with
  | .yld _=>true
  | _=>false
 | _=>false
def x2r (st:St) (ops:List Oper):List Oper→Nat→Option Nat
 | [],_=>none
 | o::l,i=>bif v6v st ops o then some i else x2r st ops l (i+1)
def j1f (ops:Array Oper) (st:St):Option Nat:=
 match x2r st ops.toList ops.toList 0 with
 | some m=>bif u5t ops m then some m else none
 | none=>none
def tryZ (ops:Array Oper):List Nat→Option Nat
 | []=>none
 | z::l=>bif y8f z ops then some z else tryZ ops l
def hasApp (ops:Array Oper):Bool:=ops.toList.any fun o=>match o.op with
 | .call {callee:=.builtin .append,.. }=>true
 | _=>false
def j5k (ops:Array Oper):Bool:=ops.toList.any fun o=>match o.op,o.dst with
 | .buildSlice _ _ _,some d=>ops.toList.any fun p=>match p.op with
  | .call {callee:=.value _,args,argTypes:=_}=>args.toList.any fun a=>match a with
   | .tmp t=>Nat.beq t d
   | _=>false
  | _=>false
 | _,_=>false
def j5j (ops:Array Oper):Option Nat:=bif z3x ops then tryZ ops (bif j5k ops then [1,0,2] else bif hasApp ops then [0,2,3,1] else [0,1,2]) else none
def St.nextId :St→Nat×St
 | ⟨env,mem,next,orc,ob⟩=>(next,⟨env,mem,next+1,orc,ob⟩)
def w8a (P:Program) (S:Specs) (Rc:Runner):Cfg→Option Cfg
 | ⟨cx,some (_,_,[]),todo,rnd,rs,st,cs,lps⟩=>some ⟨cx,none,todo,rnd,rs,st,cs,lps⟩
 | ⟨cx,some (ops,i,o::l),todo,rnd,rs,st,cs,lps⟩=>v2z P S Rc cx ops i o l todo rnd rs st cs lps
 | ⟨cx,none,todo,rnd,rs,st,cs,lps⟩=>match todo with
  | []=>x6y P rnd rs st cs lps none
  | .code .ret ::_=>x6y P rnd rs st cs lps (some .ret)
  | .code .skip ::k=>some ⟨cx,none,k,rnd,rs,st,cs,lps⟩
  | .code (.label _)::k=>some ⟨cx,none,k,rnd,rs,st,cs,lps⟩
  | .inBlock _::k=>some ⟨cx,none,k,rnd,rs,st,cs,lps⟩
  | .inScope _::k=>some ⟨cx,none,k,rnd,rs,st,cs,lps⟩
  | .code (.seq a b)::k=>some ⟨cx,none,.code a::.code b::k,rnd,rs,st,cs,lps⟩
  | .code (.cond c a b)::k=>match st.eval c with
   | .bool v=>match st.test v with
    | (e,st)=>some ⟨cx,none,.code (bif e then a else b)::k,rnd,rs,st,cs,lps⟩
   | _=>none
  | .code (.block id body)::k=>some ⟨cx,none,.code body::.inBlock id::k,rnd,rs,st,cs,lps⟩
  | .code (.scope body)::k=>some ⟨cx,none,.code body::.inScope body::k,rnd,rs,st,cs,lps⟩
  | .code (.loop body)::k=>some ⟨cx,none,.code body::.inLoop body::k,rnd,rs,st,cs,lps⟩
  | .inLoop body::k=>some ⟨cx,none,.code body::.inLoop body::k,rnd,rs,st,cs,lps⟩
  | .code (.exit id)::k=>match exitTo id k with
   | some k=>some ⟨cx,none,k,rnd,rs,st,cs,lps⟩
   | none=>match rnd with
    | some _=>x6y P rnd rs st cs lps (some (.exit id))
    | none=>none
  | .code (.region _ ops false)::k=>bif z3x ops then some ⟨cx,some (ops,0,ops.toList),k,rnd,rs,st,cs,lps⟩ else none
  | .code (.region _ ops true)::k=>match j1f ops st with
   | some m=>match y1p 0 P S Rc (Wv ops m) cx (z2f (Wv ops m)) [] st with
    | some st=>some ⟨cx,some (ops,m,ops.toList.drop m),k,rnd,rs,st,cs,lps⟩
    | none=>none
   | none=>match j5j ops with
    | some z=>match y1p z P S Rc ops cx (z2f ops) [] st with
     | some st=>some ⟨cx,none,k,rnd,rs,st,cs,lps⟩
     | none=>none
    | none=>none
  | .code (.rangeFunc f params assign body)::k=>match st.eval f with
   | .fn g caps=>match st.nextId with
    | (j,st')=>bif rndOk lps rnd then x2e P g (.yld j::caps) ⟨cx,none,.inRangeFunc j::k,rnd,rs,st.env⟩ st' cs (v2d lps j (some ⟨.ready,none,cx.n,st.env,params.toList,assign,body⟩)) else none
   | _=>none
  | .beginRound ::k=>match rnd with
   | some j=>match y5m lps j with
    | some ⟨.ready,pend,n,env,params,assign,body⟩=>some ⟨cx,none,k,rnd,rs,st,cs,v2d lps j (some ⟨.busy,pend,n,env,params,assign,body⟩)⟩
    | _=>none
   | none=>none
  | .endRangeFunc j::k=>match y5m lps j with
   | some ⟨.busy,_,_,_,_,_,_⟩=>none
   | some ⟨_,pend,n,env,params,assign,body⟩=>some ⟨cx,none,(pend.map Item.code).toList ++k,rnd,rs,st,cs,v2d lps j (some ⟨.exhausted,pend,n,env,params,assign,body⟩)⟩
   | none=>none
  | _=>none
def z7a :Cfg→Bool
 | ⟨_,none,[],none,_,_,[],_⟩=>true
 | ⟨_,none,.code .ret ::_,none,_,_,[],_⟩=>true
 | _=>false
def runS (P:Program) (S:Specs) (Rc:Runner) (n:Nat):Cfg→Option Cfg:=
 Nat.rec (motive:=fun _=>Cfg→Option Cfg) (fun _=>none) (fun _ R C=>bif z7a C then some C else match w8a P S Rc C with
  | some C'=>R C'
  | none=>none) n
def z1e :Item→Bool
 | .code _ | .inBlock _ | .inLoop _ | .inScope _ | .beginRound =>true
 | _=>false
def j3b (P:Program) (S:Specs) (n:Nat) (d:Nat):Runner:=
 Nat.rec (motive:=fun _=>Runner) (fun _ _ _=>none) (fun _ R cx todo st=>bif todo.all z1e&&Nat.ble cx.floor st.next then match runS P S R n ⟨cx,none,todo,none,[],st,[],.leaf⟩ with
  | some C=>bif Nat.beq C.cx.n cx.n then some C.st else none
  | none=>none
  else none) d
section
variable {P:Program}
section ops
variable {b:Frame} {a:Act} {k:List Item} {cs:List Frame} {w:World} {ops:Array Oper}
theorem x3v {i:Nat} {rest:List Nat} {o:Oper} {K:Act→World→Prop} {Q:Exit→Act→World→Prop} (hQ: ∀e a w,Q e a w→e=.normal) (ho:ops[i]? =some o) (hnd: ∀c,o.op≠ .defer c)
  (h:if Region.wanted o (yielded ops a.tmps) then o.wp P a w K Q else K (a.put o.dst undef) w):
  ∃a' w',K a' w'∧Steps P (lone (b.atR a (.inRegion ops (i::rest)::k)) cs w) (lone (b.atR a' (.inRegion ops rest::k)) cs w'):=by
 by_cases hw:Region.wanted o (yielded ops a.tmps)=true
 ·rw [AC hw] at h;have hg:=stepGR_op (P:=P) (b:=b) (k:=k) (cs:=cs) (w:=w) (rest:=rest) ho hw;rw [Oper.semAt_eq _ _ _ hnd] at hg;have fin: ∀(a:Act) (v:Value),(b.atR a (.inRegion ops (i::rest)::k)).finish v=b.atR (a.put o.dst v) (.inRegion ops rest::k):=fun a v=>by rw [Frame.finish_atR,ho];rfl
  unfold Oper.wp at h;generalize hr:(execOp a.eval o).run P w=r at h;cases r with
  | ok n w'=>
   cases n <;> simp only [Oper.upon] at h
   case value v=>exact ⟨_,w',h,.one (step_lone_go (by rw [hg,←fin a v];simp [stepG.apply,hr]))⟩
   case skip=>exact ⟨_,w',h,.one (step_lone_go (by rw [hg,←fin a undef];simp [stepG.apply,hr]))⟩
   case defer d=>refine ⟨_,w',h,.one (step_lone_go ?_)⟩;have e:=fin {a with defers:=d::a.defers} undef;rw [hg,←e];simp [stepG.apply,hr,Frame.atR]
   case enter f args=>
    obtain ⟨e,w'',fr,hR,eI,_,hleave⟩:=h (b.atR a (.inRegion ops (i::rest)::k)::cs);have fZ:step P (lone (b.atR a (.inRegion ops (i::rest)::k)) cs w)=.next (lone (Frame.enter P f args .normal) (b.atR a (.inRegion ops (i::rest)::k)::cs) w'):=
     step_lone_go (by rw [hg];simp [stepG.apply,hr,Frame.atR])
    cases e with
    | returned v=>refine ⟨_,w'',hR,.head fZ (eI.trans (.one ?_))⟩;rw [←fin a v];exact step_leave_returned hleave
    | panicked chain=>exact absurd (hQ _ _ _ hR) (by simp)
    | outgrown=>obtain ⟨_,_,hq⟩:=hR;exact absurd (hQ _ _ _ hq) (by simp)
   case row row args=>
    obtain ⟨v,w'',hR,eI⟩:=h (b.atR a (.inRegion ops (i::rest)::k)) cs;have fZ:step P (lone (b.atR a (.inRegion ops (i::rest)::k)) cs w)=.next (lone (Frame.ofRow P row args .normal) (b.atR a (.inRegion ops (i::rest)::k)::cs) w'):=
     step_lone_go (by rw [hg];simp [stepG.apply,hr,Frame.atR])
    refine ⟨_,w'',hR,.head fZ ?_⟩;rw [←fin a v];exact eI
   all_goals exact h.elim
  | halt x w'=>cases x <;> simp only [Oper.upon] at h <;> first | exact h.elim | exact absurd (hQ _ _ _ h) (by simp)
 ·rw [Ay hw] at h;have hs:=stepR_op_skip (P:=P) (b:=b) (a:=a) (k:=k) (cs:=cs) (w:=w) (ops:=ops) (i:=i) (rest:=rest) (by simp [ho];simpa using hw);rw [ho] at hs;exact ⟨_,w,h,.one hs⟩
theorem y6z {R:Act→World→Prop} {Q:Exit→Act→World→Prop} (hQ: ∀e a w,Q e a w→e=.normal ∧R a w) (hnd:z3x ops=true): ∀(l:List Nat) (a:Act) (w:World),wpOps P ops Q l a w→
  ∃a' w',R a' w'∧Steps P (lone (b.atR a (.inRegion ops l::k)) cs w) (lone (b.atR a' k) cs w')
 | [],a,w,h=>⟨a,w,(hQ _ _ _ h).2,.one stepR_region_end⟩
 | i ::l,a,w,h=>by
  simp only [wpOps] at h;cases ho:ops[i]? with
  | none=>rw [ho] at h;obtain ⟨a',w',hR,hs⟩:=y6z hQ hnd l a w h;have h1:=stepR_op_skip (P:=P) (b:=b) (a:=a) (k:=k) (cs:=cs) (w:=w) (ops:=ops) (i:=i) (rest:=l) (by simp [ho]);rw [ho] at h1;exact ⟨a',w',hR,.head h1 hs⟩
  | some o=>
   rw [ho] at h;have hno: ∀c,o.op≠ .defer c:=by
    intro c hc;have hm:o∈ops.toList:=by rw [A8];exact Array.mem_of_getElem? ho
    have:=At.1 hnd o hm;rw [hc] at this;cases this
   have h':if Region.wanted o (yielded ops a.tmps) then o.wp P a w (wpOps P ops Q l) Q else wpOps P ops Q l (a.put o.dst undef) w:=by
    by_cases hw:Region.wanted o (yielded ops a.tmps)=true
    ·simp only [hw,if_true] at h ⊢;rcases h with h | ⟨_,a0,w0,h0⟩
     ·exact h
     ·exact absurd (hQ _ _ _ h0).1 (by simp)
    ·simp only [hw,Cr,Bool.false_eq_true] at h ⊢;exact h
   obtain ⟨a1,w1,h1,s1⟩:=x3v (b:=b) (k:=k) (cs:=cs) (rest:=l) (fun e a w q=>(hQ e a w q).1) ho hno h';obtain ⟨a',w',hR,hs⟩:=y6z hQ hnd l a1 w1 h1;exact ⟨a',w',hR,s1.trans hs⟩
end ops
end
section
variable {P:Program}
def Sp (ρ:Rho) (w:World) (r:Nat):Prop:=r<w.heap.size∧ρ.fz r=none∧ ∀b l,ρ b=some l→l.blk≠r
theorem Sp.ev {ρ ρ':Rho} {floor:Nat} {m m':Mem} {n n':Nat} {w w':World} (he:Ev ρ ρ' floor m n m' n' w w') {r:Nat} (hs:Sp ρ w r):Sp ρ' w' r∧w'.heap[r]? =w.heap[r]? :=by
 obtain ⟨h1,h2,h3⟩:=hs;refine ⟨⟨Ba h1 he.size,by rw [he.still r h1];exact h2,fun b l hl=> ?_⟩,?_⟩
 ·by_cases hb:b<n
  ·rw [he.new b hb] at hl;exact h3 b l hl
  ·rcases he.fresh b l (by omega) hl with h | ⟨b0,l0,e0,_,g0⟩
   ·omega
   ·rw [←g0];exact h3 b0 l0 e0
 ·have:w.heap[r]? =some w.heap[r]:=by simp [h1]
  rw [this];exact he.frame r _ this fun b l hl _=>h3 b l hl
structure Vx (m:List Nat) (w w':World):Prop where
 size:w'.heap.size=w.heap.size
 other: ∀k,k ∉ m→w'.heap[k]? =w.heap[k]?
 os:w'.os=w.os
 tape:w'.tape=w.tape
 output:w'.output=w.output
theorem Vx.refl (m:List Nat) (w:World):Vx m w w:=⟨rfl,fun _ _=>rfl,rfl,rfl,rfl⟩
theorem Vx.put (w:World) (r:Nat) (o:Obj):Vx [r] w (w.putObj r o):=⟨World.putObj_size,fun k hk=>World.putObj_heap_other (by simpa using hk),rfl,rfl,rfl⟩
theorem Vx.trans {m m':List Nat} {a b c:World} (h:Vx m a b) (k:Vx m' b c):Vx (m++m') a c:=
 ⟨k.size.trans h.size,fun i hi=>by simp only [AF,not_or] at hi;exact (k.other i hi.2).trans (h.other i hi.1),k.os.trans h.os,k.tape.trans h.tape,k.output.trans h.output⟩
theorem Rel.turned {ρ:Rho} {mem:Mem} {next:Nat} {w w':World} (h:Rel ρ mem next w) {m:List Nat} (hm: ∀r∈m,Sp ρ w r) (ht:Vx m w w'):Rel ρ mem next w':=
 ⟨h.dom,h.inj,fun b l ab e g=>(h.blk b l ab e g).world (Rho.le_refl ρ) (ht.other _ fun hr=>(hm _ hr).2.2 b l e rfl),fun k o e=>by
  rw [ht.other k fun hr=>by rw [(hm _ hr).2.1] at e;cases e];exact h.old k o e,
  h.sep,fun b l e=>by rw [ht.size];exact h.real b l e,h.bd,h.ldom⟩
theorem Ev.turned {ρ0 ρ:Rho} {floor:Nat} {m0 mem:Mem} {n0 next:Nat} {w0 w w':World} (h:Ev ρ0 ρ floor m0 n0 mem next w0 w) {m:List Nat} (hm: ∀r∈m,w0.heap.size≤r) (ht:Vx m w w'):Ev ρ0 ρ floor m0 n0 mem next w0 w':=
 ⟨h.ext,h.new,h.nxt,h.unborn,fun k o hk hf=>by
  have hlt:k<w0.heap.size:=(AJ.1 hk).1;rw [ht.other k fun hr=>by have:=hm k hr;omega];exact h.frame k o hk hf,h.fresh,by rw [ht.size];exact h.size,ht.os.trans h.os,ht.tape.trans h.tape,ht.output.trans h.output,h.still⟩
theorem Sp.turned {ρ:Rho} {w w':World} {r:Nat} (h:Sp ρ w r) {m:List Nat} (ht:Vx m w w'):Sp ρ w' r:=⟨by rw [ht.size];exact h.1,h.2.1,h.2.2⟩
theorem Rel.grow {ρ:Rho} {mem:Mem} {next:Nat} {w:World} (h:Rel ρ mem next w) (o:Obj):Rel ρ mem next (w.alloc o):=by
 have same: ∀k,k<w.heap.size→(w.alloc o).heap[k]? =w.heap[k]? :=fun k hk=>by show (w.heap.push o)[k]? =_;simp [Bp,A7 hk]
 exact ⟨h.dom,h.inj,fun b l ab e g=>(h.blk b l ab e g).world (Rho.le_refl ρ) (same _ (h.real b l e)),fun k ob e=>by
  have:=h.old k ob e;rw [same k (AJ.1 this).1];exact this,h.sep,fun b l e=>by
  have:=h.real b l e;show l.blk<(w.heap.push o).size;simp;omega,h.bd,h.ldom⟩
theorem Ev.grow {ρ0 ρ:Rho} {floor:Nat} {m0 mem:Mem} {n0 next:Nat} {w0 w:World} (h:Ev ρ0 ρ floor m0 n0 mem next w0 w) (o:Obj):Ev ρ0 ρ floor m0 n0 mem next w0 (w.alloc o):=
 ⟨h.ext,h.new,h.nxt,h.unborn,fun k ob hk hf=>by
  have:=h.frame k ob hk hf;have hlt:=(AJ.1 this).1;show (w.heap.push o)[k]? =_;simp only [Bp,A7 hlt,Cr];exact this,h.fresh,by
  have:=h.size;show _≤(w.heap.push o).size;simp;omega,h.os,h.tape,h.output,h.still⟩
theorem Sp.grow {ρ:Rho} {w:World} {r:Nat} (h:Sp ρ w r) (o:Obj):Sp ρ (w.alloc o) r∧(w.alloc o).heap[r]? =w.heap[r]? :=by
 refine ⟨⟨?_,h.2.1,h.2.2⟩,?_⟩
 ·have:=h.1;show r<(w.heap.push o).size;simp;omega
 ·show (w.heap.push o)[r]? =_;simp [Bp,A7 h.1]
theorem Sp.fresh {ρ:Rho} {mem:Mem} {next:Nat} {w:World} (h:Rel ρ mem next w) (o:Obj):Sp ρ (w.alloc o) w.heap.size:=
 ⟨by show _<(w.heap.push o).size;simp,h.hold _ (Ar _),fun b l e=>A7 (h.real b l e)⟩
def lpAdd (ρ:Rho) (j l:Nat):Rho:=⟨ρ.f,ρ.fz,fun k=>if k=j then some l else ρ.lp k⟩
theorem Rel.lp_none {ρ:Rho} {mem:Mem} {next:Nat} {w:World} (h:Rel ρ mem next w):ρ.lp next=none:=by
 cases e:ρ.lp next with
 | none=>rfl
 | some l=>exact absurd (h.ldom _ _ e) (Co _)
theorem x3y {ρ:Rho} {j l:Nat} (h:ρ.lp j=none):ρ.le (lpAdd ρ j l):=⟨fun _ _ e=>e,fun _ _ e=>e,fun k l' e=>by
 show (if k=j then some l else ρ.lp k)=some l';by_cases hk:k=j
 ·subst hk;rw [h] at e;cases e
 ·rw [Ay hk];exact e⟩
theorem Rel.lpAdd {ρ:Rho} {mem:Mem} {next:Nat} {w:World} (h:Rel ρ mem next w) (l:Nat):Rel (lpAdd ρ next l) mem (next+1) w:=
 ⟨fun b l' e=>BQ (h.dom b l' e),h.inj,fun b l' ab e g=>(h.blk b l' ab e g).world (x3y h.lp_none) rfl,h.old,h.sep,h.real,fun b hb=>h.bd b (by omega),fun j l' e=>by
  have e:(if j=next then some l else ρ.lp j)=some l':=e;by_cases hj:j=next
  ·omega
  ·rw [Ay hj] at e;exact BQ (h.ldom j l' e)⟩
theorem Ev.lpAdd {ρ0 ρ:Rho} {floor:Nat} {m0 mem:Mem} {n0 next:Nat} {w0 w:World} (h:Ev ρ0 ρ floor m0 n0 mem next w0 w) (hr:Rel ρ mem next w) (l:Nat):Ev ρ0 (lpAdd ρ next l) floor m0 n0 mem (next+1) w0 w:=
 ⟨Rho.le_trans h.ext (x3y hr.lp_none),h.new,Nat.le_succ_of_le h.nxt,h.unborn,h.frame,h.fresh,h.size,h.os,h.tape,h.output,h.still⟩
inductive w7l (ρ:Rho):Item→Item→Prop
 | same (x:Item) (h:z1e x=true):w7l ρ x x
 | inR (j l:Nat) (h:ρ.lp j=some l):w7l ρ (.inRangeFunc j) (.inRangeFunc l)
 | endR (j l:Nat) (h:ρ.lp j=some l):w7l ρ (.endRangeFunc j) (.endRangeFunc l)
abbrev y9e (ρ:Rho):List Item→List Item→Prop:=Vj (w7l ρ)
theorem Vj.mono {α β:Type} {R R':α→β→Prop} (hr: ∀a b,R a b→R' a b) {l:List α} {m:List β} (h:Vj R l m):Vj R' l m:=by
 induction h with
 | nil=>exact .nil
 | cons h _ ih=>exact .cons (hr _ _ h) ih
theorem w7l.mono {ρ ρ':Rho} (h:ρ.le ρ') {x y:Item} (hx:w7l ρ x y):w7l ρ' x y:=by
 cases hx with
 | same x hx=>exact .same x hx
 | inR j l e=>exact .inR j l (h.2.2 _ _ e)
 | endR j l e=>exact .endR j l (h.2.2 _ _ e)
theorem y9e.exit {ρ:Rho} {k k':List Item} (h:y9e ρ k k') (id:Nat):(∀r,exitTo id k=some r→ ∃r',exitTo id k'=some r'∧y9e ρ r r')∧(exitTo id k=none→exitTo id k'=none):=by
 induction h with
 | nil=>exact ⟨fun r e=>(by cases e),fun _=>rfl⟩
 | @cons x y l m hx t ih=>
  cases hx with
  | same x hx=>
   cases x with
   | inBlock id'=>
    unfold exitTo;by_cases he:(id' == id)=true
    ·rw [AC he,AC he];exact ⟨fun r e=>⟨m,rfl,by obtain rfl:=Af e;exact t⟩,fun e=>by cases e⟩
    ·rw [Ay he,Ay he];exact ih
   | code _=>exact ih
   | inLoop _=>exact ih
   | inScope _=>exact ih
   | beginRound=>exact ih
   | inRegion _ _=>cases hx
   | inRangeFunc _=>cases hx
   | endRangeFunc _=>cases hx
   | call _ _ _ _=>cases hx
   | extern _ _=>cases hx
  | inR j l e=>exact ih
  | endR j l e=>exact ih
def j5f (r:Nat):Deferred:={target:=.collected r,args:= #[]}
def Wt (ro:Option RegOps) (k:List Item):List Item:=match ro with
 | none=>k
 | some (ops,i,_)=>.inRegion ops ((List.range ops.size).drop i)::k
def roOk :Option RegOps→Prop
 | none=>True
 | some (ops,i,l)=>l=ops.toList.drop i∧z3x ops=true
structure v2f (ρ:Rho) (cx:Ctx) (ro:Option RegOps) (todo:List Item) (rnd:Option Nat) (env:T AVal) (b:Frame) (a:Act) (k:List Item) (ms:List Nat):Prop where
 env:Wg ρ env cx.n a.tmps
 defers:a.defers=ms.map j5f
 todo:y9e ρ todo k
 ro:roOk ro
 rnd:match rnd with
  | none=>b.roundOf=none
  | some j=>ms=[]∧ ∃l,ρ.lp j=some l∧b.roundOf=some l
theorem v2f.mono {ρ ρ':Rho} (h:ρ.le ρ') {cx:Ctx} {ro:Option RegOps} {todo:List Item} {rnd:Option Nat} {env:T AVal} {b:Frame} {a:Act} {k:List Item} {ms:List Nat} (hf:v2f ρ cx ro todo rnd env b a k ms):v2f ρ' cx ro todo rnd env b a k ms:=
 ⟨hf.env.mono h,hf.defers,hf.todo.mono fun _ _=>w7l.mono h,hf.ro,by
  have:=hf.rnd;cases rnd with
  | none=>exact this
  | some j=>obtain ⟨h0,l,h1,h2⟩:=this;exact ⟨h0,l,h.2.2 _ _ h1,h2⟩⟩
def v9o (P:Program) (rnd:Option Nat) (rs:List ResultVar) (b:Frame):Prop:=b.kind=.normal ∧(rnd=none→ ∃fn,P.funcs[b.fn]? =some fn∧fn.results.toList=rs)
inductive v2g (P:Program) (ρ:Rho):List AFr→List Frame→List Nat→Prop
 | nil:v2g P ρ [] [] []
 | cons {af:AFr} {b:Frame} {a:Act} {k:List Item} {ms:List Nat} {cs:List AFr} {css:List Frame} {mss:List Nat} (h:v2f ρ af.cx af.ro af.todo af.rnd af.env b a k ms)
   (hl:cs≠ []→v9o P af.rnd af.rs b) (t:v2g P ρ cs css mss):v2g P ρ (af::cs) (b.atR a (Wt af.ro k)::css) (ms++mss)
theorem v2g.mono {ρ ρ':Rho} (h:ρ.le ρ') {cs:List AFr} {css:List Frame} {mss:List Nat} (hc:v2g P ρ cs css mss):v2g P ρ' cs css mss:=by
 induction hc with
 | nil=>exact .nil
 | cons hf hl t ih=>exact .cons (hf.mono h) hl ih
structure x2q (base:Nat) (ρ:Rho) (w:World) (j:Nat) (L:ALoop) (l:Nat):Prop where
 lp:ρ.lp j=some l
 low:base≤l
 sp:Sp ρ w l
 obj: ∃tmps fn d,w.heap[l]? =some (.loop ⟨L.st,L.pend,fn,tmps,L.params.toArray,L.assign,L.body,d⟩)∧Wg ρ L.env L.n tmps
structure x2p (P:Program) (base:Nat) (ρ:Rho) (cs:List AFr) (lps:Loops) (css:List Frame) (w:World) (m0 m1:List Nat):Prop where
 cs:v2g P ρ cs css m1
 nodup:(m0++m1).Nodup
 marks: ∀r∈m0++m1,base≤r∧Sp ρ w r∧w.heap[r]? =some (.deferred (some []))
 loops: ∀j L,y5m lps j=some L→ ∃l,x2q base ρ w j L l
 inj: ∀j j' L L' l,y5m lps j=some L→y5m lps j'=some L'→ρ.lp j=some l→ρ.lp j'=some l→j=j'
theorem x2q.ev {base:Nat} {ρ ρ':Rho} {floor:Nat} {m m':Mem} {n n':Nat} {w w':World} (he:Ev ρ ρ' floor m n m' n' w w') {j:Nat} {L:ALoop} {l:Nat} (h:x2q base ρ w j L l):x2q base ρ' w' j L l:=by obtain ⟨h1,h2,h3,tmps,fn,d,h4,h5⟩:=h;obtain ⟨s1,s2⟩:=h3.ev he;exact ⟨he.ext.2.2 _ _ h1,h2,s1,tmps,fn,d,by rw [s2];exact h4,h5.mono he.ext⟩
theorem x2p.ev {base:Nat} {ρ ρ':Rho} {floor:Nat} {m m':Mem} {n n':Nat} {w w':World} (he:Ev ρ ρ' floor m n m' n' w w') {cs:List AFr} {lps:Loops} {css:List Frame} {m0 m1:List Nat} (h:x2p P base ρ cs lps css w m0 m1):x2p P base ρ' cs lps css w' m0 m1:=by
 refine ⟨h.cs.mono he.ext,h.nodup,fun r hr=> ?_,fun j L hL=> ?_,fun j j' L L' l hL hL' e e'=> ?_⟩
 ·obtain ⟨h1,h2,h3⟩:=h.marks r hr;obtain ⟨s1,s2⟩:=h2.ev he;exact ⟨h1,s1,by rw [s2];exact h3⟩
 ·obtain ⟨l,hl⟩:=h.loops j L hL;exact ⟨l,hl.ev he⟩
 ·obtain ⟨l1,hl1⟩:=h.loops j L hL;obtain ⟨l2,hl2⟩:=h.loops j' L' hL';have e1:=he.ext.2.2 _ _ hl1.lp;have e2:=he.ext.2.2 _ _ hl2.lp;rw [e] at e1;rw [e'] at e2;obtain rfl:=Af e1;obtain rfl:=Af e2;exact h.inj j j' L L' l hL hL' hl1.lp hl2.lp
theorem x2p.turned {base:Nat} {ρ:Rho} {w w':World} {cs:List AFr} {lps:Loops} {css:List Frame} {m0 m0' m1:List Nat} (h:x2p P base ρ cs lps css w m0 m1) {m:List Nat} (ht:Vx m w w') (hsub:m0'.Sublist m0) (hm: ∀r∈m,r ∉ m0'++m1) (hl: ∀r∈m,∃ds,w.heap[r]? =some (.deferred ds)):
  x2p P base ρ cs lps css w' m0' m1:=by
 refine ⟨h.cs,h.nodup.sublist (hsub.append (List.Sublist.refl _)),fun r hr=> ?_,fun j L hL=> ?_,h.inj⟩
 ·obtain ⟨h1,h2,h3⟩:=h.marks r ((hsub.append (List.Sublist.refl m1)).subset hr);exact ⟨h1,h2.turned ht,by rw [ht.other r fun hrm=>hm r hrm hr];exact h3⟩
 ·obtain ⟨l,h1,h2,h3,tmps,fn,d,h4,h5⟩:=h.loops j L hL;refine ⟨l,h1,h2,h3.turned ht,tmps,fn,d,?_,h5⟩;rw [ht.other l fun hlm=> ?_]
  ·exact h4
  ·obtain ⟨ds,hd⟩:=hl l hlm;rw [h4] at hd;cases hd
theorem x2p.record {base:Nat} {ρ:Rho} {w w':World} {cs:List AFr} {lps:Loops} {css:List Frame} {m0 m1:List Nat} (h:x2p P base ρ cs lps css w m0 m1) {j l:Nat} {L L':ALoop} (hj:y5m lps j=some L) (hl:x2q base ρ w j L l)
  (hL:x2q base ρ w' j L' l) (ht:Vx [l] w w'):x2p P base ρ cs (v2d lps j (some L')) css w' m0 m1:=by
 have fT:=hl.obj;obtain ⟨tmps,fn,d,h4,_⟩:=fT;have get: ∀i,y5m (v2d lps j (some L')) i=if i=j then some L' else y5m lps i:=fun i=>T.get_set none lps j (some L') i
 refine ⟨h.cs,h.nodup,fun r hr=> ?_,fun i M hM=> ?_,fun i i' M M' l' hM hM' e e'=> ?_⟩
 ·obtain ⟨h1,h2,h3⟩:=h.marks r hr;refine ⟨h1,h2.turned ht,?_⟩;rw [ht.other r fun hrm=> ?_]
  ·exact h3
  ·obtain rfl:r=l:=by simpa using hrm
   rw [h4] at h3;cases h3
 ·rw [get] at hM;by_cases hij:i=j
  ·subst hij;rw [AC rfl] at hM;obtain rfl:=Af hM;exact ⟨l,hL⟩
  ·rw [Ay hij] at hM;obtain ⟨l2,q1,q2,q3,tmps2,fn2,d2,q4,q5⟩:=h.loops i M hM;refine ⟨l2,q1,q2,q3.turned ht,tmps2,fn2,d2,?_,q5⟩;rw [ht.other l2 fun hlm=> ?_]
   ·exact q4
   ·obtain rfl:l2=l:=by simpa using hlm
    exact hij (h.inj i j M L l2 hM hj q1 hl.lp)
 ·rw [get] at hM hM';have old: ∀x N,(if x=j then some L' else y5m lps x)=some N→ ∃N',y5m lps x=some N':=fun x N hx=>by
   by_cases hxj:x=j
   ·exact ⟨L,by rw [hxj];exact hj⟩
   ·rw [Ay hxj] at hx;exact ⟨N,hx⟩
  obtain ⟨N,hN⟩:=old i M hM;obtain ⟨N',hN'⟩:=old i' M' hM';exact h.inj i i' N N' l' hN hN' e e'
end
section
variable {P:Program}
structure j8p (P:Program) (base:Nat) (C:Cfg) (ρ:Rho) (b:Frame) (a:Act) (k:List Item) (css:List Frame) (w:World) (ma mb:List Nat):Prop where
 top:v2f ρ C.cx C.ro C.todo C.rnd C.st.env b a k ma
 lv:C.cs≠ []→v9o P C.rnd C.rs b
 rest:x2p P base ρ C.cs C.lps css w ma mb
 rel:Rel ρ C.st.mem C.st.next w
structure Fl (fl:Nat) (C:Cfg):Prop where
 cx:C.cx.floor=fl
 cs: ∀af∈C.cs,af.cx.floor=fl
 le:fl≤C.st.next
def w3v (b:Frame):List Frame→FuncId×CallKind×Option Nat
 | []=>(b.fn,b.kind,b.roundOf)
 | c::css=>w3v c css
def y2r (P:Program) (fl:Nat) (C C':Cfg):Prop:=
 ∀(m0:Mem) (n0:Nat) (ρ0:Rho) (w0:World) (ρ:Rho) (b:Frame) (a:Act) (k:List Item) (css:List Frame) (w:World) (ma mb:List Nat),j8p P w0.heap.size C ρ b a k css w ma mb→Ev ρ0 ρ fl m0 n0 C.st.mem C.st.next w0 w→ ∀cs0:List Frame,
  ∃ρ' b' a' k' css' w' ma' mb',Steps P (lone (b.atR a (Wt C.ro k)) (css++cs0) w) (lone (b'.atR a' (Wt C'.ro k')) (css'++cs0) w')∧j8p P w0.heap.size C' ρ' b' a' k' css' w' ma' mb'∧Ev ρ0 ρ' fl m0 n0 C'.st.mem C'.st.next w0 w'∧w3v b' css'=w3v b css∧w.heap.size≤w'.heap.size
theorem y2r.refl (fl:Nat) (C:Cfg):y2r P fl C C:=fun m0 n0 ρ0 w0 ρ b a k css w ma mb hs he cs0=>⟨ρ,b,a,k,css,w,ma,mb,Steps.refl _ _,hs,he,rfl,Ar _⟩
structure Sim (P:Program) (fl:Nat) (C C':Cfg):Prop where
 fls:Fl fl C'
 inv:Xe fl C.st C'.st
 leads:C'.st.ob=true→y2r P fl C C'
theorem Sim.move {fl:Nat} {cx:Ctx} {todo todo':List Item} {rnd:Option Nat} {rs:List ResultVar} {st:St} {cs:List AFr} {lps:Loops} (hfl:Fl fl ⟨cx,none,todo,rnd,rs,st,cs,lps⟩)
  (hk: ∀(ρ:Rho) (k:List Item),y9e ρ todo k→ ∃k',y9e ρ todo' k'∧ ∀(b:Frame) (a:Act) (css:List Frame) (w:World),step P (lone (b.atR a k) css w)=.next (lone (b.atR a k') css w)):
  Sim P fl ⟨cx,none,todo,rnd,rs,st,cs,lps⟩ ⟨cx,none,todo',rnd,rs,st,cs,lps⟩:=
 ⟨⟨hfl.cx,hfl.cs,hfl.le⟩,Xe.refl _ _,fun ho m0 n0 ρ0 w0 ρ b a k css w ma mb hs he cs0=>by
   obtain ⟨k',ht,eY⟩:=hk ρ k hs.top.todo;exact ⟨ρ,b,a,k',css,w,ma,mb,.one (eY b a _ w),⟨⟨hs.top.env,hs.top.defers,ht,trivial,hs.top.rnd⟩,hs.lv,hs.rest,hs.rel⟩,he,rfl,Ar _⟩⟩
theorem y9e.code {ρ:Rho} {c:Code} {t k:List Item} (h:y9e ρ (.code c::t) k): ∃k',k=.code c::k'∧y9e ρ t k':=by
 cases h with
 | cons hx ht=>cases hx;exact ⟨_,rfl,ht⟩
theorem y2t {cs:List Frame}: ∀(ms:List Nat) (fr:Frame) (w:World),fr.mode=.returning →fr.defers=ms.map j5f→ms.Nodup→(∀r∈ms,w.heap[r]? =some (.deferred (some [])))→
  ∃w',Steps P (lone fr cs w) (lone {fr with defers:=[]} cs w')∧Vx ms w w'
 | [],fr,w,hm,hd,_,_=>⟨w,by
   have:{fr with defers:=[]}=fr:=by cases fr;simp only at hd;subst hd;rfl
   rw [this];exact Steps.refl _ _,Vx.refl _ _⟩
 | r::ms,fr,w,hm,hd,hn,ho=>by
  have hr:=ho r (by simp);have h1:=step_collected (P:=P) (cs:=cs) (fr:=fr) (d:=j5f r) (ds:=ms.map j5f) (by rw [hm];simp) (by rw [hd];rfl) rfl (run_takeDeferred hr);rw [List.nodup_cons] at hn;obtain ⟨w',hs,ht⟩:=y2t (cs:=cs) ms {fr with defers:=ms.map j5f} (w.putObj r (.deferred none)) hm rfl hn.2 fun r' hr'=>by rw [World.putObj_heap_other (fun e=>hn.1 (by rw [←e];exact hr'))];exact ho r' (by simp [hr'])
  exact ⟨w',.head h1 hs,(Vx.put w r _).trans ht⟩
theorem y8d {fl base:Nat} {C:Cfg} {ρ:Rho} {b:Frame} {a:Act} {k:List Item} {css:List Frame} {w:World} {ma mb:List Nat} (hs:j8p P base C ρ b a k css w ma mb) (hro:C.ro=none) (eD:C.rnd=none) (htodo:C.todo=[]∨ ∃t,C.todo=.code .ret ::t)
  {m0:Mem} {n0:Nat} {ρ0:Rho} {w0:World} (hb:base=w0.heap.size) (he:Ev ρ0 ρ fl m0 n0 C.st.mem C.st.next w0 w) (cs0:List Frame):
  ∃w',Steps P (lone (b.atR a (Wt C.ro k)) cs0 w) (lone {b.atR {a with defers:=[]} k with mode:=.returning} cs0 w')∧Wg ρ C.st.env C.cx.n a.tmps∧Rel ρ C.st.mem C.st.next w'∧Ev ρ0 ρ fl m0 n0 C.st.mem C.st.next w0 w'∧x2p P base ρ C.cs C.lps css w' [] mb∧w.heap.size≤w'.heap.size:=by
 have hrn:=hs.top.rnd;rw [eD] at hrn;have h1:step P (lone (b.atR a (Wt C.ro k)) cs0 w)=.next (lone {b.atR a k with mode:=.returning} cs0 w):=by
  rw [hro];have ht:=hs.top.todo;rcases htodo with e | ⟨t,e⟩
  ·rw [e] at ht;cases ht;exact stepR_end hrn
  ·rw [e] at ht;obtain ⟨k',rfl,_⟩:=ht.code;exact stepR_ret hrn
 have hnd:ma.Nodup:=(List.nodup_append.1 hs.rest.nodup).1;obtain ⟨w',h2,ht⟩:=y2t (P:=P) (cs:=cs0) ma {b.atR a k with mode:=.returning} w rfl hs.top.defers hnd fun r hr=>(hs.rest.marks r (by simp [hr])).2.2;refine ⟨w',.head h1 h2,hs.top.env,hs.rel.turned (fun r hr=>(hs.rest.marks r (by simp [hr])).2.1) ht,he.turned (fun r hr=>by rw [←hb];exact (hs.rest.marks r (by simp [hr])).1) ht,hs.rest.turned ht (List.nil_sublist _) (fun r hr hrm=> ?_) (fun r hr=>⟨_,(hs.rest.marks r (by simp [hr])).2.2⟩),Nat.le_of_eq ht.size.symm⟩;rw [Bc] at hrm;exact (List.nodup_append.1 hs.rest.nodup).2.2 r hr r hrm rfl
theorem x3t {fl base:Nat} {v:AVal} {st:St} {lps:Loops} {cs:List AFr} {C':Cfg} (h:popS v st lps cs=some C') (hcs: ∀af∈cs,af.cx.floor=fl) (hle:fl≤st.next):
  Fl fl C'∧C'.st.mem=st.mem∧C'.st.next=st.next∧C'.st.ob=st.ob∧(cs≠ [])∧ ∀(ρ:Rho) (css:List Frame) (w:World) (mb:List Nat) (u:Value),Yw ρ v u→x2p P base ρ cs lps css w [] mb→Rel ρ st.mem st.next w→
   ∃c css' b' a' k' ma' mb',css=c::css'∧c.finish u=b'.atR a' (Wt C'.ro k')∧j8p P base C' ρ b' a' k' css' w ma' mb'∧w3v b' css'=w3v c css':=by
 unfold popS at h;split at h
 ·rename_i cx ops i o l todo rnd rs env cs';split at h
  ·rename_i st' hp;obtain rfl:=Af h;obtain ⟨p1,p2,p3,p4⟩:=Wn hp;refine ⟨⟨hcs _ (List.mem_cons_self ..),fun af haf=>hcs af (by simp [haf]),by rw [show st'.next=st.next from p2];exact hle⟩,p1,p2,p3,by simp,fun ρ css w mb u hv hr dQ=> ?_⟩;obtain ⟨hc,hnd,hmk,hlp,hinj⟩:=hr;cases hc with
   | @cons _ b a k ms _ css' mss hf hl ht=>
    simp only at hf hl;refine ⟨_,css',b,a.put o.dst u,k,ms,mss,rfl,?_,⟨⟨hf.env.put hv ?_,by rw [Act.put_defers'];exact hf.defers,hf.todo,?_,hf.rnd⟩,hl,⟨ht,hnd,hmk,hlp,hinj⟩,?_⟩,by cases css' <;> rfl⟩
    ·obtain ⟨hro,_⟩:=hf.ro;have hi:ops.toList[i]? =some o:=by
      have:=AW (·[0]?) hro
      simpa using this.symm
     have hi':ops[i]? =some o:=(by simpa using hi);have hlt:i<ops.size:=(AJ.1 hi').1;have hd:(List.range ops.size).drop i=i::(List.range ops.size).drop (i+1):=by rw [B8 (by simpa using hlt)];simp
     simp only [Wt,hd];rw [Frame.finish_atR,hi'];rfl
    ·rcases p4 with ⟨e,e2⟩ | ⟨d,e,hlt,e2⟩
     ·exact .inl ⟨e,e2⟩
     ·exact .inr ⟨d,e,hlt,e2⟩
    ·obtain ⟨hro,fB⟩:=hf.ro;refine ⟨?_,fB⟩;have:=AW List.tail hro
     simpa using this
    ·show Rel ρ st'.mem st'.next w
     rw [show st'.mem=st.mem from p1,show st'.next=st.next from p2];exact dQ
  ·cases h
 ·rename_i cx j k rnd rs env cs';obtain rfl:=Af h;refine ⟨⟨hcs _ (List.mem_cons_self ..),fun af haf=>hcs af (by simp [haf]),hle⟩,rfl,rfl,rfl,by simp,fun ρ css w mb u hv hr dQ=> ?_⟩;obtain ⟨hc,hnd,hmk,hlp,hinj⟩:=hr;cases hc with
  | @cons _ b a k0 ms _ css' mss hf hl ht=>
   simp only at hf hl;have htd:=hf.todo;cases htd with
   | cons hx htl=>
    cases hx with
    | same _ hp=>cases hp
    | inR _ l hlj=>exact ⟨_,css',b,a,_,ms,mss,rfl,finish_atR_inRangeFunc l u,⟨⟨hf.env,hf.defers,.cons (.endR _ l hlj) htl,trivial,hf.rnd⟩,hl,⟨ht,hnd,hmk,hlp,hinj⟩,dQ⟩,by cases css' <;> rfl⟩
 ·cases h
theorem w7y {b:Frame} {a:Act} {k:List Item} {cs:List Frame} {w:World} {ops:Array Oper} {i:Nat} {rest:List Nat} {o:Oper} {f:FuncId} {args:Array Value} (ho:ops[i]? =some o) (hnd: ∀c,o.op≠ .defer c) (hw:Region.wanted o (yielded ops a.tmps)=true)
  (hr:(execOp a.eval o).run P w=.ok (.enter f args) w):step P (lone (b.atR a (.inRegion ops (i::rest)::k)) cs w)=.next (lone (Frame.enter P f args .normal) (b.atR a (.inRegion ops (i::rest)::k)::cs) w):=by
 have hg:=stepGR_op (P:=P) (b:=b) (k:=k) (cs:=cs) (w:=w) (rest:=rest) ho hw;rw [Oper.semAt_eq _ _ _ hnd] at hg;exact step_lone_go (by rw [hg];simp [stepG.apply,hr,Frame.atR])
theorem w7x {b:Frame} {a:Act} {k:List Item} {cs:List Frame} {w:World} {ops:Array Oper} {i:Nat} {rest:List Nat} {o:Oper} {l:Nat} {f:FuncId} {tmps:Array Value} {assign body:Code} (ho:ops[i]? =some o) (hnd: ∀c,o.op≠ .defer c) (hw:Region.wanted o (yielded ops a.tmps)=true)
  (hr:(execOp a.eval o).run P w=.ok (.round l f tmps assign body) w):step P (lone (b.atR a (.inRegion ops (i::rest)::k)) cs w)=.next (lone (Frame.round l f tmps assign body .normal) (b.atR a (.inRegion ops (i::rest)::k)::cs) w):=by
 have hg:=stepGR_op (P:=P) (b:=b) (k:=k) (cs:=cs) (w:=w) (rest:=rest) ho hw;rw [Oper.semAt_eq _ _ _ hnd] at hg;exact step_lone_go (by rw [hg];simp [stepG.apply,hr,Frame.atR])
theorem z3m {ρ:Rho} {n:Nat}: ∀{ps:List Tmp} {args:List AVal} {env env':T AVal} {vals:List Value} {tmps:Array Value},x3c n ps args env=some env'→Wg ρ env n tmps→Vj (Yw ρ) args vals→
  ps.length=vals.length∧Wg ρ env' n ((ps.zip vals).foldl (fun t p=>t.setIfInBounds p.1 p.2) tmps)
 | [],[],env,env',vals,tmps,h,he,ha=>by cases ha;obtain rfl:=Af h;exact ⟨rfl,he⟩
 | t::ps,x::args,env,env',vals,tmps,h,he,ha=>by
  cases ha with
  | @cons _ u _ vals hx ha=>
   unfold x3c at h;obtain ⟨hc,h⟩:=Zs h;have hlt:=Al hc;have he':Wg ρ (T.set .undef env t x) n (tmps.setIfInBounds t u):=by have:=Wg.put (a:=⟨tmps,[]⟩) (dst:=some t) he hx (.inr ⟨t,rfl,hlt,rfl⟩);exact this
   obtain ⟨h1,h2⟩:=z3m h he' ha;exact ⟨by simp [h1],h2⟩
 | [],_::_,_,_,_,_,h,_,_=>by cases h
 | _::_,[],_,_,_,_,h,_,_=>by cases h
theorem Fl.enter {fl:Nat} {cx:Ctx} {ro:Option RegOps} {todo:List Item} {rnd:Option Nat} {rs:List ResultVar} {st:St} {cs:List AFr} {lps lps':Loops} (h:Fl fl ⟨cx,ro,todo,rnd,rs,st,cs,lps⟩) {n:Nat} {todo':List Item} {rnd':Option Nat} {rs':List ResultVar} {st':St} {ro':Option RegOps} {td:List Item} {e:T AVal} (hn:st.next≤st'.next):
  Fl fl ⟨⟨n,cx.floor,cx.sym⟩,none,todo',rnd',rs',st',⟨cx,ro',td,rnd,rs,e⟩::cs,lps'⟩:=
 ⟨h.cx,fun af haf=>by
  rcases AI.1 haf with rfl | haf
  ·exact h.cx
  ·exact h.cs af haf,AK h.le hn⟩
theorem x2d {base:Nat} {ρ:Rho} {f:FuncId} {args:List AVal} {cx:Ctx} {ro':Option RegOps} {td:List Item} {rnd:Option Nat} {rs:List ResultVar} {e:T AVal} {st:St} {cs:List AFr} {lps:Loops} {C':Cfg} {b:Frame} {a:Act} {k:List Item} {css:List Frame} {w:World} {ma mb:List Nat} {vals:Array Value}
  (h:x2e P f args ⟨cx,ro',td,rnd,rs,e⟩ st cs lps=some C') (hf:v2f ρ cx ro' td rnd e b a k ma) (hlv:cs≠ []→v9o P rnd rs b) (hr:x2p P base ρ cs lps css w ma mb) (dQ:Rel ρ st.mem st.next w) (dT:Vj (Yw ρ) args vals.toList):
  ∃fn body,P.funcs[f]? =some fn∧fn.body=some body∧C'=⟨⟨Nat.max fn.ntmps args.length,cx.floor,cx.sym⟩,none,[.code body],none,fn.results.toList,st.withEnv (y2c args 0 .leaf),⟨cx,ro',td,rnd,rs,e⟩::cs,lps⟩∧
   ∃b' a' k',Frame.enter P f vals .normal =b'.atR a' (Wt none k')∧j8p P base C' ρ b' a' k' (b.atR a (Wt ro' k)::css) w [] (ma++mb):=by
 unfold x2e at h;split at h
 ·rename_i fn hfn;split at h
  ·rename_i body hb;obtain rfl:=Af h;refine ⟨fn,body,hfn,hb,rfl,⟨f, #[],[],[],.run,.normal,none⟩,{tmps:=vals++Array.replicate (fn.ntmps - vals.size) undef,defers:=[]},[.code body],?_,⟨⟨y8a dT fn.ntmps,rfl,.cons (.same _ rfl) .nil,trivial,rfl⟩,fun _=>⟨rfl,fun _=>⟨fn,hfn,rfl⟩⟩,?_,dQ⟩⟩
   ·simp [Frame.enter,Frame.atR,hfn,hb,Wt]
   ·exact ⟨.cons hf hlv hr.cs,hr.nodup,hr.marks,hr.loops,hr.inj⟩
  ·cases h
 ·cases h
theorem z8k {ρ:Rho} {ops:Array Oper} {o:Oper} {cx:Ctx} {st st1:St} {e:Bool} (h:z0b ops o cx st=some (e,st1)):st1.mem=st.mem∧st1.next=st.next∧(st1.ob=true→st.ob=true∧ ∀{tmps:Array Value},Wg ρ st.env cx.n tmps→Wg ρ st1.env cx.n tmps∧Region.wanted o (yielded ops tmps)=e):=by obtain ⟨w1,w2,w3⟩:=Wu h;refine ⟨w1,w2,fun ho=>⟨(w3 ho).1,fun {tmps} he=>⟨he.congr fun t=>(w3 ho).2 t,Ja h ho he.size fun d _=>he.get d⟩⟩⟩
theorem w0d {ops:Array Oper} {i:Nat} {o:Oper} {l:List Oper} (h:o::l=ops.toList.drop i):ops[i]? =some o∧l=ops.toList.drop (i+1)∧(List.range ops.size).drop i=i::(List.range ops.size).drop (i+1):=by
 have hi:ops.toList[i]? =some o:=by
  have:=AW (·[0]?) h
  simpa using this.symm
 have hi':ops[i]? =some o:=by simpa using hi
 have hlt:i<ops.size:=(AJ.1 hi').1;refine ⟨hi',?_,?_⟩
 ·have:=AW List.tail h
  simpa using this
 ·rw [B8 (by simpa using hlt)];simp
theorem z2c {ops:Array Oper} (h:z3x ops=true) {i:Nat} {o:Oper} (ho:ops[i]? =some o) (c:Call):o.op≠ .defer c:=by
 intro hc;have hm:o∈ops.toList:=by rw [A8];exact Array.mem_of_getElem? ho
 have:=At.1 h o hm;rw [hc] at this;cases this
theorem y8k {ρ:Rho} {st:St} {n:Nat} {a:Act} (he:Wg ρ st.env n a.tmps) (args:Array Operand):Vj (Yw ρ) (args.toList.map st.eval) (args.map a.eval).toList :=by rw [B6];exact Vj.maps _ _ _ fun x _=>he.eval x
theorem x9a {ops:Array Oper} {m i:Nat} (hm:m≤ops.size) (h:i<m):(Wv ops m)[i]? =ops[i]? :=by
 unfold Wv;have h2:i<(ops.toList.take m).length :=by simp;omega
 rw [B7,Bx h2,Cp,AC h,Array.getElem?_toList]
theorem v2w {ops:Array Oper} {m i:Nat} (hm:m≤ops.size) (h:m≤i):(Wv ops m)[i]? =(ops[i]?).map stubOp:=by
 unfold Wv;have hl:(ops.toList.take m).length =m:=by simp;omega
 rw [B7,BO (by rw [hl];exact h),hl,List.getElem?_map,Cc,show m+(i - m)=i by omega,Array.getElem?_toList]
theorem y6f {ops:Array Oper} {m:Nat} (hm:m≤ops.size):(Wv ops m).size =ops.size:=by simp [Wv];omega
theorem y0y {ops:Array Oper} {m:Nat} (hm:m≤ops.size) (i:Nat):((Wv ops m)[i]?).map (·.after)=(ops[i]?).map (·.after):=by
 by_cases h:i<m
 ·rw [x9a hm h]
 ·rw [v2w hm (by omega)];cases ops[i]? <;> rfl
theorem w7v (md:Region.Mode) {ops:Array Oper} {m:Nat} (hm:m≤ops.size) (listed:Array Bool):Region.ready md (Wv ops m) listed=Region.ready md ops listed:=by unfold Region.ready;rw [y6f hm];refine List.filter_congr fun i _=> ?_;have h:=y0y hm i;cases h1:(Wv ops m)[i]? <;> cases h2:ops[i]? <;> rw [h1,h2] at h <;> simp at h ⊢;rw [h]
theorem w4s (md:Region.Mode) {ops:Array Oper} {m:Nat} (hm:m≤ops.size): ∀(fuel t:Nat) (listed:Array Bool) (acc:List Nat),Region.linearise.go md (Wv ops m) fuel t listed acc=Region.linearise.go md ops fuel t listed acc
 | 0,t,listed,acc=>rfl
 | fuel+1,t,listed,acc=>by
  have e:=w7v md hm listed;unfold Region.ready at e;simp only [Region.linearise.go];rw [e];split
  ·exact w4s md hm fuel _ _ _
  ·rfl
theorem w8h {ops:Array Oper} (fK: ∀(j:Nat) o,ops[j]? =some o→ ∀e∈o.after.toList,Region.binds .any e=true→e.on<j): ∀listed:Array Bool,listed.size=ops.size→ ∀i,i<ops.size→listed.getD i false=false→ ∃j,j∈Region.ready .any ops listed:=by
 intro listed hsz i
 induction i using Nat.strongRecOn with
 | _ i ih=>
  intro hi hl;by_cases h: ∃e∈(ops[i]).after.toList,Region.binds .any e=true∧listed.getD e.on false=false
  ·obtain ⟨e,he,hb,hf⟩:=h;have hlt:=fK i ops[i] (by simp [hi]) e he hb;exact ih e.on hlt (by omega) hf
  ·refine ⟨i,mem_ready.2 ⟨?_,ops[i],by simp [hi],fun e he hb=> ?_⟩⟩
   ·have:i<listed.size:=by omega
    simpa [this] using hl
   ·cases hf:listed.getD e.on false with
    | true=>rfl
    | false=>exact absurd ⟨e,A8.2 he,hb,hf⟩ h
theorem w6f {ops:Array Oper} (fK: ∀(j:Nat) o,ops[j]? =some o→ ∀e∈o.after.toList,Region.binds .any e=true→e.on<j) (fuel t:Nat) (listed:Array Bool) (hsz:listed.size=ops.size) (hcl:y0t ops (fun i=>listed.getD i false)) {q:Nat} (hq:q<ops.size) (hl:listed.getD q false=false):
  ∃i x t',ops[i]? =some x∧listed.getD i false=false∧x5g (fun i=>listed.getD i false) x∧Region.linearise.go .any ops (fuel+1) t listed []=i::Region.linearise.go .any ops fuel t' (listed.setIfInBounds i true) []∧
   (listed.setIfInBounds i true).size =ops.size∧y0t ops (fun q=>(listed.setIfInBounds i true).getD q false)∧ ∀q,(listed.setIfInBounds i true).getD q false=(listed.getD q false||q == i):=by
 obtain ⟨j0,hj0⟩:=w8h fK listed hsz q hq hl;have hne:Region.ready .any ops listed≠ []:=fun e=>by rw [e] at hj0;cases hj0
 have hlt:t %(Region.ready .any ops listed).length <(Region.ready .any ops listed).length :=BY _ (List.length_pos_iff.2 hne);have hgo:Region.linearise.go .any ops (fuel+1) t listed []=(match (Region.ready .any ops listed)[t %(Region.ready .any ops listed).length]? with
  | some i=>Region.linearise.go .any ops fuel (t / (Region.ready .any ops listed).length) (listed.setIfInBounds i true) [i]
  | none=>[].reverse):=rfl
 rw [hgo,Ao hlt];simp only;have hi:=AM hlt;generalize (Region.ready .any ops listed)[t %(Region.ready .any ops listed).length]=i at hi;obtain ⟨h1,x,hx,hr⟩:=mem_ready.1 hi;have hil:i<ops.size:=(AJ.1 hx).1;have hils:i<listed.size:=by omega
 have hif:listed.getD i false=false:=by simpa [hils] using h1
 rw [linearise_go_acc,List.reverse_singleton,List.singleton_append];have fH: ∀q,(listed.setIfInBounds i true).getD q false=(listed.getD q false||q == i):=fun q=>by
  by_cases hq:q=i
  ·subst hq;simp [hils]
  ·have:(q == i)=false:=by simp [hq]
   rw [this,Cg];simp [Array.getD_eq_getD_getElem?,Ne.symm hq]
 have dZ:x5g (fun i=>listed.getD i false) x:=fun e he hb=>hr e (A8.1 he) hb;refine ⟨i,x,_,hx,hif,dZ,rfl,by simpa using hsz,fun j y hy hs e he hb=> ?_,fH⟩;simp only [fH] at hs ⊢;by_cases hji:j=i
 ·subst hji;rw [hx] at hy;obtain rfl:=Af hy;have:=dZ e he hb;simp only at this;rw [this];rfl
 ·have hs':listed.getD j false=true:=by simpa [hji] using hs
  have:=hcl j y hy hs' e he hb;simp only at this;rw [this];rfl
theorem w6e {ops:Array Oper} {m:Nat} (fK: ∀(j:Nat) o,ops[j]? =some o→ ∀e∈o.after.toList,Region.binds .any e=true→e.on<j) (hf: ∀j x,m≤j→ops[j]? =some x→ ∀i,i<j→y3k ops i x):
  ∀(fuel t j:Nat) (listed:Array Bool),listed.size=ops.size→y0t ops (fun i=>listed.getD i false)→m≤j→j+fuel=ops.size→(∀q,q<j→listed.getD q false=true)→(∀q,j≤q→listed.getD q false=false)→Region.linearise.go .any ops fuel t listed []=(List.range ops.size).drop j
 | 0,t,j,listed,hsz,hcl,hj,hn,h1,h2=>by rw [Au (by simp;omega)];rfl
 | fuel+1,t,j,listed,hsz,hcl,hj,hn,h1,h2=>by
  obtain ⟨i,x,t',hx,hif,hr,hgo,fS,hcl',fH⟩:=w6f fK fuel t listed hsz hcl (q:=j) (by omega) (h2 j (Ar _));have hij: ¬i<j:=fun e=>by rw [h1 i e] at hif;cases hif
  have e:i=j:=by
   by_cases h:j<i
   ·have:listed.getD j false=true:=hf i x (by omega) hx j h _ hcl hr;rw [h2 j (Ar _)] at this;cases this
   ·omega
  subst e;rw [hgo,w6e fK hf fuel t' (i+1) _ fS hcl' (by omega) (by omega) (fun q hq=>by
   rw [fH];by_cases e:q=i
   ·simp [e]
   ·rw [h1 q (by omega)];rfl) (fun q hq=>by
   rw [fH,h2 q (by omega)];simp;omega)]
  rw [B8 (show i<(List.range ops.size).length by simp;omega)];simp
theorem u3x {ops:Array Oper} {m:Nat} (fK: ∀(j:Nat) o,ops[j]? =some o→ ∀e∈o.after.toList,Region.binds .any e=true→e.on<j) (hm:m<ops.size) (hf: ∀j x,m≤j→ops[j]? =some x→ ∀i,i<j→y3k ops i x):
  ∀(fuel t:Nat) (listed:Array Bool),listed.size=ops.size→y0t ops (fun i=>listed.getD i false)→(List.range ops.size).countP (fun i=> !listed.getD i false)=fuel→(∀q,m≤q→listed.getD q false=false)→
   ∃l,Region.linearise.go .any ops fuel t listed []=l++(List.range ops.size).drop m∧ ∀i∈l,i<m:=by
 intro fuel
 induction fuel with
 | zero=>intro t listed hsz _ hc hl;have:=List.countP_eq_zero.1 hc m (A0.2 hm);rw [hl m (Ar _)] at this;simp at this
 | succ fuel ih=>
  intro t listed hsz hcl hc hl;obtain ⟨i,x,t',hx,hif,hr,hgo,fS,hcl',fH⟩:=w6f fK fuel t listed hsz hcl hm (hl m (Ar _));have hil:i<ops.size:=(AJ.1 hx).1;have hc':(List.range ops.size).countP (fun q=> !(listed.setIfInBounds i true).getD q false)=fuel:=by have:=z4c (fun q=> !listed.getD q false) (fun q=> !(listed.setIfInBounds i true).getD q false) i ops.size (fun k hk=>by simp only [fH];simp [hk]) (by simp only [hif];rfl) (by simp only [fH];simp) hil;omega
  by_cases him:i<m
  ·obtain ⟨l,h2,h3⟩:=ih t' (listed.setIfInBounds i true) fS hcl' hc' (fun q hq=>by rw [fH,hl q hq];simp;omega);exact ⟨i::l,by rw [hgo,h2];rfl,fun q hq=>by
    rcases AI.1 hq with rfl | hq
    ·exact him
    ·exact h3 q hq⟩
  ·have e:i=m:=by
    by_cases h:m<i
    ·have:listed.getD m false=true:=hf i x (by omega) hx m h _ hcl hr;rw [hl m (Ar _)] at this;cases this
    ·omega
   subst e;have eZ: ∀q,q<i→listed.getD q false=true:=fun q hq=>hf i x (Ar _) hx q hq _ hcl hr;refine ⟨[],?_,fun q hq=>by cases hq⟩;have hcount:fuel+1+i=ops.size:=by
    rw [←hc];have key: ∀n,i≤n→n≤ops.size→(List.range n).countP (fun q=> !listed.getD q false)+i=n:=by
     intro n
     induction n with
     | zero=>intro h _;simp;omega
     | succ n ihn=>
      intro h1 h2;rw [Ce,List.countP_append];by_cases e:i≤n
      ·have:=ihn e (by omega);have e1: [n].countP (fun q=> !listed.getD q false)=1:=by rw [List.countP_cons,List.countP_nil,hl n e];rfl
       omega
      ·have hni:n+1=i:=(by omega);have h0:(List.range n).countP (fun q=> !listed.getD q false)=0:=List.countP_eq_zero.2 fun q hq=>by rw [eZ q (by have:=A0.1 hq;omega)];simp
       have e1: [n].countP (fun q=> !listed.getD q false)=0:=by rw [List.countP_cons,List.countP_nil,eZ n (by omega)];rfl
       omega
    exact key ops.size (by omega) (Ar _)
   rw [Bc];exact w6e fK hf (fuel+1) t i listed hsz hcl (Ar _) (by omega) eZ hl
theorem y9u {b:Frame} {k:List Item} {cs:List Frame} {ops:Array Oper} {Q:Exit→Act→World→Prop} (hQ: ∀e a w,Q e a w→e=.normal) {m:Nat} (hm:m≤ops.size) (hnd:z3x ops=true)
  (hg: ∀i x g,i<m→ops[i]? =some x→x.guard=some g→g.1<m) {r:List Nat} (hr: ∀i∈r,m≤i): ∀(l:List Nat) (a:Act) (w:World),(∀i∈l,i<m)→wpOps P (Wv ops m) Q (l++r) a w→
   ∃a' w',Q .normal a' w'∧Steps P (lone (b.atR a (.inRegion ops (l++r)::k)) cs w) (lone (b.atR a' (.inRegion ops r::k)) cs w')
 | [],a,w,_,h=>by
  refine ⟨a,w,?_,Steps.refl _ _⟩;rw [Bc] at h;clear hg
  induction r with
  | nil=>exact h
  | cons i r ih=>
   refine ih (fun q hq=>hr q (by simp [hq])) ?_;simp only [wpOps] at h;rw [v2w hm (hr i (by simp))] at h;cases ho:ops[i]? with
   | none=>rw [ho] at h;exact h
   | some o=>
    rw [ho] at h;simp only [BL] at h;have hw:Region.wanted (stubOp o) (yielded (Wv ops m) a.tmps)=true:=rfl;rw [AC hw] at h;rcases h with h | ⟨_,a0,w0,h0⟩
    ·have h:wpOps P (Wv ops m) Q r (a.put none (a.eval (.const (.bool true)))) w:=h;exact h
    ·exact absurd (hQ _ _ _ h0) (by simp)
 | i::l,a,w,hl,h=>by
  have him:=hl i (by simp);simp only [List.cons_append,wpOps] at h;rw [x9a hm him] at h;have hil:i<ops.size:=by omega
  obtain ⟨x,hx⟩: ∃x,ops[i]? =some x:=⟨ops[i],by simp [hil]⟩
  rw [hx] at h;simp only at h;have hy:Region.wanted x (yielded (Wv ops m) a.tmps)=Region.wanted x (yielded ops a.tmps):=by
   unfold Region.wanted;cases hgx:x.guard with
   | none=>rfl
   | some g=>obtain ⟨j,want⟩:=g;have hj:=hg i x _ him hx hgx;simp only at hj ⊢;unfold yielded;rw [x9a hm hj]
  rw [hy] at h;have h':if Region.wanted x (yielded ops a.tmps) then x.wp P a w (wpOps P (Wv ops m) Q (l++r)) Q else wpOps P (Wv ops m) Q (l++r) (a.put x.dst undef) w:=by
   by_cases hw:Region.wanted x (yielded ops a.tmps)=true
   ·simp only [hw,if_true] at h ⊢;rcases h with h | ⟨_,a0,w0,h0⟩
    ·exact h
    ·exact absurd (hQ _ _ _ h0) (by simp)
   ·simp only [hw,Cr,Bool.false_eq_true] at h ⊢;exact h
  obtain ⟨a1,w1,h1,s1⟩:=x3v (b:=b) (k:=k) (cs:=cs) (rest:=l++r) hQ hx (z2c hnd hx) h';obtain ⟨a',w',hR,hs⟩:=y9u hQ hm hnd hg hr l a1 w1 (fun q hq=>hl q (by simp [hq])) h1;exact ⟨a',w',hR,s1.trans hs⟩
theorem y9p {st:St} {ops:List Oper}: ∀(l:List Oper) (i:Nat) {m:Nat},x2r st ops l i=some m→i≤m∧m<i+l.length
 | [],i,m,h=>by cases h
 | o::l,i,m,h=>by
  unfold x2r at h;cases hy:v6v st ops o with
  | true=>rw [hy] at h;obtain rfl:=Af h;simp
  | false=>rw [hy] at h;have:=y9p l (i+1) h;simp only [AU];omega
theorem w7s {ops:Array Oper} {st:St} {m:Nat} (h:j1f ops st=some m):m<ops.size∧z3x ops=true∧y8f 0 (Wv ops m)=true∧(∀j x,m≤j→(Wv ops m)[j]? =some x→ ∀i,i<j→y3k (Wv ops m) i x)∧
  ∀i x g,i<m→ops[i]? =some x→x.guard=some g→g.1<m:=by
 unfold j1f at h;split at h
 ·rename_i m' hd;obtain ⟨hc,h⟩:=Zs h;obtain rfl:=Af h;have hlt:=(y9p _ _ hd).2;rw [Ag,B2] at hlt;simp only [u5t,Ac] at hc;obtain ⟨hnd,hdr,eZ,hgd⟩:=hc;refine ⟨hlt,hnd,hdr,fun j x hj hx i hi=> ?_,fun i x g hi hx hgx=> ?_⟩
  ·have hjl:j<ops.size:=by have:=(AJ.1 hx).1;rwa [y6f (by omega)] at this
   have:=At.1 eZ j (A0.2 hjl);simp only [Br] at this;rcases this with h1 | h1
   ·have:=Al h1;omega
   ·exact ((z8c hdr).bits j x hx i (At.1 h1 i (A0.2 hi))).2
  ·have h2:=At.1 hgd i (A0.2 hi);rw [hx] at h2;obtain ⟨dst,op,type,pos,after,guard⟩:=x;simp only at hgx;subst hgx;obtain ⟨j,want⟩:=g;exact Al h2
 ·cases h
end
section
variable {P:Program}
theorem w8b {S:Specs} {Rc:Runner} (hN:y0s P) (hS:Zu P S) (hCI:w7j Rc) (hC:ROk P Rc) {fl:Nat} {cx:Ctx} {ops:Array Oper} {i:Nat} {o:Oper} {l:List Oper} {todo:List Item} {rnd:Option Nat} {rs:List ResultVar} {st:St} {cs:List AFr} {lps:Loops} {C':Cfg}
  (hfl:Fl fl ⟨cx,some (ops,i,o::l),todo,rnd,rs,st,cs,lps⟩) (h:v2z P S Rc cx ops i o l todo rnd rs st cs lps=some C'):Sim P fl ⟨cx,some (ops,i,o::l),todo,rnd,rs,st,cs,lps⟩ C':=by
 have plain: ∀st2,y9g P S Rc ops cx (false,o) st=some st2→Sim P fl ⟨cx,some (ops,i,o::l),todo,rnd,rs,st,cs,lps⟩ ⟨cx,some (ops,i+1,l),todo,rnd,rs,st2,cs,lps⟩:=by
  intro st2 h1;have hcx:cx.floor≤st.next:=by have:=hfl.le;have e:=hfl.cx;simp only at e this;omega
  have s1:=y9z hN hS hCI hC hcx h1;have e:=hfl.cx;simp only at e;refine ⟨⟨e,hfl.cs,AK hfl.le s1.inv.nxt⟩,by rw [←e];exact s1.inv,fun ho m0 n0 ρ0 w0 ρ b a k css w ma mb hs he cs0=> ?_⟩;obtain ⟨dU,hdf,htd,⟨hro,fB⟩,eD⟩:=hs.top;simp only at dU hdf htd hro eD;obtain ⟨ho_i,hl',hdrop⟩:=w0d hro;have key:=s1.does ho ρ a w st.eval dU.size (fun _ _=>rfl) (fun d _=>dU.get d) (fun y _=>dU.eval y) hs.rel
   (fun a' w'=> ∃ρ',a'.defers=a.defers∧Wg ρ' st2.env cx.n a'.tmps∧Rel ρ' st2.mem st2.next w'∧Ev ρ ρ' cx.floor st.mem st.next st2.mem st2.next w w') (fun e _ _=>e=.normal) (fun ρ' u w' eC eT hev _=>by
    refine ⟨ρ',Act.put_defers' _ _ _,?_,eT,hev⟩;cases hdst:o.dst with
    | none=>exact ((dU.mono hev.ext).congr fun t=>s1.other ho t (by rw [hdst];simp))
    | some d=>
     refine ((dU.mono hev.ext).put (eC d hdst) (.inr ⟨d,rfl,s1.slot d hdst,rfl⟩)).congr fun t=> ?_;rw [T.get_set];split
     ·rename_i e;subst e;rfl
     ·rename_i e;exact s1.other ho t (by rw [hdst];intro h;exact e (Af h).symm))
  obtain ⟨a',w',⟨ρ',hd',he',hr',hev⟩,eI⟩:=x3v (b:=b) (k:=k) (cs:=css++cs0) (rest:=(List.range ops.size).drop (i+1)) (fun e a w h=>h) ho_i (z2c fB ho_i) key;refine ⟨ρ',b,a',k,css,w',ma,mb,by rw [Wt,hdrop];exact eI,⟨⟨he',by rw [hd'];exact hdf,htd.mono fun _ _=>w7l.mono hev.ext,⟨hl',fB⟩,?_⟩,hs.lv,hs.rest.ev hev,hr'⟩,he.trans (by rw [←e];exact hev),rfl,hev.size⟩;exact ((⟨dU,hdf,htd,⟨hro,fB⟩,eD⟩:v2f ρ cx (some (ops,i,o::l)) todo rnd st.env b a k ma).mono hev.ext).rnd
 unfold v2z at h;split at h
 ·rename_i st1 hw;split at h
  ·-- a function is entered
   rename_i g args eK;obtain ⟨w1,w2,w3⟩:=z8k (ρ:=⟨fun _=>none,fun _=>none,fun _=>none⟩) hw;have hCeq: ∃fn body,P.funcs[g]? =some fn∧fn.body=some body∧C'=⟨⟨Nat.max fn.ntmps args.length,cx.floor,cx.sym⟩,none,[.code body],none,fn.results.toList,st1.withEnv (y2c args 0 .leaf),⟨cx,some (ops,i,o::l),todo,rnd,rs,st1.env⟩::cs,lps⟩:=by
    unfold x2e at h;split at h
    ·rename_i fn hfn;split at h
     ·rename_i body hb;exact ⟨fn,body,hfn,hb,(Af h).symm⟩
     ·cases h
    ·cases h
   obtain ⟨fn,body,hfn,hb,hCe⟩:=hCeq;have gA:C'.st.mem=st.mem:=by rw [hCe];exact w1
   have hnext:C'.st.next=st.next:=by rw [hCe];exact w2
   refine ⟨by rw [hCe];exact hfl.enter (Nat.le_of_eq w2.symm),Xe.same gA hnext fun ho=>(w3 (by rw [hCe] at ho;exact ho)).1,fun ho m0 n0 ρ0 w0 ρ b a k css w ma mb hs he cs0=> ?_⟩;have ho1:st1.ob=true:=by rw [hCe] at ho;exact ho
   obtain ⟨dU,hdf,htd,⟨hro,fB⟩,eD⟩:=hs.top;simp only at dU hdf htd hro eD;obtain ⟨ho_i,hl',hdrop⟩:=w0d hro;obtain ⟨_,_,w3'⟩:=z8k (ρ:=ρ) hw;obtain ⟨fM,hwt⟩:=(w3' ho1).2 dU;have hexec: ∃vals,(execOp a.eval o).run P w=.ok (.enter g vals) w∧Vj (Yw ρ) args vals.toList:=by
    obtain ⟨dst,op,type,pos,after,guard⟩:=o;simp only at eK ⊢;unfold callee at eK;split at eK
    ·rename_i f cargs argTypes;split at eK
     ·rename_i g' caps hg;split at eK
      ·cases eK
      ·simp only [Ae,Sum.inl.injEq,Ad] at eK;obtain ⟨rfl,rfl⟩:=eK;have hf:=fM.eval f;rw [hg] at hf;generalize hw':a.eval f=u at hf;cases hf with
       | fn _ _ cvs hl hh=>have:=z3b hN hfn (by rw [hb];rfl) (cargs.map a.eval++cvs) w;refine ⟨cargs.map a.eval++cvs,by simp [execOp,resolve,Deferred.ofValue,hw',invoke,this],?_⟩;rw [Cn];exact Vj.append (y8k fM cargs) (Vj.of (by simpa using hl) fun i h1 h2=>by simpa using hh i h1 (by simpa using h2))
     ·rename_i g' first hg
      split at eK
      ·cases eK
      ·simp only [Ae,Sum.inl.injEq,Ad] at eK;obtain ⟨rfl,rfl⟩:=eK;have hf:=fM.eval f;rw [hg] at hf;generalize hw':a.eval f=u at hf;cases hf with
       | fnb _ _ cvs hl hh=>have:=z3b hN hfn (by rw [hb];rfl) (cvs++cargs.map a.eval) w;refine ⟨cvs++cargs.map a.eval,by simp [execOp,resolve,Deferred.ofValue,hw',invoke,this],?_⟩;rw [Cn];exact Vj.append (Vj.of (by simpa using hl) fun i h1 h2=>by simpa using hh i h1 (by simpa using h2)) (y8k fM cargs)
     ·cases eK
     ·cases eK
    ·cases eK
   obtain ⟨vals,hex,dT⟩:=hexec;have eY:=w7y (b:=b) (k:=k) (cs:=css++cs0) (rest:=(List.range ops.size).drop (i+1)) ho_i (z2c fB ho_i) hwt hex;obtain ⟨_,_,_,_,_,b',a',k',hen,hsr⟩:=x2d h (⟨fM,hdf,htd,⟨hro,fB⟩,eD⟩) hs.lv hs.rest (by rw [w1,w2];exact hs.rel) dT;refine ⟨ρ,b',a',k',_,w,_,_,.one ?_,hsr,by rw [gA,hnext];exact he,by cases css <;> rfl,Ar _⟩;rw [show C'.ro=none by rw [hCe],←hen];simp only [Wt,hdrop];exact eY
  ·-- a round is entered
   rename_i j args eK;obtain ⟨w1,w2,w3⟩:=z8k (ρ:=⟨fun _=>none,fun _=>none,fun _=>none⟩) hw;unfold u7t at h;split at h
   ·rename_i lst lpend ln lenv lparams lassign lbody hlg;split at h
    ·rename_i env' hsa;obtain rfl:=Af h;refine ⟨hfl.enter (Nat.le_of_eq w2.symm),Xe.same w1 w2 fun ho=>(w3 ho).1,fun ho m0 n0 ρ0 w0 ρ b a k css w ma mb hs he cs0=> ?_⟩;have ho1:st1.ob=true:=ho;obtain ⟨dU,hdf,htd,⟨hro,fB⟩,eD⟩:=hs.top;simp only at dU hdf htd hro eD;obtain ⟨ho_i,hl',hdrop⟩:=w0d hro;obtain ⟨_,_,w3'⟩:=z8k (ρ:=ρ) hw;obtain ⟨fM,hwt⟩:=(w3' ho1).2 dU;obtain ⟨lr,hlp,gB,hsp,ltmps,lfn,ld,fT,fN⟩:=hs.rest.loops j _ hlg;simp only at fT fN;have hexec: ∃vals:Array Value,Vj (Yw ρ) args vals.toList∧(execOp a.eval o).run P w=.ok (.round lr lfn ((lparams.toArray.zip vals).foldl (fun tmps (t,x)=>tmps.setIfInBounds t x) ltmps) lassign lbody) w:=by
      obtain ⟨dst,op,type,pos,after,guard⟩:=o;simp only at eK ⊢;unfold callee at eK;split at eK
      ·rename_i f cargs argTypes;split at eK
       ·split at eK <;> cases eK
       ·split at eK <;> cases eK
       ·rename_i j' hg;simp only [Ae,Sum.inr.injEq,Ad] at eK;obtain ⟨rfl,rfl⟩:=eK;have hf:=fM.eval f;rw [hg] at hf;generalize hw':a.eval f=u at hf;cases hf with
        | yld _ l' hl'=>rw [hlp] at hl';obtain rfl:=Af hl';have hca:=y8k fM cargs;obtain ⟨dR,_⟩:=z3m hsa fN hca;refine ⟨cargs.map a.eval,hca,?_⟩;have:=run_yield (P:=P) (args:=cargs.map a.eval) fT (by simpa using dR.symm);simp [execOp,resolve,Deferred.ofValue,hw',invoke,this]
       ·cases eK
      ·cases eK
     obtain ⟨vals,dT,hex⟩:=hexec;obtain ⟨_,henv'⟩:=z3m hsa fN dT;have eY:=w7x (b:=b) (k:=k) (cs:=css++cs0) (rest:=(List.range ops.size).drop (i+1)) ho_i (z2c fB ho_i) hwt hex;refine ⟨ρ,⟨lfn, #[],[],[],.run,.normal,some lr⟩,{tmps:=(lparams.toArray.zip vals).foldl (fun tmps (t,x)=>tmps.setIfInBounds t x) ltmps,defers:=[]},[.code lassign,.beginRound,.code lbody],b.atR a (Wt (some (ops,i,o::l)) k)::css,w,[],ma++mb,.one ?_,⟨⟨?_,rfl,.cons (.same _ rfl) (.cons (.same _ rfl) (.cons (.same _ rfl) .nil)),trivial,⟨rfl,lr,hlp,rfl⟩⟩,fun _=>⟨rfl,fun h0=>by cases h0⟩,?_,by rw [show (st1.withEnv env').mem =st.mem from w1,show (st1.withEnv env').next =st.next from w2];exact hs.rel⟩,by rw [show (st1.withEnv env').mem =st.mem from w1,show (st1.withEnv env').next =st.next from w2];exact he,by cases css <;> rfl,Ar _⟩
     ·simp only [Wt,hdrop];exact eY
     ·have:(lparams.toArray.zip vals).foldl (fun tmps (t,x)=>tmps.setIfInBounds t x) ltmps=(lparams.zip vals.toList).foldl (fun t p=>t.setIfInBounds p.1 p.2) ltmps:=by rw [←Array.foldl_toList];simp
      simp only [this];exact henv'
     ·exact ⟨.cons ⟨fM,hdf,htd,⟨hro,fB⟩,eD⟩ hs.lv hs.rest.cs,hs.rest.nodup,hs.rest.marks,hs.rest.loops,hs.rest.inj⟩
    ·cases h
   ·cases h
  ·split at h
   ·rename_i st2 hop;obtain rfl:=Af h;exact plain st2 (by unfold y9g;rw [hw];exact hop)
   ·cases h
 ·rename_i st1 hw;split at h
  ·rename_i st2 hp;obtain rfl:=Af h;exact plain st2 (by unfold y9g;rw [hw];exact hp)
  ·cases h
 ·cases h
end
section
variable {P:Program}
theorem x5m {ops:Array Oper} {z:Nat}: ∀{l:List Nat},tryZ ops l=some z→y8f z ops=true
 | [],h=>by cases h
 | x::l,h=>by
  unfold tryZ at h;rcases Jg h with ⟨h1,h⟩ | ⟨_,h⟩
  ·obtain rfl:=Af h;exact h1
  ·exact x5m h
theorem v0f {ops:Array Oper} {z:Nat} (h:j5j ops=some z):y8f z ops=true∧z3x ops=true:=by unfold j5j at h;obtain ⟨hn,h⟩:=Zs h;exact ⟨x5m h,hn⟩
theorem y9e.item {ρ:Rho} {x:Item} {t k:List Item} (hx:z1e x=true) (h:y9e ρ (x::t) k): ∃k',k=x::k'∧y9e ρ t k':=by
 cases h with
 | cons h ht=>
  cases h with
  | same _ _=>exact ⟨_,rfl,ht⟩
  | inR j l e=>cases hx
  | endR j l e=>cases hx
theorem y7m {fl:Nat} {cx:Ctx} {todo:List Item} {rnd:Option Nat} {rs:List ResultVar} {st:St} {cs:List AFr} {lps:Loops} {jump:Option Code} {C':Cfg} (hfl:Fl fl ⟨cx,none,todo,rnd,rs,st,cs,lps⟩)
  (h:x6y P rnd rs st cs lps jump=some C') (hj:(todo=[]∧jump=none)∨(∃t,todo=.code .ret ::t∧jump=some .ret)∨(∃id t,todo=.code (.exit id)::t∧exitTo id t=none∧jump=some (.exit id)∧rnd.isSome=true)):
  Sim P fl ⟨cx,none,todo,rnd,rs,st,cs,lps⟩ C':=by
 unfold x6y at h;split at h
 ·split at h
  ·rename_i vs hvs;obtain ⟨hfl',hm,hn,hob,hne,key⟩:=x3t (P:=P) (base:=0) h hfl.cs hfl.le;refine ⟨hfl',Xe.same hm hn fun ho=>by rw [←hob];exact ho,fun ho m0 n0 ρ0 w0 ρ b a k css w ma mb hs he cs0=> ?_⟩;obtain ⟨_,_,_,_,_,key⟩:=x3t (P:=P) (base:=w0.heap.size) h hfl.cs hfl.le;have htd:todo=[]∨ ∃t,todo=.code .ret ::t:=by
    rcases hj with ⟨e,_⟩ | ⟨t,e,_⟩ | ⟨_,_,_,_,_,e⟩
    ·exact .inl e
    ·exact .inr ⟨t,e⟩
    ·cases e
   obtain ⟨w',eI,dU,dQ,hev,eQ,hsz⟩:=y8d hs rfl rfl htd rfl he (css++cs0);obtain ⟨hk,hfn⟩:=hs.lv hne;obtain ⟨fn,hfn,hrs⟩:=hfn rfl;simp only at hrs hfn;obtain ⟨u,hu,gD⟩:=z3s (fn:=fn) dU dQ (by rw [hrs];exact hvs);obtain ⟨c,css',b',a',k',ma',mb',rfl,hfin,hsr,hbot⟩:=key ρ css w' mb u hu eQ dQ;refine ⟨ρ,b',a',k',css',w',ma',mb',eI.trans (.one ?_),hsr,by rw [hm,hn];exact hev,by rw [hbot];rfl,hsz⟩;rw [←hfin];exact step_leave_returned (fr:={b.atR {a with defers:=[]} k with mode:=.returning}) ⟨rfl,rfl,hk,fn,hfn,gD⟩
  ·cases h
 ·rename_i j;split at h
  ·rename_i lst lpend ln lenv lparams lassign lbody hlg;obtain ⟨hfl',hm,hn,hob,hne,_⟩:=x3t (P:=P) (base:=0) h hfl.cs hfl.le;refine ⟨hfl',Xe.same hm hn fun ho=>by rw [←hob];exact ho,fun ho m0 n0 ρ0 w0 ρ b a k css w ma mb hs he cs0=> ?_⟩;obtain ⟨_,_,_,_,_,key⟩:=x3t (P:=P) (base:=w0.heap.size) h hfl.cs hfl.le;obtain ⟨rfl,lr0,hlp0,hro⟩:=hs.top.rnd;obtain ⟨lr,hla⟩:=hs.rest.loops j _ hlg;have hla':=hla;obtain ⟨hlp,gB,hsp,ltmps,lfn,ld,fT,fN⟩:=hla;rw [hlp] at hlp0;obtain rfl:=Af hlp0;have dS:=run_endRound (P:=P) jump fT;have hlst:(if jump.isNone then LoopState.ready else LoopState.done)=x7b jump:=by cases jump <;> rfl
   rw [hlst] at dS;have eQ:=hs.rest.record (w':=w.putObj lr (.loop ⟨x7b jump,jump,lfn,ltmps,lparams.toArray,lassign,lbody,ld⟩)) hlg hla' (L':=⟨x7b jump,jump,ln,lenv,lparams,lassign,lbody⟩)
    ⟨hlp,gB,hsp.turned (Vx.put _ _ _),ltmps,lfn,ld,World.putObj_heap_same hsp.1,fN⟩ (Vx.put _ _ _)
   obtain ⟨c,css',b',a',k',ma',mb',rfl,hfin,hsr,hbot⟩:=key ρ css _ mb (.bool jump.isNone) (.bool _) eQ (hs.rel.turned (fun r hr=>by rw [AT.1 hr];exact hsp) (Vx.put _ _ _));have hev:=he.turned (m:=[lr]) (fun r hr=>by rw [AT.1 hr];exact gB) (Vx.put w lr (.loop ⟨x7b jump,jump,lfn,ltmps,lparams.toArray,lassign,lbody,ld⟩));refine ⟨ρ,b',a',k',css',_,ma',mb',.one ?_,hsr,by rw [hm,hn];exact hev,by rw [hbot];rfl,Nat.le_of_eq (Vx.put _ _ _).size.symm⟩;obtain ⟨hk,_⟩:=hs.lv hne;rw [←hfin];have htd:=hs.top.todo;rcases hj with ⟨rfl,rfl⟩ | ⟨t,rfl,rfl⟩ | ⟨id,t,rfl,hx,rfl,_⟩
   ·cases htd;exact stepR_round_end hro hk dS
   ·obtain ⟨k',rfl,_⟩:=htd.code;exact stepR_round_ret hro hk dS
   ·obtain ⟨k',rfl,ht⟩:=htd.code;exact stepR_round_exit hro hk ((ht.exit id).2 hx) dS
  ·cases h
theorem x5n {S:Specs} {Rc:Runner} (hN:y0s P) (hmx:P.follows .mixedOrders =true) (hS:Zu P S) (hCI:w7j Rc) (hC:ROk P Rc) {fl:Nat} {C C':Cfg} (hfl:Fl fl C) (h:w8a P S Rc C=some C'):Sim P fl C C':=by
 unfold w8a at h;split at h
 ·-- a region's end
  rename_i ops i todo rnd rs st cs lps;obtain rfl:=Af h;refine ⟨⟨hfl.cx,hfl.cs,hfl.le⟩,Xe.refl _ _,fun ho m0 n0 ρ0 w0 ρ b a k css w ma mb hs he cs0=> ?_⟩;obtain ⟨dU,hdf,htd,⟨hro,fB⟩,eD⟩:=hs.top;refine ⟨ρ,b,a,k,css,w,ma,mb,.one ?_,⟨⟨dU,hdf,htd,trivial,eD⟩,hs.lv,hs.rest,hs.rel⟩,he,rfl,Ar _⟩;have hge:ops.size≤i:=by have:=AW List.length hro;simp at this;omega
  have:(List.range ops.size).drop i=[]:=Au (by simpa using hge);simp only [Wt,this];exact stepR_region_end
 ·exact w8b hN hS hCI hC hfl h
 ·rename_i cx todo rnd rs st cs lps;split at h
  ·exact y7m hfl h (.inl ⟨rfl,rfl⟩)
  ·exact y7m hfl h (.inr (.inl ⟨_,rfl,rfl⟩))
  ·obtain rfl:=Af h;exact Sim.move hfl fun ρ k hk=>by obtain ⟨k',rfl,ht⟩:=hk.code;exact ⟨k',ht,fun b a css w=>stepR_skip⟩
  ·obtain rfl:=Af h;exact Sim.move hfl fun ρ k hk=>by obtain ⟨k',rfl,ht⟩:=hk.code;exact ⟨k',ht,fun b a css w=>stepR_label⟩
  ·obtain rfl:=Af h;exact Sim.move hfl fun ρ k hk=>by obtain ⟨k',rfl,ht⟩:=y9e.item rfl hk;exact ⟨k',ht,fun b a css w=>stepR_inBlock⟩
  ·obtain rfl:=Af h;exact Sim.move hfl fun ρ k hk=>by obtain ⟨k',rfl,ht⟩:=y9e.item rfl hk;exact ⟨k',ht,fun b a css w=>step_lone_go (by simp [stepG,stepG.exec,Frame.atR])⟩
  ·obtain rfl:=Af h;exact Sim.move hfl fun ρ k hk=>by obtain ⟨k',rfl,ht⟩:=hk.code;exact ⟨_,.cons (.same _ rfl) (.cons (.same _ rfl) ht),fun b a css w=>stepR_seq⟩
  ·-- a test
   rename_i c x y k0;split at h
   ·rename_i v hv;split at h;rename_i e st1 ht;obtain rfl:=Af h;obtain ⟨t1,t2,t3,t4⟩:=y6c ht;refine ⟨⟨hfl.cx,hfl.cs,by have:=hfl.le;simp only at this ⊢;omega⟩,Xe.same t2 t3 fun ho=>(t4 ho).2,fun ho m0 n0 ρ0 w0 ρ b a k css w ma mb hs he cs0=> ?_⟩;obtain ⟨rfl,_⟩:=t4 ho;obtain ⟨dU,hdf,htd,hro,eD⟩:=hs.top;obtain ⟨k',rfl,htl⟩:=htd.code;have hc:=dU.eval c;rw [hv] at hc;have hev:a.eval c=.bool e:=by generalize a.eval c=u at hc;cases hc;rfl
    refine ⟨ρ,b,a,_,css,w,ma,mb,.one (stepR_cond hev),⟨⟨by rw [t1];exact dU,hdf,.cons ?_ htl,trivial,eD⟩,hs.lv,hs.rest,by rw [t2,t3];exact hs.rel⟩,by rw [t2,t3];exact he,rfl,Ar _⟩;cases e <;> exact .same _ rfl
   ·cases h
  ·obtain rfl:=Af h;exact Sim.move hfl fun ρ k hk=>by obtain ⟨k',rfl,ht⟩:=hk.code;exact ⟨_,.cons (.same _ rfl) (.cons (.same _ rfl) ht),fun b a css w=>stepR_block⟩
  ·obtain rfl:=Af h;exact Sim.move hfl fun ρ k hk=>by obtain ⟨k',rfl,ht⟩:=hk.code;exact ⟨_,.cons (.same _ rfl) (.cons (.same _ rfl) ht),fun b a css w=>step_lone_go (by simp [stepG,stepG.exec,Frame.atR])⟩
  ·obtain rfl:=Af h;exact Sim.move hfl fun ρ k hk=>by obtain ⟨k',rfl,ht⟩:=hk.code;exact ⟨_,.cons (.same _ rfl) (.cons (.same _ rfl) ht),fun b a css w=>stepR_loop⟩
  ·obtain rfl:=Af h;exact Sim.move hfl fun ρ k hk=>by obtain ⟨k',rfl,ht⟩:=y9e.item rfl hk;exact ⟨_,.cons (.same _ rfl) (.cons (.same _ rfl) ht),fun b a css w=>stepR_inLoop⟩
  ·-- an exit
   rename_i id k0;split at h
   ·rename_i k1 hx;obtain rfl:=Af h;exact Sim.move hfl fun ρ k hk=>by obtain ⟨k',rfl,ht⟩:=hk.code;obtain ⟨r',h1,h2⟩:=(ht.exit id).1 _ hx;exact ⟨r',h2,fun b a css w=>stepR_exit h1⟩
   ·rename_i hx;split at h
    ·exact y7m hfl h (.inr (.inr ⟨id,k0,rfl,hx,rfl,rfl⟩))
    ·cases h
  ·-- a region in the order of the text
   rename_i id ops k0;obtain ⟨fB,h⟩:=Zs h;obtain rfl:=Af h;refine ⟨⟨hfl.cx,hfl.cs,hfl.le⟩,Xe.refl _ _,fun ho m0 n0 ρ0 w0 ρ b a k css w ma mb hs he cs0=> ?_⟩;obtain ⟨dU,hdf,htd,hro,eD⟩:=hs.top;obtain ⟨k',rfl,htl⟩:=htd.code;exact ⟨ρ,b,a,k',css,w,ma,mb,.one stepR_region,⟨⟨dU,hdf,htl,⟨rfl,fB⟩,eD⟩,hs.lv,hs.rest,hs.rel⟩,he,rfl,Ar _⟩
  ·-- a region that draws its order
   rename_i id ops k0;split at h
   ·-- it hands out a round
    rename_i m hty;split at h
    ·rename_i st1 hop;obtain rfl:=Af h;obtain ⟨hm,fB,eW,hfor,hgd⟩:=w7s hty;have hm':=Nat.le_of_lt hm;have hi:=y7a hCI _ _ _ _ hop;have e:=hfl.cx;simp only at e;have hcx:cx.floor≤st.next:=by have:=hfl.le;simp only at this;omega
     refine ⟨⟨e,hfl.cs,AK hfl.le hi.nxt⟩,by rw [←e];exact hi,fun ho m0 n0 ρ0 w0 ρ b a k css w ma mb hs he cs0=> ?_⟩;obtain ⟨dU,hdf,htd,hro,eD⟩:=hs.top;obtain ⟨k',rfl,htl⟩:=htd.code;have hw:=z9o hN hS hCI hC hcx eW hop ho hdf dU (hs.rel.drawn (w.drawn+1));have hw2:=wpAny_sound (Wv ops m).size (w.tape w.drawn (.order b.fn id)) _ a _ hw;rw [w4s _ hm',y6f hm'] at hw2;have back: ∀(j:Nat) x,ops[j]? =some x→ ∃y,(Wv ops m)[j]? =some y∧y.after=x.after:=fun j x hx=>by
      have hsa:=y0y hm' j;rw [hx] at hsa;cases hsx:(Wv ops m)[j]? with
      | none=>rw [hsx] at hsa;cases hsa
      | some y=>rw [hsx] at hsa;exact ⟨y,rfl,by simpa using hsa⟩
     have fK: ∀(j:Nat) x,ops[j]? =some x→ ∀e∈x.after.toList,Region.binds .any e=true→e.on<j:=fun j x hx e he hb=>by obtain ⟨y,hy,hya⟩:=back j x hx;exact (z8c eW).ord j y hy e (by rw [hya];exact he) hb
     have hcl0: ∀S,y0t ops S→y0t (Wv ops m) S:=fun S hc j y hy hS e he hb=>by
      have hsa:=y0y hm' j;rw [hy] at hsa;cases hsx:ops[j]? with
      | none=>rw [hsx] at hsa;cases hsa
      | some x=>rw [hsx] at hsa;simp only [BL,Ae] at hsa;exact hc j x hsx hS e (by rw [←hsa];exact he) hb
     have hfor': ∀j x,m≤j→ops[j]? =some x→ ∀i,i<j→y3k ops i x:=fun j x hj hx i hij S hc hr=>by obtain ⟨y,hy,hya⟩:=back j x hx;exact hfor j y hj hy i hij S (hcl0 S hc) fun e he hb=>hr e (by rw [←hya];exact he) hb
     have fD: ∀i,(Array.replicate ops.size false).getD i false=false:=fun i=>by by_cases hi:i<ops.size <;> simp [hi]
     obtain ⟨l,hl,hlm⟩:=u3x fK hm hfor' ops.size (w.tape w.drawn (.order b.fn id)) (Array.replicate ops.size false) (by simp) (fun j x hx hS=>by simp only [fD] at hS;cases hS) (by
      rw [List.countP_eq_length.2]
      ·simp
      ·intro i _;simp only [fD];rfl) (fun q _=>fD q)
     rw [hl] at hw2;obtain ⟨a',w',⟨_,hd',ρ',q1,q2,q3⟩,eI⟩:=y9u (b:=b) (k:=k') (cs:=css++cs0) (fun e a w hq=>hq.1) hm' fB hgd (r:=(List.range ops.size).drop m) (fun i hi=>by
      obtain ⟨n,hn,rfl⟩:=AS hi;simp) l a _ hlm hw2
     have hev:=q3.drawn;refine ⟨ρ',b,a',k',css,w',ma,mb,.head stepR_region_draw ?_,⟨⟨q1,hd',htl.mono fun _ _=>w7l.mono hev.ext,⟨rfl,fB⟩,?_⟩,hs.lv,hs.rest.ev hev,q2⟩,he.trans (by rw [←e];exact hev),rfl,hev.size⟩
     ·simp only [Region.schedule,hmx,BB,if_true,Wt];rw [Region.linearise,hl];exact eI
     ·exact ((⟨dU,hdf,htd,hro,eD⟩:v2f ρ cx none _ rnd st.env b a _ ma).mono hev.ext).rnd
    ·cases h
   split at h;rename_i z hlz;obtain ⟨eW,fB⟩:=v0f hlz;split at h
   ·rename_i st1 hop;obtain rfl:=Af h;have hi:=y7a hCI _ _ _ _ hop;have e:=hfl.cx;simp only at e;have hcx:cx.floor≤st.next:=by have:=hfl.le;simp only at this;omega
    refine ⟨⟨e,hfl.cs,AK hfl.le hi.nxt⟩,by rw [←e];exact hi,fun ho m0 n0 ρ0 w0 ρ b a k css w ma mb hs he cs0=> ?_⟩;obtain ⟨dU,hdf,htd,hro,eD⟩:=hs.top;obtain ⟨k',rfl,htl⟩:=htd.code;have hw:=z9o hN hS hCI hC hcx eW hop ho hdf dU (hs.rel.drawn (w.drawn+1));have hw2:=wpAny_sound ops.size (w.tape w.drawn (.order b.fn id)) _ a _ hw;obtain ⟨a',w',⟨hd',ρ',q1,q2,q3⟩,eI⟩:=y6z (b:=b) (k:=k') (cs:=css++cs0) (fun e a w hq=>hq) fB _ _ _ hw2;have hev:=q3.drawn;refine ⟨ρ',b,a',k',css,w',ma,mb,.head stepR_region_draw ?_,⟨⟨q1,hd',htl.mono fun _ _=>w7l.mono hev.ext,trivial,?_⟩,hs.lv,hs.rest.ev hev,q2⟩,he.trans (by rw [←e];exact hev),rfl,hev.size⟩
    ·simp only [Region.schedule,hmx,BB,if_true];exact eI
    ·exact ((⟨dU,hdf,htd,hro,eD⟩:v2f ρ cx none _ rnd st.env b a _ ma).mono hev.ext).rnd
   ·cases h
   cases h
  ·-- a loop over a function
   rename_i f params assign body k0;split at h
   ·rename_i g caps hg;obtain ⟨env,mem,next,orc,ob⟩:=st;simp only [St.nextId] at h;obtain ⟨hrk,h⟩:=Zs h;have hCeq: ∃fn fbody,P.funcs[g]? =some fn∧fn.body=some fbody∧C'=⟨⟨Nat.max fn.ntmps (AVal.yld next::caps).length,cx.floor,cx.sym⟩,none,[.code fbody],none,fn.results.toList,St.withEnv ⟨env,mem,next+1,orc,ob⟩ (y2c (AVal.yld next::caps) 0 .leaf),⟨cx,none,.inRangeFunc next::k0,rnd,rs,env⟩::cs,v2d lps next (some ⟨.ready,none,cx.n,env,params.toList,assign,body⟩)⟩:=by
     unfold x2e at h;split at h
     ·rename_i fn hfn;split at h
      ·rename_i fbody hb;exact ⟨fn,fbody,hfn,hb,(Af h).symm⟩
      ·cases h
     ·cases h
    obtain ⟨fn,fbody,hfn,hb,hCe⟩:=hCeq;refine ⟨by rw [hCe];exact hfl.enter (Cs _),?_,fun ho m0 n0 ρ0 w0 ρ b a k css w ma mb hs he cs0=> ?_⟩
    ·rw [hCe];exact ⟨Cs _,fun hbd x hx=>hbd x (Nat.le_of_succ_le hx),fun _ _ _=>rfl,fun ho=>ho⟩
    obtain ⟨dU,hdf,htd,hro,eD⟩:=hs.top;obtain ⟨k',rfl,htl⟩:=htd.code;have dQ:=hs.rel;simp only at dU dQ he eD hdf htl;have lay: ∃l mk w1 d,(Instr.enterLoop b.fn a.tmps params assign body b.roundOf).run P w=.ok (l,(mk:List Nat).map j5f) w1∧w1.heap[l]? =some (.loop ⟨.ready,none,b.fn,a.tmps,params,assign,body,d⟩)∧w0.heap.size≤l∧Sp ρ w1 l∧Rel ρ mem next w1∧Ev ρ0 ρ fl m0 n0 mem next w0 w1∧(rnd.isSome=true→mk=[])∧
      x2p P w0.heap.size ρ cs lps css w1 (mk++ma) mb∧(∀j L l',y5m lps j=some L→ρ.lp j=some l'→l'≠l)∧w.heap.size≤w1.heap.size:=by
     have gr: ∀(w1:World) (o:Obj) (mk:List Nat),x2p P w0.heap.size ρ cs lps css w1 mk mb→x2p P w0.heap.size ρ cs lps css (w1.alloc o) mk mb:=fun w1 o mk hr=>
      ⟨hr.cs,hr.nodup,fun r hx=>by obtain ⟨q1,q2,q3⟩:=hr.marks r hx;exact ⟨q1,(q2.grow o).1,by rw [(q2.grow o).2];exact q3⟩,fun j L hL=>by
       obtain ⟨l,q1,q2,q3,tm,fn',d,q4,q5⟩:=hr.loops j L hL;exact ⟨l,q1,q2,(q3.grow o).1,tm,fn',d,by rw [(q3.grow o).2];exact q4,q5⟩,hr.inj⟩
     have far: ∀(w1:World),x2p P w0.heap.size ρ cs lps css w1 ma mb→ ∀j L l',y5m lps j=some L→ρ.lp j=some l'→l'<w1.heap.size:=fun w1 hr j L l' hL e=>by obtain ⟨l2,q⟩:=hr.loops j L hL;have:=q.lp;rw [e] at this;obtain rfl:=Af this;exact q.sp.1
     cases hr:b.roundOf with
     | none=>
      have hrn:rnd=none:=by
       cases rnd with
       | none=>rfl
       | some j=>obtain ⟨_,l,_,e2⟩:=eD;rw [hr] at e2;cases e2
      subst hrn;have hs1:Sp ρ (w.alloc (.deferred (some []))) w.heap.size:=Sp.fresh dQ _;have eX:=dQ.grow (.deferred (some []));have hsz1:(w.alloc (.deferred (some []))).heap.size =w.heap.size+1:=by show (w.heap.push _).size =_;simp
      have fJ:x2p P w0.heap.size ρ cs lps css (w.alloc (.deferred (some []))) ([w.heap.size]++ma) mb:=by
       have hr1:=gr w (.deferred (some [])) ma hs.rest;have hnin:w.heap.size ∉ ma++mb:=fun hin=>by have:=(hs.rest.marks _ hin).2.1.1;omega
       refine ⟨hr1.cs,by rw [AL];exact List.nodup_cons.2 ⟨hnin,hr1.nodup⟩,fun r hx=> ?_,hr1.loops,hr1.inj⟩;simp only [List.cons_append,Bc,AI] at hx;rcases hx with rfl | hx
       ·exact ⟨he.size,hs1,by show (w.heap.push _)[w.heap.size]? =_;simp⟩
       ·exact hr1.marks r hx
      refine ⟨w.heap.size+1,[w.heap.size],_,w.heap.size,run_enterLoop_outer _ _ _ _ _,?_,by have:=he.size;omega,?_,eX.grow _,(he.grow _).grow _,(fun e=>by cases e),gr _ _ _ fJ,fun j L l' hL e=> ?_,?_⟩
      ·have:=World.alloc_heap_new (w.alloc (.deferred (some []))) (.loop {state:=.ready,pending:=none,fn:=b.fn,tmps:=a.tmps,params:=params,assign,body,defers:=w.heap.size});rw [hsz1] at this;exact this
      ·have:=Sp.fresh eX (.loop {state:=.ready,pending:=none,fn:=b.fn,tmps:=a.tmps,params:=params,assign,body,defers:=w.heap.size});rw [hsz1] at this;exact this
      ·have:=far w hs.rest j L l' hL e;omega
      ·show _≤((w.heap.push _).push _).size;simp only [Array.size_push];omega
     | some l0=>
      obtain ⟨j0,rfl⟩: ∃j0,rnd=some j0:=by
       cases rnd with
       | none=>have e2:b.roundOf=none:=eD;rw [hr] at e2;cases e2
       | some j=>exact ⟨j,rfl⟩
      obtain ⟨hma,l1,hlp1,e2⟩:=eD;rw [hr] at e2;obtain rfl:=Af e2;subst hma;have fY: ∃L0,y5m lps j0=some L0:=Option.isSome_iff_exists.1 hrk;obtain ⟨L0,hL0⟩:=fY;obtain ⟨l2,q1,q2,q3,tm,fn',d,q4,q5⟩:=hs.rest.loops j0 L0 hL0;rw [hlp1] at q1;obtain rfl:=Af q1;refine ⟨w.heap.size,[],_,_,run_enterLoop_inner q4 _ _ _ _ _,World.alloc_heap_new _ _,he.size,Sp.fresh dQ _,dQ.grow _,he.grow _,(fun _=>rfl),gr _ _ _ hs.rest,fun j L l' hL e=> ?_,?_⟩
      ·have:=far w hs.rest j L l' hL e;omega
      ·show _≤(w.heap.push _).size;simp only [Array.size_push];omega
    obtain ⟨l,mk,w1,d,hen,fT,gB,hsp,eX,hev1,hmk,fJ,hne,hsz⟩:=lay;have hle:ρ.le (lpAdd ρ next l):=x3y eX.lp_none;have hlpj:(lpAdd ρ next l).lp next=some l:=AC rfl
    have get: ∀i L,y5m (v2d lps next (some L)) i=if i=next then some L else y5m lps i:=fun i L=>T.get_set none lps next (some L) i
    have hlps: ∀j L l',y5m lps j=some L→(lpAdd ρ next l).lp j=some l'→j≠next→ρ.lp j=some l':=fun j L l' _ e hj=>by have e:(if j=next then some l else ρ.lp j)=some l':=e;rwa [Ay hj] at e
    have hrest2:x2p P w0.heap.size (lpAdd ρ next l) cs (v2d lps next (some ⟨.ready,none,cx.n,env,params.toList,assign,body⟩)) css w1 (mk++ma) mb:=by
     refine ⟨fJ.cs.mono hle,fJ.nodup,fJ.marks,fun j L hL=> ?_,fun j j' L L' l' hL hL' e e'=> ?_⟩
     ·rw [get] at hL;by_cases hj:j=next
      ·subst hj;rw [AC rfl] at hL;obtain rfl:=Af hL;exact ⟨l,hlpj,gB,hsp,a.tmps,b.fn,d,by simpa using fT,dU.mono hle⟩
      ·rw [Ay hj] at hL;obtain ⟨l2,q1,q2,q3,tm,fn',d',q4,q5⟩:=fJ.loops j L hL;exact ⟨l2,hle.2.2 _ _ q1,q2,q3,tm,fn',d',q4,q5.mono hle⟩
     ·rw [get] at hL hL';by_cases hj:j=next <;> by_cases hj':j'=next
      ·rw [hj,hj']
      ·subst hj;rw [Ay hj'] at hL';rw [hlpj] at e;exact absurd (Af e).symm (hne j' L' l' hL' (hlps _ _ _ hL' e' hj'))
      ·subst hj';rw [Ay hj] at hL;rw [hlpj] at e';exact absurd (Af e').symm (hne j L l' hL (hlps _ _ _ hL e hj))
      ·rw [Ay hj] at hL;rw [Ay hj'] at hL';exact fJ.inj j j' L L' l' hL hL' (hlps _ _ _ hL e hj) (hlps _ _ _ hL' e' hj')
    have hf:=(show Wg ρ (St.env ⟨env,mem,next,orc,ob⟩) cx.n a.tmps from dU).eval f;rw [hg] at hf;generalize hw':a.eval f=u at hf;cases hf with
    | fn _ _ cvs hl hh=>
     have dT:Vj (Yw (lpAdd ρ next l)) (AVal.yld next::caps) (#[Value.func (.yield l) #[] #[]]++cvs).toList :=by rw [Cn];exact .cons (.yld _ _ hlpj) (Vj.of (by simpa using hl) fun i h1 h2=>by simpa using (hh i h1 (by simpa using h2)).mono hle)
     have eH:=z3b hN hfn (by rw [hb];rfl) (#[Value.func (.yield l) #[] #[]]++cvs) w1;have eY:=stepR_rangeFunc (P:=P) (b:=b) (a:=a) (k:=k') (cs:=css++cs0) (g:=f) (d:=⟨.fn (.func g) cvs, #[Value.func (.yield l) #[] #[]]⟩) (w₁':=w1) hen
      (by simp only [resolve,hw',Deferred.ofValue];simp [Act.eval]) (by simp only [invoke];exact eH)
     have hfr:v2f (lpAdd ρ next l) cx none (.inRangeFunc next::k0) rnd env b {a with defers:=mk.map j5f++a.defers} (.inRangeFunc l::k') (mk++ma):=
      ⟨dU.mono hle,by rw [BH,hdf],.cons (.inR _ _ hlpj) (htl.mono fun _ _=>w7l.mono hle),trivial,by
       cases rnd with
       | none=>exact eD
       | some j=>
        obtain ⟨h0,l',h1,h2⟩:=eD;exact ⟨by rw [hmk rfl,h0];rfl,l',hle.2.2 _ _ h1,h2⟩⟩
     obtain ⟨_,_,_,_,_,b',a',k2,hent,hsr⟩:=x2d h hfr hs.lv hrest2 (show Rel _ mem (next+1) w1 from eX.lpAdd l) dT;refine ⟨lpAdd ρ next l,b',a',k2,_,w1,_,_,.one ?_,hsr,?_,by cases css <;> rfl,hsz⟩
     ·rw [show C'.ro=none by rw [hCe],←hent];exact eY
     ·rw [hCe];exact hev1.lpAdd eX l
   ·cases h
  ·-- a round begins
   rename_i k0;split at h
   ·rename_i j;split at h
    ·rename_i pend n env params assign body hlg;obtain rfl:=Af h;refine ⟨⟨hfl.cx,hfl.cs,hfl.le⟩,Xe.refl _ _,fun ho m0 n0 ρ0 w0 ρ b a k css w ma mb hs he cs0=> ?_⟩;obtain ⟨dU,hdf,htd,hro,eD⟩:=hs.top;obtain ⟨rfl,lr0,hlp0,hrb⟩:=eD;obtain ⟨k',rfl,htl⟩:=y9e.item rfl htd;obtain ⟨lr,hla⟩:=hs.rest.loops j _ hlg;have hla':=hla;obtain ⟨hlp,gB,hsp,ltmps,lfn,ld,fT,fN⟩:=hla;rw [hlp] at hlp0;obtain rfl:=Af hlp0;have dS:=run_beginRound (P:=P) fT rfl;have eQ:=hs.rest.record (w':=w.putObj lr (.loop ⟨.busy,pend,lfn,ltmps,params.toArray,assign,body,ld⟩)) hlg hla' (L':=⟨.busy,pend,n,env,params,assign,body⟩)
      ⟨hlp,gB,hsp.turned (Vx.put _ _ _),ltmps,lfn,ld,World.putObj_heap_same hsp.1,fN⟩ (Vx.put _ _ _)
     refine ⟨ρ,b,a,k',css,_,[],mb,.one (stepR_beginRound hrb dS),⟨⟨dU,hdf,htl,trivial,⟨rfl,lr,hlp,hrb⟩⟩,hs.lv,eQ,hs.rel.turned (fun r hr=>by rw [AT.1 hr];exact hsp) (Vx.put _ _ _)⟩,he.turned (m:=[lr]) (fun r hr=>by rw [AT.1 hr];exact gB) (Vx.put _ _ _),rfl,Nat.le_of_eq (Vx.put _ _ _).size.symm⟩
    ·cases h
   ·cases h
  ·-- a loop's end
   rename_i j k0;split at h
   ·cases h
   ·rename_i lst pend n env params assign body hnb hlg;obtain rfl:=Af h;refine ⟨⟨hfl.cx,hfl.cs,hfl.le⟩,Xe.refl _ _,fun ho m0 n0 ρ0 w0 ρ b a k css w ma mb hs he cs0=> ?_⟩;obtain ⟨dU,hdf,htd,hro,eD⟩:=hs.top;obtain ⟨lr,hla⟩:=hs.rest.loops j _ hlg;have hla':=hla;obtain ⟨hlp,gB,hsp,ltmps,lfn,ld,fT,fN⟩:=hla;cases htd with
    | @cons _ y _ k' hx htl=>
     cases hx with
     | same _ hp=>cases hp
     | endR _ l hl =>
      rw [hlp] at hl;obtain rfl:=Af hl;have hb:lst≠ .busy :=fun e=>by subst e;exact hnb rfl
      have dS:=run_endLoop (P:=P) fT hb;have eQ:=hs.rest.record (w':=w.putObj lr (.loop ⟨.exhausted,pend,lfn,ltmps,params.toArray,assign,body,ld⟩)) hlg hla' (L':=⟨.exhausted,pend,n,env,params,assign,body⟩)
       ⟨hlp,gB,hsp.turned (Vx.put _ _ _),ltmps,lfn,ld,World.putObj_heap_same hsp.1,fN⟩ (Vx.put _ _ _)
      refine ⟨ρ,b,a,_,css,_,ma,mb,.one (stepR_endRangeFunc dS),⟨⟨dU,hdf,?_,trivial,eD⟩,hs.lv,eQ,hs.rel.turned (fun r hr=>by rw [AT.1 hr];exact hsp) (Vx.put _ _ _)⟩,he.turned (m:=[lr]) (fun r hr=>by rw [AT.1 hr];exact gB) (Vx.put _ _ _),rfl,Nat.le_of_eq (Vx.put _ _ _).size.symm⟩;cases pend with
      | none=>exact htl
      | some c=>exact .cons (.same _ rfl) htl
   ·cases h
  ·cases h
theorem v4g {S:Specs} {Rc:Runner} {n:Nat} {C:Cfg}:runS P S Rc (n+1) C=(bif z7a C then some C else match w8a P S Rc C with
  | some C'=>runS P S Rc n C'
  | none=>none):=rfl
theorem y7z {C:Cfg} (h:z7a C=true):C.ro=none∧C.rnd=none∧C.cs=[]∧(C.todo=[]∨ ∃t,C.todo=.code .ret ::t):=by
 unfold z7a at h;split at h
 ·exact ⟨rfl,rfl,rfl,.inl rfl⟩
 ·exact ⟨rfl,rfl,rfl,.inr ⟨_,rfl⟩⟩
 ·cases h
theorem y2r.trans {fl:Nat} {A B C:Cfg} (h:y2r P fl A B) (k:y2r P fl B C):y2r P fl A C:=by intro m0 n0 ρ0 w0 ρ b a t css w ma mb hs he cs0;obtain ⟨ρ1,b1,a1,t1,css1,w1,ma1,mb1,s1,r1,e1,q1,z1⟩:=h m0 n0 ρ0 w0 ρ b a t css w ma mb hs he cs0;obtain ⟨ρ2,b2,a2,t2,css2,w2,ma2,mb2,s2,r2,e2,q2,z2⟩:=k m0 n0 ρ0 w0 ρ1 b1 a1 t1 css1 w1 ma1 mb1 r1 e1 cs0;exact ⟨ρ2,b2,a2,t2,css2,w2,ma2,mb2,s1.trans s2,r2,e2,q2.trans q1,AK z1 z2⟩
theorem x3h {S:Specs} {Rc:Runner} (hN:y0s P) (hmx:P.follows .mixedOrders =true) (hS:Zu P S) (hCI:w7j Rc) (hC:ROk P Rc) {fl:Nat}: ∀(n:Nat) (C C':Cfg),Fl fl C→runS P S Rc n C=some C'→z7a C'=true∧Xe fl C.st C'.st∧(C'.st.ob=true→y2r P fl C C')
 | 0,C,st',_,h=>by cases h
 | n+1,C,C',hfl,h=>by
  rw [v4g] at h;cases hf:z7a C with
  | true=>rw [hf] at h;obtain rfl:=Af h;exact ⟨hf,Xe.refl _ _,fun _=>y2r.refl fl C⟩
  | false=>
   rw [hf,Aa] at h;split at h
   ·rename_i C1 h1;have s1:=x5n hN hmx hS hCI hC hfl h1;obtain ⟨f1,f4,f5⟩:=x3h hN hmx hS hCI hC n C1 C' s1.fls h;exact ⟨f1,s1.inv.trans f4,fun ho=>(s1.leads (f4.ob ho)).trans (f5 ho)⟩
   ·cases h
theorem y9e.refl_plain {ρ:Rho}: ∀(k:List Item),k.all z1e=true→y9e ρ k k
 | [],_=>.nil
 | x::k,h=>by simp only [List.all_cons,Ac] at h;exact .cons (.same x h.1) (y9e.refl_plain k h.2)
theorem x1f (base:Nat) (ρ:Rho) (w:World):x2p P base ρ [] .leaf [] w [] []:=
 ⟨.nil,List.nodup_nil,(fun r hr=>by cases hr),(fun j L hL=>by cases hL),(fun j j' L L' l hL=>by cases hL)⟩
theorem v4h (hN:y0s P) (hmx:P.follows .mixedOrders =true) {S:Specs} (hS:Zu P S) (n:Nat): ∀d,w7j (j3b P S n d)∧ROk P (j3b P S n d)
 | 0=>⟨(fun cx todo st st' h=>by cases h),(fun cx todo st st' _ h=>by cases h)⟩
 | d+1=>by
  obtain ⟨hCI,hC⟩:=v4h hN hmx hS n d;have key: ∀{cx todo st st'},j3b P S n (d+1) cx todo st=some st'→todo.all z1e=true∧Fl cx.floor ⟨cx,none,todo,none,[],st,[],.leaf⟩∧ ∃C',runS P S (j3b P S n d) n ⟨cx,none,todo,none,[],st,[],.leaf⟩=some C'∧C'.cx.n=cx.n∧C'.st=st':=by
   intro cx todo st st' h;have h:(bif todo.all z1e&&Nat.ble cx.floor st.next then match runS P S (j3b P S n d) n ⟨cx,none,todo,none,[],st,[],.leaf⟩ with
    | some C=>bif Nat.beq C.cx.n cx.n then some C.st else none
    | none=>none
    else none)=some st':=h
   obtain ⟨hp,h⟩:=Zs h;simp only [Ac] at hp;refine ⟨hp.1,⟨rfl,fun af haf=>(by cases haf),Al hp.2⟩,?_⟩;split at h
   ·rename_i C' hr;obtain ⟨hn,h⟩:=Zs h;exact ⟨C',hr,Ak hn,Af h⟩
   ·cases h
  refine ⟨fun cx todo st st' h=> ?_,fun cx todo st st' hcx h ho ρ a w b cs hd dU dQ=> ?_⟩
  ·obtain ⟨_,hfl,C',hr,_,rfl⟩:=key h;exact (x3h hN hmx hS hCI hC n _ C' hfl hr).2.1
  ·obtain ⟨hpl,hfl,C',hr,hn,rfl⟩:=key h;obtain ⟨f1,f2,f3⟩:=x3h hN hmx hS hCI hC n _ C' hfl hr;obtain ⟨e1,e2,e3,e4⟩:=y7z f1;obtain ⟨ρ',b',a',k',css',w',ma',mb',s1,r1,v1,q1,_⟩:=f3 ho st.mem st.next ρ w ρ {b with roundOf:=none} a todo [] w [] []
    ⟨⟨dU,hd,y9e.refl_plain todo hpl,trivial,rfl⟩,fun h=>absurd rfl h,x1f _ _ _,dQ⟩ (Ev.refl _ _ _ _ _ dQ.dom) cs
   have hcs:=r1.rest.cs;rw [e3] at hcs;cases hcs;obtain ⟨w2,s2,henv',eT,fP,_,_⟩:=y8d r1 e1 e2 e4 rfl v1 cs;refine ⟨ρ',{a' with defers:=[]},k',w2,?_,rfl,by rw [←hn];exact henv',eT,fP⟩;have hb:b.at a todo=Frame.atR {b with roundOf:=none} a (Wt none todo):=rfl;have hb':Frame.atR b' {a' with defers:=[]} k'=b.at {a' with defers:=[]} k':=by have q:(b'.fn,b'.kind,b'.roundOf)=(b.fn,b.kind,none):=q1;simp only [Ad] at q;simp [Frame.atR,Frame.at,q.1,q.2.1,q.2.2]
   rw [hb,←hb'];exact s1.trans s2
end
structure y0v where
 keep:List Nat
 frz:List Nat
 slots:List (Option (List Nat))
 lslots:List (Option (List Nat)):=[]
def y7u (b:Nat):List Nat→Nat→Option Nat
 | [],_=>none
 | x::l,i=>bif Nat.beq x b then some i else y7u b l (i+1)
def hasN (b:Nat):List Nat→Bool
 | []=>false
 | x::l=>bif Nat.beq x b then true else hasN b l
def y9k (cells:List AVal) (off sz:Nat):Nat→List AVal:=fun k=>(cells.drop (off+k*sz)).take sz
def frzV (P:Program) (blk:ABlk):AVal→AVal
 | .ptr _ o=>.dptr (blk.cells.drop o)
 | .sl _ off len _=>match P.info? blk.ty with
  | some i=>bif Nat.ble (off+len*i.size) blk.cells.length then .dat len (y9k blk.cells off i.size) else .undef
  | none=>.undef
 | .sla _ sz off len _=>match blk.arr with
  | some A=>bif Nat.beq A.sz sz&&Nat.ble (off+len) A.n then .dat len (fun k=>A.get (off+k)) else .undef
  | none=>.undef
 | _=>.undef
def renB (P:Program) (mem:Mem) (N:y0v) (b:Nat) (v:AVal) (f:Nat→AVal):AVal:=
 match y7u b N.keep 0 with
 | some b'=>f b'
 | none=>bif hasN b N.frz then match Yn mem b with
   | some blk=>frzV P blk v
   | none=>.undef
  else .undef
def ren (P:Program) (mem:Mem) (N:y0v):Nat→AVal→AVal
 | 0,_=>.undef
 | d+1,v=>match v with
  | .ptr b o=>renB P mem N b (.ptr b o) fun b'=>.ptr b' o
  | .sl b off len cap=>renB P mem N b (.sl b off len cap) fun b'=>.sl b' off len cap
  | .sla b sz off len cap=>renB P mem N b (.sla b sz off len cap) fun b'=>.sla b' sz off len cap
  | .epa b sz i fo=>renB P mem N b (.epa b sz i fo) fun b'=>.epa b' sz i fo
  | .yld j=>match y7u j N.keep 0 with
   | some j'=>.yld j'
   | none=>.undef
  | .slv b sz off len=>match y7u b N.keep 0 with
   | some b'=>.slv b' sz off len
   | none=>.undef
  | .agg cs=>.agg (cs.map (ren P mem N d))
  | .tup cs=>.tup (cs.map (ren P mem N d))
  | .fn f cs=>.fn f (cs.map (ren P mem N d))
  | .fnb f cs=>.fnb f (cs.map (ren P mem N d))
  | .ifc t v=>.ifc t (ren P mem N d v)
  | v=>v
def T.map (f:AVal→AVal) (t:T AVal):T AVal:=
 T.rec (motive:=fun _=>T AVal) .leaf (fun v _ _ l r=>.node (f v) l r) t
def y7q (f:AVal→AVal) (env:T AVal):List Nat→T AVal
 | []=>.leaf
 | t::l=>T.set .undef (y7q f env l) t (f (T.get .undef env t))
def u8y (f:AVal→AVal) (env:T AVal):Option (List Nat)→T AVal
 | none=>T.map f env
 | some l=>y7q f env l
def z6q (f:AVal→AVal):Rws→Rws
 | .flat g=>.flat g
 | .one r cs b=>.one r (cs.map f) (z6q f b)
 | .alt c a b=>.alt c (z6q f a) (z6q f b)
def y6w (P:Program) (mem:Mem) (N:y0v):ABlk→ABlk
 | ⟨cells,ty,none⟩=>⟨cells.map (ren P mem N 6),ty,none⟩
 | ⟨_,ty,some A⟩=>⟨Yq A.n (z6q (ren P mem N 6) A.rw).get,ty,some ⟨A.sz,A.n,z6q (ren P mem N 6) A.rw⟩⟩
def x1z :Rws→Bool
 | .flat g=>pd (∀i,(g i).all (pf 6)=true)
 | .one _ _ b=>x1z b
 | .alt _ a b=>x1z a&&x1z b
def u4o (blk:ABlk):Bool:=match blk.arr with
 | none=>true
 | some A=>x1z A.rw
def z9u (P:Program) (mem:Mem) (N:y0v):List Nat→Nat→Mem×Bool
 | [],_=>(.leaf,true)
 | b::l,i=>match z9u P mem N l (i+1) with
  | (m,o)=>match Yn mem b with
   | none=>(m,o)
   | some blk=>(Wz m i (some (y6w P mem N blk)),u4o blk&&o)
def z9y (mem:Mem):List Nat→Bool
 | []=>true
 | b::l=>match Yn mem b with
  | none=>z9y mem l
  | some blk=>(match blk.arr with
   | none=>blk.cells.all (pf 6)
   | some A=>pd (∀i,(A.get i).all (pf 6)=true))&&z9y mem l
def w2k (f:AVal→AVal) (lps:Loops):List Nat→Nat→List (Option (List Nat))→Loops
 | [],_,_=>.leaf
 | b::l,i,sl=>match y5m lps b with
  | none=>w2k f lps l (i+1) sl.tail
  | some ⟨st,pend,n,env,params,assign,body⟩=>v2d (w2k f lps l (i+1) sl.tail) i (some ⟨st,pend,n,u8y f env (sl.headD none),params,assign,body⟩)
def y1n (keep:List Nat):Item→Option Item
 | .inRangeFunc j=>(y7u j keep 0).map .inRangeFunc
 | .endRangeFunc j=>(y7u j keep 0).map .endRangeFunc
 | x=>bif z1e x then some x else none
def z6b (keep:List Nat):List Item→Option (List Item)
 | []=>some []
 | x::l=>match y1n keep x,z6b keep l with
  | some y,some m=>some (y::m)
  | _,_=>none
def x6d (keep:List Nat):Option Nat→Option (Option Nat)
 | none=>some none
 | some j=>(y7u j keep 0).map some
def w9v (f:AVal→AVal) (keep:List Nat):List AFr→List (Option (List Nat))→Option (List AFr)
 | [],_=>some []
 | ⟨cx,ro,todo,rnd,rs,env⟩::cs,sl=>match z6b keep todo,x6d keep rnd,w9v f keep cs sl.tail with
  | some todo',some rnd',some cs'=>some (⟨cx,ro,todo',rnd',rs,u8y f env (sl.headD none)⟩::cs')
  | _,_,_=>none
def disj :List Nat→List Nat→Bool
 | [],_=>true
 | b::l,frz=> !hasN b frz&&(!hasN b l&&disj l frz)
def u3j (P:Program) (N:y0v):Cfg→Option Cfg
 | ⟨cx,ro,todo,rnd,rs,⟨env,mem,next,orc,ob⟩,cs,lps⟩=>
  match z6b N.keep todo,x6d N.keep rnd,w9v (ren P mem N 6) N.keep cs N.slots.tail with
  | some todo',some rnd',some cs'=>
   bif disj N.keep N.frz then
    match z9u P mem N N.keep 0 with
    | (mem',o)=>some ⟨cx,ro,todo',rnd',rs,⟨u8y (ren P mem N 6) env (N.slots.headD none),mem',N.keep.length,[],o&&(z9y mem N.frz&&ob)⟩,cs',w2k (ren P mem N 6) lps N.keep 0 N.lslots⟩
   else none
  | _,_,_=>none
def atP :Code→List Nat→List Item→Code×List Item
 | c,[],k=>(c,k)
 | .seq a b,0::p,k=>atP a p (.code b::k)
 | .seq _ b,_::p,k=>atP b p k
 | .block id c,_::p,k=>atP c p (.inBlock id::k)
 | .loop c,_::p,k=>atP c p (.inLoop c::k)
 | .scope c,_::p,k=>atP c p (.inScope c::k)
 | .cond _ a _,0::p,k=>atP a p k
 | .cond _ _ b,_::p,k=>atP b p k
 | .rangeFunc _ _ a b,0::p,_=>atP a p [.beginRound,.code b]
 | .rangeFunc _ _ _ b,_::p,_=>atP b p []
 | c,_::_,k=>(c,k)
def Zc (P:Program) (f:FuncId) (p:List Nat) (j:Nat):List Item:=match atP (j0r P f) p [] with
 | (c,k)=>(.code c::k).drop j
def Vy (P:Program) (f:FuncId) (p:List Nat):Code:=(atP (j0r P f) p []).1
def Up (P:Program) (f:FuncId) (p:List Nat) (i:Nat):Option RegOps:=match Vy P f p with
 | .region _ ops _=>some (ops,i,ops.toList.drop i)
 | _=>none
def u4b (P:Program) (S:Specs) (Rc:Runner) (n:Nat):Cfg→Option Cfg:=
 Nat.rec (motive:=fun _=>Cfg→Option Cfg) (fun C=>some C) (fun _ R C=>match w8a P S Rc C with
  | some C'=>R C'
  | none=>none) n
section
variable {P:Program}
theorem Jy {p:Prop} (h:pd p=true):p:= @AA p (Classical.propDecidable p) h
theorem Ys {p:Prop} (h:p):pd p=true:= @Ai p (Classical.propDecidable p) h
theorem x1y {b:Nat}: ∀{l:List Nat} {i j:Nat},y7u b l i=some j→i≤j∧l[j - i]? =some b
 | [],i,j,h=>by cases h
 | x::l,i,j,h=>by
  unfold y7u at h;rcases Jg h with ⟨hx,h⟩ | ⟨_,h⟩
  ·obtain rfl:=Af h;have:=Ak hx;exact ⟨Ar _,by simp [this]⟩
  ·obtain ⟨h1,h2⟩:=x1y h;refine ⟨by omega,?_⟩;rw [show j - i=(j - (i+1))+1 by omega]
   simpa using h2
theorem y5s {b:Nat}: ∀{l:List Nat},hasN b l=true↔b∈l
 | []=>by simp [hasN]
 | x::l=>by
  unfold hasN;cases hx:Nat.beq x b with
  | true=>simp [Ak hx]
  | false=>
   have:x≠b:=fun e=>by rw [e,B3] at hx;cases hx
   rw [Aa,y5s,AI];exact ⟨.inr,fun h=>h.resolve_left fun e=>this e.symm⟩
theorem y8g : ∀{l frz:List Nat},disj l frz=true→l.Nodup∧ ∀b∈l,b ∉ frz
 | [],_,_=>⟨List.nodup_nil,fun b hb=>by cases hb⟩
 | x::l,frz,h=>by
  unfold disj at h;simp only [Ac,BE] at h;obtain ⟨h1,h2,h3⟩:=h;obtain ⟨i1,i2⟩:=y8g h3;have n1:x ∉ frz:=fun hm=>by rw [y5s.2 hm] at h1;cases h1
  have n2:x ∉ l:=fun hm=>by rw [y5s.2 hm] at h2;cases h2
  exact ⟨List.nodup_cons.2 ⟨n2,i1⟩,fun b hb=>by
   rcases AI.1 hb with rfl | hb
   ·exact n1
   ·exact i2 b hb⟩
def Fz (ρ:Rho) (mem:Mem) (N:y0v) (k:Nat):Prop:= ∃b l,b∈N.frz∧ρ b=some l∧(Yn mem b).isSome =true∧l.blk=k
def y6r (ρ:Rho) (mem:Mem) (N:y0v) (w:World):Rho:=
 ⟨fun b'=>(N.keep[b']?).bind fun b=>ρ b,fun k=> @ite _ (Fz ρ mem N k) (Classical.propDecidable _) (w.heap[k]?) (ρ.fz k),fun j'=>(N.keep[j']?).bind fun j=>ρ.lp j⟩
theorem z5z {ρ:Rho} {mem:Mem} {next:Nat} {w:World} (h:Rel ρ mem next w) (N:y0v) {k:Nat} {o:Obj} (e:ρ.fz k=some o):(y6r ρ mem N w).fz k=some o:=by
 show @ite _ (Fz ρ mem N k) (Classical.propDecidable _) (w.heap[k]?) (ρ.fz k)=some o;by_cases hf:Fz ρ mem N k
 ·obtain ⟨b,l,_,hb,hm,rfl⟩:=hf;have:=h.sep b l hb hm;rw [e] at this;cases this
 ·rw [Ay hf];exact e
theorem w0v {ρ:Rho} {mem:Mem} {w:World} {N:y0v} {b:Nat} {l:Loc} (hb:b∈N.frz) (hl:ρ b=some l) (hm:(Yn mem b).isSome =true):(y6r ρ mem N w).fz l.blk=w.heap[l.blk]? :=
 AC ⟨b,l,hb,hl,hm,rfl⟩
theorem z9e {ρ:Rho} {mem:Mem} {next:Nat} {w:World} (h:Rel ρ mem next w) (N:y0v):ρ.bare.le (y6r ρ mem N w).bare :=⟨fun _ _ e=>(by cases e),fun _ _ e=>z5z h N e,fun _ _ e=>(by cases e)⟩
theorem Kh {ρ:Rho} {mem:Mem} {w:World} {N:y0v} {b b':Nat} (h:y7u b N.keep 0=some b'):(y6r ρ mem N w) b'=ρ b∧(y6r ρ mem N w).lp b'=ρ.lp b:=by
 obtain ⟨_,h2⟩:=x1y h;rw [Nat.sub_zero] at h2;constructor
 ·show (N.keep[b']?).bind _=_;rw [h2];rfl
 ·show (N.keep[b']?).bind _=_;rw [h2];rfl
theorem y2a {mem:Mem}: ∀{frz:List Nat},z9y mem frz=true→ ∀b∈frz,∀blk,Yn mem b=some blk→(match blk.arr with | none=>blk.cells.all (pf 6)=true | some A=> ∀i,(A.get i).all (pf 6)=true)
 | [],_,b,hb,_,_=>by cases hb
 | x::l,h,b,hb,blk,hm=>by
  unfold z9y at h;rcases AI.1 hb with rfl | hb
  ·rw [hm] at h;simp only [Ac] at h;cases hA:blk.arr with
   | none=>have:=h.1;rw [hA] at this;exact this
   | some A=>have:=h.1;rw [hA] at this;exact Jy this
  ·cases hx:Yn mem x with
   | none=>rw [hx] at h;exact y2a h b hb blk hm
   | some blk'=>rw [hx] at h;simp only [Ac] at h;exact y2a h.2 b hb blk hm
theorem y7x {mem:Mem} {next:Nat} {w:World} {ρ:Rho} (h:Rel ρ mem next w) {N:y0v} (ho:z9y mem N.frz=true) {b:Nat} (hb:b∈N.frz) {blk:ABlk} (hm:Yn mem b=some blk) {l:Loc} (hl:ρ b=some l):
  ∃val:Nat→Value,∀(i:Nat) (hi:i<blk.cells.length),Yw (y6r ρ mem N w).bare blk.cells[i] (val i)∧x8g (y6r ρ mem N w).fz l.blk (l.base+i) (val i):=by
 obtain ⟨hn,ht,har,cs,el,h1,h2,h3⟩:=h.blk b l blk hl hm;refine ⟨fun i=>(cs[l.base+i]?).getD undef,fun i hi=> ?_⟩;obtain ⟨v,e1,e2⟩:=h3 i hi;have hpf:pf 6 blk.cells[i]=true:=by
  have:=y2a ho b hb blk hm;cases hA:blk.arr with
  | none=>rw [hA] at this;exact At.1 this _ (AM hi)
  | some A=>
   rw [hA] at this;obtain ⟨q1,_,_⟩:=har A hA;have gA:blk.cells[i]∈Yq A.n A.get:=by rw [←q1];exact AM hi
   unfold Yq at gA;rw [AN] at gA;obtain ⟨r,_,hr⟩:=gA;exact At.1 (this r) _ hr
 dsimp only;rw [e1];refine ⟨(Kn 6 _ _ hpf e2).mono (z9e h N),cs,el,(0,0),?_,e1⟩;rw [w0v hb hl (by rw [hm];rfl)];exact h1
theorem v0t {mem:Mem} {next:Nat} {w:World} {ρ:Rho} (h:Rel ρ mem next w) {N:y0v} (ho:z9y mem N.frz=true) {b:Nat} (hb:b∈N.frz) {blk:ABlk} (hm:Yn mem b=some blk) {v:AVal} {u:Value} (hv:Yw ρ v u)
  (hvb:(∃o,v=.ptr b o)∨(∃off len cap,v=.sl b off len cap)∨(∃sz off len cap,v=.sla b sz off len cap)∨ ∃sz i fo,v=.epa b sz i fo):Yw (y6r ρ mem N w) (frzV P blk v) u:=by
 rcases hvb with ⟨o,rfl⟩ | ⟨off,len,cap,rfl⟩ | ⟨sz,off,len,cap,rfl⟩ | ⟨sz,i,fo,rfl⟩
 ·cases hv with
  | ptr _ _ l hl=>
   obtain ⟨val,eC⟩:=y7x h ho hb hm hl;refine .dptr _ _ _ (fun j=>val (o+j)) (fun j hj=> ?_) (fun j hj=> ?_)
   ·have:=(eC (o+j) (by simp at hj;omega)).1
    simpa using this
   ·have:=(eC (o+j) (by simp at hj;omega)).2;rw [AB];exact this
 ·simp only [frzV];split
  ·rename_i i hi;cases hc:Nat.ble (off+len*i.size) blk.cells.length with
   | false=>exact .undef _
   | true=>
    rw [Ab];have hle:=Al hc;cases hv with
    | sl _ _ _ _ l c hl _ dR=>
     obtain ⟨val,eC⟩:=y7x h ho hb hm hl;have hin: ∀k,k<len→k*i.size+i.size≤len*i.size:=fun k hk=>by have:=AH i.size (show k+1≤len from hk);rw [AR,BI] at this;exact this
     refine .dat len _ l.blk (l.base+off) i.size c (fun k j=>val (off+(k*i.size+j))) dR (fun k hk=> ?_) (fun k j hk hj=> ?_) (fun k j hk hj=> ?_)
     ·have:=hin k hk;simp [y9k];omega
     ·have:=hin k hk;have hj':j<i.size:=by simp [y9k] at hj;omega
      have:=(eC (off+(k*i.size+j)) (by omega)).1
      simpa [y9k,AB] using this
     ·have:=hin k hk;have:=(eC (off+(k*i.size+j)) (by omega)).2;rw [AB];exact this
  ·exact .undef _
 ·simp only [frzV];split
  ·rename_i A hA;cases hc:(Nat.beq A.sz sz&&Nat.ble (off+len) A.n) with
   | false=>exact .undef _
   | true=>
    rw [Ab];simp only [Ac] at hc;obtain rfl:=Ak hc.1;have hle:=Al hc.2;cases hv with
    | slan=>exact .datn _
    | sla _ _ _ _ _ l c hl _ dR=>
     obtain ⟨val,eC⟩:=y7x h ho hb hm hl;obtain ⟨q1,q2,q3⟩:=(h.blk b l blk hl hm).arr A hA;have fV:=Ym A.n q3;have gH: ∀k j,k<len→j<A.sz→ ∃hi:(off+k)*A.sz+j<blk.cells.length,blk.cells[(off+k)*A.sz+j]? =(A.get (off+k))[j]? :=fun k j hk hj=>by
      have e:=Vw A.n q3 (off+k) j (by omega) hj;rw [←q1] at e;have hj2:j<(A.get (off+k)).length :=by rw [q3 (off+k) (by omega)];exact hj
      rw [Ao hj2] at e;obtain ⟨hi,_⟩:=Be.1 e;exact ⟨hi,by rw [e,Ao hj2]⟩
     refine .dat len _ l.blk (l.base+off*A.sz) A.sz c (fun k j=>val ((off+k)*A.sz+j)) dR (fun k hk=>q3 _ (by omega)) (fun k j hk hj=> ?_) (fun k j hk hj=> ?_)
     ·have hj':j<A.sz:=by rw [←q3 (off+k) (by omega)];exact hj
      obtain ⟨hi,e⟩:=gH k j hk hj';have:=(eC _ hi).1;rw [Ao hi,Ao hj] at e;rw [Af e] at this;exact this
     ·obtain ⟨hi,_⟩:=gH k j hk hj;have:=(eC _ hi).2;rw [show l.base+off*A.sz+(k*A.sz+j)=l.base+((off+k)*A.sz+j) by rw [AR];omega];exact this
  ·exact .undef _
 ·exact .undef _
theorem z2x {mem:Mem} {next:Nat} {w:World} {ρ:Rho} (h:Rel ρ mem next w) {N:y0v} (ho:z9y mem N.frz=true) {b:Nat} {v:AVal} {u:Value} {f:Nat→AVal} (hv:Yw ρ v u)
  (hvb:(∃o,v=.ptr b o)∨(∃off len cap,v=.sl b off len cap)∨(∃sz off len cap,v=.sla b sz off len cap)∨ ∃sz i fo,v=.epa b sz i fo)
  (hf: ∀b',y7u b N.keep 0=some b'→Yw (y6r ρ mem N w) (f b') u):Yw (y6r ρ mem N w) (renB P mem N b v f) u:=by
 unfold renB;split
 ·rename_i b' hb';exact hf b' hb'
 ·cases hc:hasN b N.frz with
  | false=>exact .undef _
  | true=>
   rw [Ab];split
   ·rename_i blk hm;exact v0t h ho (y5s.1 hc) hm hv hvb
   ·exact .undef _
theorem z5j {mem:Mem} {next:Nat} {w:World} {ρ:Rho} (h:Rel ρ mem next w) {N:y0v} (ho:z9y mem N.frz=true): ∀(d:Nat) (v:AVal) (u:Value),Yw ρ v u→Yw (y6r ρ mem N w) (ren P mem N d v) u
 | 0,_,_,_=>.undef _
 | d+1,v,u,hv=>by
  have ih:=fun v u=>z5j h ho (N:=N) d v u;have list: ∀{cs:List AVal} {vs:Array Value},cs.length=vs.size→(∀(i:Nat) (h1:i<cs.length) (h2:i<vs.size),Yw ρ cs[i] vs[i])→
    (cs.map (ren P mem N d)).length =vs.size∧ ∀(i:Nat) (h1:i<(cs.map (ren P mem N d)).length) (h2:i<vs.size),Yw (y6r ρ mem N w) (cs.map (ren P mem N d))[i] vs[i]:=fun hl hh=>
   ⟨by simpa using hl,fun i h1 h2=>by simpa using ih _ _ (hh i (by simpa using h1) h2)⟩
  unfold ren;cases hv with
  | undef=>exact .undef _
  | bool b=>exact .bool b
  | int k n=>exact .int k n
  | str s=>exact .str s
  | agg cs vs hl hh=>exact .agg _ _ (list hl hh).1 (list hl hh).2
  | tup cs vs hl hh=>exact .tup _ _ (list hl hh).1 (list hl hh).2
  | fn f cs vs hl hh=>exact .fn f _ _ (list hl hh).1 (list hl hh).2
  | fnb f cs vs hl hh=>exact .fnb f _ _ (list hl hh).1 (list hl hh).2
  | ptr b o l hl=>exact z2x h ho (.ptr b o l hl) (.inl ⟨o,rfl⟩) fun b' hb'=>.ptr b' o l (by rw [(Kh hb').1];exact hl)
  | nilp=>exact .nilp
  | sl b off len cap l c hl hc dR=>exact z2x h ho (.sl b off len cap l c hl hc dR) (.inr (.inl ⟨off,len,cap,rfl⟩)) fun b' hb'=>.sl b' off len cap l c (by rw [(Kh hb').1];exact hl) hc dR
  | nils=>exact .nils
  | sla b sz off len cap l c hl hc dR=>exact z2x h ho (.sla b sz off len cap l c hl hc dR) (.inr (.inr (.inl ⟨sz,off,len,cap,rfl⟩))) fun b' hb'=>.sla b' sz off len cap l c (by rw [(Kh hb').1];exact hl) hc dR
  | slan b sz off cap=>exact z2x h ho (.slan b sz off cap) (.inr (.inr (.inl ⟨sz,off,0,cap,rfl⟩))) fun b' hb'=>.slan b' sz off cap
  | epa b sz i fo l hl=>exact z2x h ho (.epa b sz i fo l hl) (.inr (.inr (.inr ⟨sz,i,fo,rfl⟩))) fun b' hb'=>.epa b' sz i fo l (by rw [(Kh hb').1];exact hl)
  | nilf=>exact .nilf
  | yld j l hl=>
   simp only;split
   ·rename_i j' hj';exact .yld j' l (by rw [(Kh hj').2];exact hl)
   ·exact .undef _
  | slv b sz off len l c hl dR=>
   simp only;split
   ·rename_i j' hj';exact .slv j' sz off len l c (by rw [(Kh hj').1];exact hl) dR
   ·exact .undef _
  | slve b sz off blk base c=>
   simp only;split
   ·exact .slve _ sz off blk base c
   ·exact .undef _
  | slvn b sz off=>
   simp only;split
   ·exact .slvn _ sz off
   ·exact .undef _
  | ifc t a v hv=>exact .ifc t _ _ (ih _ _ hv)
  | nili=>exact .nili
  | dat len get blk base sz cap val dW hsz hv hh=>refine .dat len get blk base sz cap val dW hsz (fun i j hi hj=>(hv i j hi hj).mono (z9e h N)) (fun i j hi hj=> ?_);obtain ⟨cs,el,fz,e1,e2⟩:=hh i j hi hj;exact ⟨cs,el,fz,z5z h N e1,e2⟩
  | datn get=>exact .datn get
  | datz get a c=>exact .datz get a c
  | dptr cs blk base val hv hh=>refine .dptr cs blk base val (fun j hj=>(hv j hj).mono (z9e h N)) (fun j hj=> ?_);obtain ⟨cs',el,fz,e1,e2⟩:=hh j hj;exact ⟨cs',el,fz,z5z h N e1,e2⟩
theorem T.get_map {f:AVal→AVal} (hf:f .undef =.undef): ∀(t:T AVal) (i:Nat),T.get .undef (T.map f t) i=f (T.get .undef t i)
 | .leaf,i=>hf.symm
 | .node v l r,0=>rfl
 | .node v l r,i+1=>by
  show T.get .undef (.node (f v) (T.map f l) (T.map f r)) (i+1)=_;rw [T.get_succ,T.get_succ];split
  ·exact T.get_map hf l _
  ·exact T.get_map hf r _
theorem y1t {f:AVal→AVal} (env:T AVal): ∀(L:List Nat) (t:Nat),T.get .undef (y7q f env L) t=if t∈L then f (T.get .undef env t) else .undef
 | [],t=>by simp [y7q]
 | x::L,t=>by
  unfold y7q;rw [T.get_set,y1t env L t];by_cases h:t=x
  ·subst h;simp
  ·simp [h]
theorem w5q {mem:Mem} {next:Nat} {w:World} {ρ:Rho} (h:Rel ρ mem next w) {N:y0v} (ho:z9y mem N.frz=true) {env:T AVal} {n:Nat} {tmps:Array Value} (he:Wg ρ env n tmps): ∀(L:Option (List Nat)),Wg (y6r ρ mem N w) (u8y (ren P mem N 6) env L) n tmps
 | none=>by
  refine ⟨he.size,fun i=> ?_,fun i hi=> ?_⟩
  ·show Yw _ (T.get .undef (T.map (ren P mem N 6) env) i) _;rw [T.get_map rfl];exact z5j h ho 6 _ _ (he.get i)
  ·show T.get .undef (T.map (ren P mem N 6) env) i=_;rw [T.get_map rfl,he.out i hi];rfl
 | some L=>by
  refine ⟨he.size,fun i=> ?_,fun i hi=> ?_⟩
  ·show Yw _ (T.get .undef (y7q (ren P mem N 6) env L) i) _;rw [y1t];split
   ·exact z5j h ho 6 _ _ (he.get i)
   ·exact .undef _
  ·show T.get .undef (y7q (ren P mem N 6) env L) i=_;rw [y1t,he.out i hi];split <;> rfl
theorem x7a {mem:Mem} {N:y0v}: ∀(l:List Nat) (i j:Nat),Yn (z9u P mem N l i).1 j=if i≤j then (l[j - i]?).bind fun b=>(Yn mem b).map (y6w P mem N) else none
 | [],i,j=>by simp [z9u,Yn]
 | b::l,i,j=>by
  unfold z9u;have ih:=x7a (mem:=mem) (N:=N) l (i+1);have tail:i<j→(b::l)[j - i]? =l[j - (i+1)]? :=fun h=>by rw [show j - i=(j - (i+1))+1 by omega];rfl
  cases hm:Yn mem b with
  | none=>
   show Yn (z9u P mem N l (i+1)).1 j=_;rw [ih];rcases Bt i j with h | h | h
   ·rw [AC (by omega),AC (by omega),tail h]
   ·subst h;rw [Ay (by omega),AC (by omega)];simp [hm]
   ·rw [Ay (by omega),Ay (by omega)]
  | some blk=>
   show Yn (Wz (z9u P mem N l (i+1)).1 i (some (y6w P mem N blk))) j=_;rw [Vk,ih];rcases Bt i j with h | h | h
   ·rw [Ay (by omega),AC (by omega),AC (by omega),tail h]
   ·subst h;rw [AC rfl,AC (by omega)];simp [hm]
   ·rw [Ay (by omega),Ay (by omega),Ay (by omega)]
theorem y1s {mem:Mem} {N:y0v}: ∀(l:List Nat) (i:Nat),(z9u P mem N l i).2=true→ ∀b∈l,∀blk,Yn mem b=some blk→u4o blk=true
 | [],i,_,b,hb,_,_=>by cases hb
 | x::l,i,h,b,hb,blk,hm=>by
  unfold z9u at h;cases hx:Yn mem x with
  | none=>
   rw [hx] at h;rcases AI.1 hb with rfl | hb
   ·rw [hx] at hm;cases hm
   ·exact y1s l (i+1) h b hb blk hm
  | some blk'=>
   rw [hx] at h;have h:(u4o blk'&&(z9u P mem N l (i+1)).2)=true:=h;simp only [Ac] at h;rcases AI.1 hb with rfl | hb
   ·rw [hx] at hm;obtain rfl:=Af hm;exact h.1
   ·exact y1s l (i+1) h.2 b hb blk hm
theorem z5p {f:AVal→AVal} {lps:Loops}: ∀(l:List Nat) (i:Nat) (sl:List (Option (List Nat))) (j:Nat) (L:ALoop),y5m (w2k f lps l i sl) j=some L→i≤j∧ ∃b L0 x,l[j - i]? =some b∧y5m lps b=some L0∧L=⟨L0.st,L0.pend,L0.n,u8y f L0.env x,L0.params,L0.assign,L0.body⟩
 | [],i,sl,j,L,h=>by cases h
 | b::l,i,sl,j,L,h=>by
  unfold w2k at h;split at h
  ·obtain ⟨h1,b',L0,x,h2,h3,h4⟩:=z5p l (i+1) _ j L h;exact ⟨by omega,b',L0,x,by rw [show j - i=(j - (i+1))+1 by omega];simpa using h2,h3,h4⟩
  ·rename_i st pend n env params assign body hb;rw [show y5m (v2d (w2k f lps l (i+1) sl.tail) i (some ⟨st,pend,n,u8y f env (sl.headD none),params,assign,body⟩)) j=if j=i then some ⟨st,pend,n,u8y f env (sl.headD none),params,assign,body⟩ else y5m (w2k f lps l (i+1) sl.tail) j from T.get_set none _ i _ j] at h;by_cases hj:j=i
   ·subst hj;rw [AC rfl] at h;obtain rfl:=Af h;exact ⟨Ar _,b,_,_,by simp,hb,rfl⟩
   ·rw [Ay hj] at h;obtain ⟨h1,b',L0,x,h2,h3,h4⟩:=z5p l (i+1) _ j L h;exact ⟨by omega,b',L0,x,by rw [show j - i=(j - (i+1))+1 by omega];simpa using h2,h3,h4⟩
theorem w1f {mem:Mem} {w:World} {ρ:Rho} {N:y0v} {x x' y:Item} (h:y1n N.keep x=some x') (hx:w7l ρ x y):w7l (y6r ρ mem N w) x' y:=by
 cases hx with
 | inR j l e=>simp only [y1n,Aq] at h;obtain ⟨j',hj,rfl⟩:=h;exact .inR j' l (by rw [(Kh hj).2];exact e)
 | endR j l e=>simp only [y1n,Aq] at h;obtain ⟨j',hj,rfl⟩:=h;exact .endR j' l (by rw [(Kh hj).2];exact e)
 | same x hp=>
  have:y1n N.keep x=some x:=by
   unfold y1n;split
   ·cases hp
   ·cases hp
   ·rw [hp];rfl
  rw [this] at h;obtain rfl:=Af h;exact .same _ hp
theorem y2z {mem:Mem} {w:World} {ρ:Rho} {N:y0v}: ∀{l l' m:List Item},z6b N.keep l=some l'→y9e ρ l m→y9e (y6r ρ mem N w) l' m
 | [],l',m,h,ht=>by cases ht;obtain rfl:=Af h;exact .nil
 | x::l,l',m,h,ht=>by
  cases ht with
  | cons hx ht=>
   unfold z6b at h;split at h
   ·rename_i y k hy hk;obtain rfl:=Af h;exact .cons (w1f hy hx) (y2z hk ht)
   ·cases h
theorem w5p {mem:Mem} {next:Nat} {w:World} {ρ:Rho} (h:Rel ρ mem next w) {N:y0v} (ho:z9y mem N.frz=true) {cx:Ctx} {ro:Option RegOps} {todo todo':List Item} {rnd rnd':Option Nat} {env:T AVal} {b:Frame} {a:Act} {k:List Item} {ms:List Nat} (ht:z6b N.keep todo=some todo') (hr:x6d N.keep rnd=some rnd')
  (hf:v2f ρ cx ro todo rnd env b a k ms) (L:Option (List Nat)):v2f (y6r ρ mem N w) cx ro todo' rnd' (u8y (ren P mem N 6) env L) b a k ms∧(rnd'=none→rnd=none):=by
 refine ⟨⟨w5q h ho hf.env L,hf.defers,y2z ht hf.todo,hf.ro,?_⟩,fun e=> ?_⟩
 ·have hrn:=hf.rnd;cases rnd with
  | none=>obtain rfl:=Af hr;exact hrn
  | some j=>simp only [x6d,Aq] at hr;obtain ⟨j',hj,rfl⟩:=hr;obtain ⟨h0,l,h1,h2⟩:=hrn;exact ⟨h0,l,by rw [(Kh hj).2];exact h1,h2⟩
 ·cases rnd with
  | none=>rfl
  | some j=>simp only [x6d,Aq] at hr;obtain ⟨j',_,rfl⟩:=hr;cases e
theorem x6e {mem:Mem} {next:Nat} {w:World} {ρ:Rho} (h:Rel ρ mem next w) {N:y0v} (ho:z9y mem N.frz=true): ∀{cs cs':List AFr} {sl:List (Option (List Nat))} {css:List Frame} {mss:List Nat},w9v (ren P mem N 6) N.keep cs sl=some cs'→v2g P ρ cs css mss→v2g P (y6r ρ mem N w) cs' css mss∧(cs'≠ []→cs≠ [])
 | [],cs',sl,css,mss,hc,hr=>by cases hr;obtain rfl:=Af hc;exact ⟨.nil,id⟩
 | af::cs,cs',sl,css,mss,hc,hr=>by
  cases hr with
  | cons hf hl ht=>
   unfold w9v at hc;split at hc
   ·rename_i todo' rnd' cs'' h1 h2 h3;obtain rfl:=Af hc;obtain ⟨i1,i2⟩:=x6e h ho h3 ht;obtain ⟨f1,f2⟩:=w5p (P:=P) h ho h1 h2 hf (sl.headD none);exact ⟨.cons f1 (fun hne=>⟨(hl (i2 hne)).1,fun e=>(hl (i2 hne)).2 (f2 e)⟩) i1,fun _=>by simp⟩
   ·cases hc
def RowTo (ρ ρ':Rho) (L L':List AVal):Prop:=L'.length=L.length∧ ∀(j:Nat) (h1:j<L.length) (h2:j<L'.length) (v:Value),Yw ρ L[j] v→Yw ρ' L'[j] v
theorem z9i {mem:Mem} {next:Nat} {w:World} {ρ:Rho} (h:Rel ρ mem next w) {N:y0v} (ho:z9y mem N.frz=true): ∀(rw1:Rws),x1z rw1=true→ ∀k,RowTo ρ (y6r ρ mem N w) (rw1.get k) ((z6q (ren P mem N 6) rw1).get k)
 | .flat g,hf,k=>by refine ⟨rfl,fun j h1 h2 v hv=> ?_⟩;have eZ: ∀i,(g i).all (pf 6)=true:=Jy hf;exact ((Kn 6 _ _ (At.1 (eZ k) _ (AM h1)) hv).mono (z9e h N)).mono (x4v _)
 | .one r cs b,hf,k=>by
  have ih:=z9i h ho (N:=N) b hf k;have hc:RowTo ρ (y6r ρ mem N w) cs (cs.map (ren P mem N 6)):=⟨by simp,fun j h1 h2 v hv=>by simpa using z5j h ho 6 _ _ hv⟩
  simp only [z6q,Rws.get];cases Nat.beq k r with
  | true=>exact hc
  | false=>exact ih
 | .alt c a b,hf,k=>by
  simp only [x1z,Ac] at hf;have iha:=z9i h ho (N:=N) a hf.1 k;have ihb:=z9i h ho (N:=N) b hf.2 k;simp only [z6q,Rws.get];cases c k with
  | true=>exact iha
  | false=>exact ihb
theorem w9u {mem:Mem} {next:Nat} {w:World} {ρ:Rho} (h:Rel ρ mem next w) {N:y0v} (ho:z9y mem N.frz=true) (hd:disj N.keep N.frz=true) (hfl:(z9u P mem N N.keep 0).2=true):Rel (y6r ρ mem N w) (z9u P mem N N.keep 0).1 N.keep.length w:=by
 obtain ⟨hnd,hdj⟩:=y8g hd;have get: ∀j,Yn (z9u P mem N N.keep 0).1 j=(N.keep[j]?).bind fun b=>(Yn mem b).map (y6w P mem N):=fun j=>by rw [x7a,AC (AD _),Nat.sub_zero]
 have blk: ∀{b' l},(y6r ρ mem N w) b'=some l→ ∃b,N.keep[b']? =some b∧ρ b=some l:=fun {b' l} e=>by have e:(N.keep[b']?).bind (fun b=>ρ b)=some l:=e;rw [BF] at e;obtain ⟨b,e1,e2⟩:=e;exact ⟨b,e1,e2⟩
 have live: ∀{b' b},N.keep[b']? =some b→(Yn (z9u P mem N N.keep 0).1 b').isSome =true→(Yn mem b).isSome =true:=fun {b' b} e hs=>by
  rw [get,e] at hs
  simpa using hs
 refine ⟨fun b' l e=> ?_,fun b' b'' l l' e e' hbl hs hs'=> ?_,fun b' l ab e hm=> ?_,fun k o e=> ?_,fun b' l e hs=> ?_,fun b' l e=> ?_,fun b' hb=> ?_,fun j l e=> ?_⟩
 ·obtain ⟨b,e1,_⟩:=blk e;exact (Be.1 e1).1
 ·obtain ⟨b,e1,e2⟩:=blk e;obtain ⟨c,e3,e4⟩:=blk e';have:=h.inj b c l l' e2 e4 hbl (live e1 hs) (live e3 hs');subst this;exact (List.getElem?_inj (Be.1 e1).1 hnd).1 (e1.trans e3.symm)
 ·obtain ⟨b,e1,e2⟩:=blk e;rw [get,e1] at hm;simp only [Option.bind_some,Aq] at hm;obtain ⟨ab0,hm0,rfl⟩:=hm;obtain ⟨hn,ht,har,cs,el,g1,g2,g3⟩:=h.blk b l ab0 e2 hm0;obtain ⟨cells,ty,arr⟩:=ab0;cases arr with
  | none=>
   refine ⟨by simpa [y6w] using hn,ht,(fun A hA=>by cases hA),cs,el,g1,g2,fun i hi=> ?_⟩;have hi':i<cells.length:=by simpa [y6w] using hi
   obtain ⟨v,q1,q2⟩:=g3 i hi';exact ⟨v,q1,by simpa [y6w] using z5j h ho 6 _ _ q2⟩
  | some A=>
   obtain ⟨a1,a2,a3⟩:=har A rfl;simp only at a1;have hfb:u4o ⟨cells,ty,some A⟩=true:=y1s N.keep 0 hfl b (List.mem_of_getElem? e1) _ hm0;have gH:=z9i (P:=P) h ho (N:=N) A.rw hfb;have hl': ∀i,i<A.n→((z6q (ren P mem N 6) A.rw).get i).length =A.sz:=fun i hi=>by rw [(gH i).1];exact a3 i hi
   have k1:=Ym A.n a3;have k2:=Ym A.n hl';refine ⟨by show l.n=(Yq A.n _).length;rw [k2,hn];show cells.length=_;rw [a1,k1],ht,(fun B hB=>by obtain rfl:=Af hB;exact ⟨rfl,a2,hl'⟩),cs,el,g1,g2,fun i hi=> ?_⟩;have hi':i<A.n*A.sz:=by rw [←k2];exact hi
   have hj:i %A.sz<A.sz:=BY _ a2;have hq:i / A.sz<A.n:=By (by rw [Bq];exact hi');have e:i / A.sz*A.sz+i %A.sz=i:=by rw [Bq];exact B1 i A.sz
   have hic:i<cells.length:=by rw [a1,k1];exact hi'
   have r1:=Vw A.n a3 (i / A.sz) (i %A.sz) hq hj;have r2:=Vw A.n hl' (i / A.sz) (i %A.sz) hq hj;rw [e] at r1 r2;have hi2:i<(Yq A.n (z6q (ren P mem N 6) A.rw).get).length :=hi;have j1:i %A.sz<(A.rw.get (i / A.sz)).length :=by rw [show A.rw.get=A.get from rfl,a3 _ hq];exact hj
   have j2:i %A.sz<((z6q (ren P mem N 6) A.rw).get (i / A.sz)).length :=by rw [hl' _ hq];exact hj
   obtain ⟨v,q1,q2⟩:=g3 i hic;have s1:cells[i]=(A.rw.get (i / A.sz))[i %A.sz]:=by have:cells[i]? =some (A.rw.get (i / A.sz))[i %A.sz]:=(by rw [a1,r1,show A.get=A.rw.get from rfl,Ao j1]);rw [Ao hic] at this;exact Af this
   have s2:(Yq A.n (z6q (ren P mem N 6) A.rw).get)[i]'hi2=((z6q (ren P mem N 6) A.rw).get (i / A.sz))[i %A.sz]:=by have:(Yq A.n (z6q (ren P mem N 6) A.rw).get)[i]? =some ((z6q (ren P mem N 6) A.rw).get (i / A.sz))[i %A.sz]:=(by rw [r2,Ao j2]);rw [Ao hi2] at this;exact Af this
   refine ⟨v,q1,?_⟩;show Yw _ ((Yq A.n (z6q (ren P mem N 6) A.rw).get)[i]'hi2) v;rw [s2];refine (gH _).2 _ j1 j2 v ?_;rw [←s1];exact q2
 ·have e: @ite _ (Fz ρ mem N k) (Classical.propDecidable _) (w.heap[k]?) (ρ.fz k)=some o:=e;by_cases hf:Fz ρ mem N k
  ·rw [AC hf] at e;exact e
  ·rw [Ay hf] at e;exact h.old k o e
 ·obtain ⟨b,e1,e2⟩:=blk e;have hs0:=live e1 hs;have hnf: ¬Fz ρ mem N l.blk:=fun ⟨c,l',c1,c2,c3,c4⟩=>by have:=h.inj c b l' l c2 e2 c4 c3 hs0;subst this;exact hdj c (List.mem_of_getElem? e1) c1
  show @ite _ (Fz ρ mem N l.blk) (Classical.propDecidable _) (w.heap[l.blk]?) (ρ.fz l.blk)=none;rw [Ay hnf];exact h.sep b l e2 hs0
 ·obtain ⟨b,_,e2⟩:=blk e;exact h.real b l e2
 ·rw [get,BD hb];rfl
 ·have e:(N.keep[j]?).bind (fun b=>ρ.lp b)=some l:=e;rw [BF] at e;exact (Be.1 e.choose_spec.1).1
theorem renEv {H:Old} {mem:Mem} {next:Nat} {w0 w:World} {ρ:Rho} (h:Rel ρ mem next w) {N:y0v} (he:Ev (z2w H) ρ 0 .leaf 0 mem next w0 w) (mem':Mem) (next':Nat):Ev (z2w H) (y6r ρ mem N w) 0 .leaf 0 mem' next' w0 w:=
 ⟨⟨fun b l e=>(by cases e),fun k o e=>z5z h N (he.ext.2.1 k o e),fun j l e=>(by cases e)⟩,fun b hb=>absurd hb (AO _),AD _,fun b hb=>absurd hb (AO _),he.frame,fun b l _ e=>by
   have e:(N.keep[b]?).bind (fun b=>ρ b)=some l:=e;rw [BF] at e;obtain ⟨c,_,e2⟩:=e;exact he.fresh c l (AD _) e2,he.size,he.os,he.tape,he.output,fun k hk=>by
   have hnf: ¬Fz ρ mem N k:=fun ⟨b,l,_,e2,_,e4⟩=>by
    rcases he.fresh b l (AD _) e2 with h1 | ⟨b0,l0,e0,_⟩
    ·omega
    ·cases e0
   show @ite _ (Fz ρ mem N k) (Classical.propDecidable _) (w.heap[k]?) (ρ.fz k)=_;rw [Ay hnf];exact he.still k hk⟩
def y3q (P:Program) (C C':Cfg):Prop:=
 ∀(H:Old) (w0:World) (ρ:Rho) (b:Frame) (a:Act) (k:List Item) (css:List Frame) (w:World) (ma mb:List Nat),j8p P w0.heap.size C ρ b a k css w ma mb→Ev (z2w H) ρ 0 .leaf 0 C.st.mem C.st.next w0 w→ ∀cs0:List Frame,
  ∃ρ' b' a' k' css' w' ma' mb',Steps P (lone (b.atR a (Wt C.ro k)) (css++cs0) w) (lone (b'.atR a' (Wt C'.ro k')) (css'++cs0) w')∧j8p P w0.heap.size C' ρ' b' a' k' css' w' ma' mb'∧Ev (z2w H) ρ' 0 .leaf 0 C'.st.mem C'.st.next w0 w'∧w3v b' css'=w3v b css∧w.heap.size≤w'.heap.size
theorem y3q.refl (C:Cfg):y3q P C C:=fun H w0 ρ b a k css w ma mb hs he cs0=>⟨ρ,b,a,k,css,w,ma,mb,Steps.refl _ _,hs,he,rfl,Ar _⟩
theorem y3q.trans {A B C:Cfg} (h:y3q P A B) (k:y3q P B C):y3q P A C:=by intro H w0 ρ b a t css w ma mb hs he cs0;obtain ⟨ρ1,b1,a1,t1,css1,w1,ma1,mb1,s1,r1,e1,q1,z1⟩:=h H w0 ρ b a t css w ma mb hs he cs0;obtain ⟨ρ2,b2,a2,t2,css2,w2,ma2,mb2,s2,r2,e2,q2,z2⟩:=k H w0 ρ1 b1 a1 t1 css1 w1 ma1 mb1 r1 e1 cs0;exact ⟨ρ2,b2,a2,t2,css2,w2,ma2,mb2,s1.trans s2,r2,e2,q2.trans q1,AK z1 z2⟩
theorem y2r.goes {C C':Cfg} (h:y2r P 0 C C'):y3q P C C':=fun H w0 ρ b a k css w ma mb hs he cs0=>h .leaf 0 (z2w H) w0 ρ b a k css w ma mb hs he cs0
def fl0 (C:Cfg):Bool:=Nat.beq C.cx.floor 0&&C.cs.all fun af=>Nat.beq af.cx.floor 0
theorem u4p {C:Cfg} (h:fl0 C=true):Fl 0 C:=by unfold fl0 at h;simp only [Ac] at h;exact ⟨Ak h.1,fun af haf=>Ak (At.1 h.2 af haf),AD _⟩
theorem y6v {f:AVal→AVal} {keep:List Nat} {fl:Nat}: ∀{cs cs':List AFr} {sl:List (Option (List Nat))},w9v f keep cs sl=some cs'→(∀af∈cs,af.cx.floor=fl)→ ∀af∈cs',af.cx.floor=fl
 | [],cs',sl,h,_,af,haf=>by obtain rfl:=Af h;cases haf
 | a0::cs,cs',sl,h,hcs,af,haf=>by
  unfold w9v at h;split at h
  ·rename_i t1 r1 c1 g1 g2 g3;obtain rfl:=Af h;rcases AI.1 haf with rfl | haf
   ·exact hcs a0 (List.mem_cons_self ..)
   ·exact y6v g3 (fun x hx=>hcs x (List.mem_cons_of_mem _ hx)) af haf
  ·cases h
theorem v0b {N:y0v} {C C':Cfg} (h:u3j P N C=some C') (ho:C'.st.ob=true):C.st.ob=true∧y3q P C C'∧(Fl 0 C→Fl 0 C'):=by
 obtain ⟨cx,ro,todo,rnd,rs,⟨env,mem,next,orc,ob⟩,cs,lps⟩:=C;simp only [u3j] at h;split at h
 ·rename_i todo' rnd' cs' h1 h2 h3;obtain ⟨hd,h⟩:=Zs h;obtain rfl:=Af h;simp only [Ac] at ho;obtain ⟨hkm,ho2,ho3⟩:=ho;refine ⟨ho3,fun H w0 ρ b a k css w ma mb hs he cs0=> ?_,fun hfl=>⟨hfl.cx,fun af haf=> ?_,AD _⟩⟩
  ·have dQ:=hs.rel;simp only at dQ he;obtain ⟨f1,f2⟩:=w5p (P:=P) dQ ho2 h1 h2 hs.top (N.slots.headD none);obtain ⟨c1,c2⟩:=x6e (P:=P) dQ ho2 h3 hs.rest.cs;refine ⟨y6r ρ mem N w,b,a,k,css,w,ma,mb,Steps.refl _ _,⟨f1,fun hne=>⟨(hs.lv (c2 hne)).1,fun e=>(hs.lv (c2 hne)).2 (f2 e)⟩,⟨c1,hs.rest.nodup,fun r hr=> ?_,fun j L hL=> ?_,fun j j' L L' l hL hL' e e'=> ?_⟩,?_⟩,renEv dQ he _ _,rfl,Ar _⟩
   ·obtain ⟨q1,⟨q2,q3,q4⟩,q5⟩:=hs.rest.marks r hr;refine ⟨q1,⟨q2,?_,fun b' l e=> ?_⟩,q5⟩
    ·show @ite _ (Fz ρ mem N r) (Classical.propDecidable _) (w.heap[r]?) (ρ.fz r)=none;rw [Ay fun ⟨c,l,_,e2,_,e4⟩=>q4 c l e2 e4];exact q3
    ·have e:(N.keep[b']?).bind (fun b=>ρ b)=some l:=e;rw [BF] at e;obtain ⟨c,_,e2⟩:=e;exact q4 c l e2
   ·obtain ⟨_,c,L0,x,e1,e2,rfl⟩:=z5p N.keep 0 _ j L hL;rw [Nat.sub_zero] at e1;obtain ⟨l,q1,q2,⟨q3,q4,q5⟩,tm,fn',d,q6,q7⟩:=hs.rest.loops c L0 e2;refine ⟨l,?_,q2,⟨q3,?_,fun b' l' e=> ?_⟩,tm,fn',d,q6,w5q (P:=P) dQ ho2 q7 x⟩
    ·show (N.keep[j]?).bind (fun b=>ρ.lp b)=some l;rw [e1];exact q1
    ·show @ite _ (Fz ρ mem N l) (Classical.propDecidable _) (w.heap[l]?) (ρ.fz l)=none;rw [Ay fun ⟨c,l,_,e2,_,e4⟩=>q5 c l e2 e4];exact q4
    ·have e:(N.keep[b']?).bind (fun b=>ρ b)=some l':=e;rw [BF] at e;obtain ⟨c,_,e2⟩:=e;exact q5 c l' e2
   ·obtain ⟨_,c,L0,x,e1,e2,rfl⟩:=z5p N.keep 0 _ j L hL;obtain ⟨_,c',L0',x',e1',e2',rfl⟩:=z5p N.keep 0 _ j' L' hL';rw [Nat.sub_zero] at e1 e1';have e:(N.keep[j]?).bind (fun b=>ρ.lp b)=some l:=e;have e':(N.keep[j']?).bind (fun b=>ρ.lp b)=some l:=e';rw [e1] at e;rw [e1'] at e';have:=hs.rest.inj c c' L0 L0' l e2 e2' e e';subst this;exact (List.getElem?_inj (Be.1 e1).1 (y8g hd).1).1 (e1.trans e1'.symm)
   ·exact w9u dQ ho2 hd hkm
  ·exact y6v h3 hfl.cs af haf
 ·cases h
theorem x7c {S:Specs} {Rc:Runner} (hN:y0s P) (hmx:P.follows .mixedOrders =true) (hS:Zu P S) (hCI:w7j Rc) (hC:ROk P Rc) {fl:Nat}: ∀(n:Nat) (C C':Cfg),Fl fl C→u4b P S Rc n C=some C'→Fl fl C'∧Xe fl C.st C'.st∧(C'.st.ob=true→y2r P fl C C')
 | 0,C,C',hfl,h=>by obtain rfl:=Af h;exact ⟨hfl,Xe.refl _ _,fun _=>y2r.refl fl C⟩
 | n+1,C,C',hfl,h=>by
  have h:(match w8a P S Rc C with
   | some C'=>u4b P S Rc n C'
   | none=>none)=some C':=h
  split at h
  ·rename_i C1 h1;have s1:=x5n hN hmx hS hCI hC hfl h1;obtain ⟨f1,f4,f5⟩:=x7c hN hmx hS hCI hC n C1 C' s1.fls h;exact ⟨f1,s1.inv.trans f4,fun ho=>(s1.leads (f4.ob ho)).trans (f5 ho)⟩
  ·cases h
def Zb (P:Program) (f:FuncId) (args:List AVal) (sym:Bool) (orc:List Bool):Cfg:=
 match P.funcs[f]? with
 | some fn=>⟨⟨Nat.max fn.ntmps args.length,0,sym⟩,none,[.code (fn.body.getD .ret)],none,fn.results.toList,⟨y2c args 0 .leaf,.leaf,0,orc,true⟩,[],.leaf⟩
 | none=>⟨⟨0,0,sym⟩,none,[],none,[],⟨.leaf,.leaf,0,[],true⟩,[],.leaf⟩
theorem goes_call {f:FuncId} {args:List AVal} {sym:Bool} {orc:List Bool} {C':Cfg} {vs:List AVal} {H:Old} (hf:(P.funcs[f]?).any (fun fn=>fn.body.isSome)=true) (h:y3q P (Zb P f args sym orc) C') (hfin:z7a C'=true) (hob:(Qz P C'.st (Zb P f args sym orc).rs)=some vs)
  {vals:Array Value} {w:World} (dT:Vj (Yw (z2w H)) args vals.toList) (hH: ∀k o,H k=some o→w.heap[k]? =some o):
  Calls P f vals w fun e w'=> ∃ρ u,e=.returned u∧Out H w ρ (z0h vs) u w':=by
 cases hfn:P.funcs[f]? with
 | none=>rw [hfn] at hf;cases hf
 | some fn=>
  rw [hfn] at hf;have hf:fn.body.isSome=true:=hf;obtain ⟨body,hb⟩:=Option.isSome_iff_exists.1 hf;have hstart:Zb P f args sym orc=⟨⟨Nat.max fn.ntmps args.length,0,sym⟩,none,[.code body],none,fn.results.toList,⟨y2c args 0 .leaf,.leaf,0,orc,true⟩,[],.leaf⟩:=by unfold Zb;rw [hfn];simp [hb]
  rw [hstart] at h hob;simp only at hob;intro cs;obtain ⟨ρ',b',a',k',css',w',ma',mb',s1,r1,v1,q1,_⟩:=h H w (z2w H) ⟨f, #[],[],[],.run,.normal,none⟩ {tmps:=vals++Array.replicate (fn.ntmps - vals.size) undef,defers:=[]} [.code body] [] w [] []
   ⟨⟨y8a dT fn.ntmps,rfl,.cons (.same _ rfl) .nil,trivial,rfl⟩,fun h=>absurd rfl h,x1f _ _ _,x6f hH⟩ (Ev.refl _ _ _ _ _ (x6f hH).dom) cs
  obtain ⟨e1,e2,e3,e4⟩:=y7z hfin;have hcs:=r1.rest.cs;rw [e3] at hcs;cases hcs;obtain ⟨w2,s2,henv',eT,fP,_,_⟩:=y8d r1 e1 e2 e4 rfl v1 cs;obtain ⟨u,hu,gD⟩:=z3s (fn:=fn) henv' eT hob;have q:(b'.fn,b'.kind,b'.roundOf)=(f,CallKind.normal,none):=q1;simp only [Ad] at q;have hen:Frame.enter P f vals .normal =Frame.atR ⟨f, #[],[],[],.run,.normal,none⟩ {tmps:=vals++Array.replicate (fn.ntmps - vals.size) undef,defers:=[]} (Wt none [.code body]):=by simp [Frame.enter,Frame.atR,hfn,hb,Wt]
  refine ⟨.returned u,w2,{b'.atR {a' with defers:=[]} k' with mode:=.returning},⟨ρ',u,rfl,out_of hu eT fP⟩,?_,q.1,rfl,rfl,q.2.1,fn,by show P.funcs[b'.fn]? =_;rw [q.1];exact hfn,gD⟩;rw [hen];exact s1.trans s2
end
def Vd :List ABlk→Nat→Mem
 | [],_=>.leaf
 | b::l,i=>Wz (Vd l (i+1)) i (some b)
def x1x (c:Nat→Int):Nat→List AVal:=fun i=>[.int .i64 (c i)]
def Cfg.withO :Cfg→List Bool→Cfg
 | ⟨cx,ro,todo,rnd,rs,⟨env,mem,next,_,_⟩,cs,lps⟩,o=>⟨cx,ro,todo,rnd,rs,⟨env,mem,next,o,true⟩,cs,lps⟩
def Cfg.withB :Cfg→Bool→Cfg
 | ⟨cx,ro,todo,rnd,rs,⟨env,mem,next,_,_⟩,cs,lps⟩,b=>⟨cx,ro,todo,rnd,rs,⟨env,mem,next,[],b⟩,cs,lps⟩
inductive Xu (σ:Type) where
 | stuck
 | ret (vs:List AVal)
 | to (s:σ)
def Jx (P:Program) (rs:List ResultVar) (C:Cfg) (vs:List AVal):Prop:= ∃C',y3q P C C'∧z7a C'=true∧Qz P C'.st rs=some vs
def Xq (P:Program) (rs:List ResultVar) {σ:Type} (cfg:σ→Cfg) (C:Cfg):Xu σ→Prop
 | .stuck =>True
 | .ret vs=>Jx P rs C vs
 | .to s=>y3q P C (cfg s)
section
variable {P:Program} {rs:List ResultVar} {σ:Type} {cfg:σ→Cfg} {C:Cfg}
theorem w6i {c:Bool} {a b:Xu σ} (ha:c=true→Xq P rs cfg C a) (hb:c=false→Xq P rs cfg C b):Xq P rs cfg C (bif c then a else b):=by
 cases c
 ·exact hb rfl
 ·exact ha rfl
theorem u3z {c:Bool} {a:Xu σ} (ha:c=true→Xq P rs cfg C a):Xq P rs cfg C (bif c then a else .stuck):=w6i ha fun _=>trivial
theorem Ko {vs:List AVal} (C':Cfg) (h:y3q P C C') (hf:z7a C'=true) (hr:Qz P C'.st rs=some vs):Xq P rs cfg C (.ret vs):=⟨C',h,hf,hr⟩
end
def Yy {σ:Type} (step:σ→Xu σ):Nat→Xu σ→Xu σ
 | 0,o=>o
 | n+1,.to s=>Yy step n (step s)
 | _+1,o=>o
theorem Zd {P:Program} {rs:List ResultVar} {σ:Type} {cfg:σ→Cfg} {step:σ→Xu σ} (eY: ∀s,Xq P rs cfg (cfg s) (step s)) {C:Cfg}: ∀(n:Nat) (o:Xu σ),Xq P rs cfg C o→Xq P rs cfg C (Yy step n o)
 | 0,o,h=>h
 | n+1,.stuck,h=>h
 | n+1,.ret vs,h=>h
 | n+1,.to s,h=>Zd eY n (step s) (match step s,eY s with
  | .stuck,_=>trivial
  | .ret vs,⟨C',g,hf,hr⟩=>⟨C',y3q.trans h g,hf,hr⟩
  | .to s',g=>y3q.trans h g)
theorem Zp {σ:Type} (step:σ→Xu σ) (n:Nat) (vs:List AVal):Yy step n (.ret vs)=.ret vs:=by cases n <;> rfl
theorem Zv {σ:Type} (step:σ→Xu σ) (n:Nat) (s:σ):Yy step (n+1) (.to s)=Yy step n (step s):=rfl
theorem y7b {a b:Bool} (ha:a=true) (hb:b=true):(a&&b)=true:=by rw [ha,hb];rfl
theorem v5w {a b:Bool} (h:a=b):(a == b)=true:=by rw [h];cases b <;> rfl
def Specs.with (S:Specs) (f:FuncId) (F:List AVal→Option (AVal×Bool)):Specs:=fun g=>bif Nat.beq g f then some (.val F) else S g
theorem x5o {P:Program} {f:FuncId} {args:List AVal} {sym:Bool} {orc:List Bool}:(Zb P f args sym orc).rs =Zy P f:=by unfold Zb Zy;cases P.funcs[f]? <;> rfl
theorem v2h {P:Program} {S:Specs} (hS:Zu P S) {f:FuncId} {F:List AVal→Option (AVal×Bool)} (hf:(P.funcs[f]?).any (fun fn=>fn.body.isSome)=true)
  (hF: ∀args v,F args=some (v,true)→ ∃vs,z0h vs=v∧Jx P (Zy P f) (Zb P f args true []) vs∧ ∃d,pf d v=true):Zu P (S.with f F):=by
 intro g G hg;unfold Specs.with at hg;cases hgf:Nat.beq g f with
 | false=>rw [hgf] at hg;exact hS g G hg
 | true=>
  rw [hgf] at hg;obtain rfl:Spec.val F=G:=Af hg;obtain rfl:g=f:=Ak hgf;refine ⟨?_,fun args v hv H vals w dT hH=> ?_⟩
  ·cases hfn:P.funcs[g]? with
   | none=>rw [hfn] at hf;cases hf
   | some fn=>rw [hfn] at hf;exact ⟨fn,rfl,hf⟩
  ·obtain ⟨vs,rfl,⟨C',g1,g2,g3⟩,d,hp⟩:=hF args v hv;exact (goes_call hf g1 g2 (by rw [x5o];exact g3) dT hH).mono fun e w' ⟨ρ,u,he,ho⟩=>⟨ρ.fz,u,ho.le,ho.old,ho.same,he,Kn d _ u hp ho.val,ho.below⟩
def cOf (get:Nat→List AVal) (i:Nat):Int:=match get i with
 | .int _ n::_=>n
 | _=>0
def isI (get:Nat→List AVal):Bool:=pd (get=x1x (cOf get))
theorem w6n {get:Nat→List AVal} (h:isI get=true): ∃c,get=x1x c:=⟨_,Jy h⟩
theorem u3n (x:Int):(x != x)=false:=by simp
theorem u4z (x:Int):(x == x)=true:=by simp
theorem v6b (x:Int):(!(x != x))=true:=by simp
theorem v6d (x:Int):(!(x == x))=false:=by simp
theorem w64 (n:Int):IntKind.i64.wrap n=(n+9223372036854775808) %18446744073709551616 - 9223372036854775808:=by rw [IntKind.wrap_i64]
theorem w_in {n:Int} (h: -9223372036854775808≤n) (h':n≤9223372036854775807):IntKind.i64.wrap n=n:=by simp only [w64];omega
theorem x4g (x y:Int):z1m x y=min x y:=by unfold z1m;split <;> omega
theorem x4h (x y:Int):z1n x y=max x y:=by unfold z1n;split <;> omega
inductive VLe :AVal→AVal→Prop
 | refl (v:AVal):VLe v v
 | undef (v:AVal):VLe v .undef
 | nils (b sz off:Nat) (cap:v2a):VLe .nils (.sla b sz off 0 cap)
 | sl (b sz q len:Nat) (cap:v2a):VLe (.sl b (q*sz) len cap) (.sla b sz q len cap)
 | nild (g:Nat→List AVal):VLe .nils (.dat 0 g)
 | dat (n:Nat) (g g':Nat→List AVal) (h: ∀i,i<n→g i=g' i):VLe (.dat n g) (.dat n g')
 | dptr (cs cs':List AVal) (hl:cs.length=cs'.length) (h: ∀(ρ:Rho) (i:Nat) (h1:i<cs.length) (h2:i<cs'.length) (v:Value),Yw ρ cs[i] v→Yw ρ cs'[i] v):VLe (.dptr cs) (.dptr cs')
theorem VLe.sound {ρ:Rho} {a a':AVal} {v:Value} (h:VLe a a') (hv:Yw ρ a v):Yw ρ a' v:=by
 cases h with
 | refl=>exact hv
 | undef=>exact .undef _
 | nils b sz off cap=>cases hv;exact .slan b sz off cap
 | sl b sz q len cap=>cases hv with | sl _ _ _ _ l c h hc dR=>exact .sla b sz q len cap l c h hc dR
 | nild g=>cases hv;exact .datn _
 | dptr cs cs' hl h=>cases hv with
  | dptr _ blk base val q1 q2=>exact .dptr cs' blk base val (fun j hj=>h _ j (by omega) hj _ (q1 j (by omega))) fun j hj=>q2 j (by omega)
 | dat n g g' hg=>
  cases hv with
  | datn=>exact .datn _
  | datz=>exact .datz _ _ _
  | dat _ _ blk base sz cap val dW hsz hv hh=>
   refine .dat n g' blk base sz cap val dW (fun i hi=>by rw [←hg i hi];exact hsz i hi) (fun i j hi hj=> ?_) hh;have e:=hg i hi;have hj':j<(g i).length :=by rw [e];exact hj
   have:=hv i j hi hj';simp only [e] at this;exact this
theorem VLe.of_undef {a:AVal} (h:VLe .undef a):a=.undef :=by cases h <;> rfl
inductive RLe :List AVal→List AVal→Prop
 | nil:RLe [] []
 | cons {a b:AVal} {l m:List AVal} (h:VLe a b) (t:RLe l m):RLe (a::l) (b::m)
theorem RLe.refl : ∀l:List AVal,RLe l l
 | []=>.nil
 | a::l=>.cons (.refl a) (RLe.refl l)
theorem RLe.len {l m:List AVal} (h:RLe l m):l.length=m.length:=by
 induction h with
 | nil=>rfl
 | cons _ _ ih=>simp [ih]
theorem RLe.get {l m:List AVal} (h:RLe l m): ∀(i:Nat) (h1:i<l.length) (h2:i<m.length),VLe l[i] m[i]:=by
 induction h with
 | nil=>intro i h1;simp at h1
 | cons h _ ih=>
  intro i h1 h2;cases i with
  | zero=>exact h
  | succ i=>exact ih i (by simpa using h1) (by simpa using h2)
inductive BLe :Option ABlk→Option ABlk→Prop
 | refl (b:Option ABlk):BLe b b
 | drop (b:Option ABlk):BLe b none
 | rowed (cells:List AVal) (ty:TypeId) (a:Option Arr) (sz n:Nat) (g:Nat→List AVal) (hc:cells=Yq n g) (h1:1≤sz) (hl: ∀i,i<n→(g i).length =sz):BLe (some ⟨cells,ty,a⟩) (some ⟨Yq n g,ty,some ⟨sz,n,g⟩⟩)
 | rws (ty:TypeId) (sz n:Nat) (a a':Rws) (h: ∀k,k<n→RLe (a.get k) (a'.get k)):BLe (some ⟨Yq n a.get,ty,some ⟨sz,n,a⟩⟩) (some ⟨Yq n a'.get,ty,some ⟨sz,n,a'⟩⟩)
theorem BLe.sound {ρ:Rho} {w:World} {a a':ABlk} {l:Loc} (h:BLe (some a) (some a')) (hb:Jz ρ w a l):Jz ρ w a' l:=by
 cases h with
 | refl=>exact hb
 | rowed cells ty a sz n g hc h1 hl=>subst hc;refine ⟨hb.n,hb.tot,fun A hA=> ?_,hb.cells⟩;obtain rfl:=Af hA;exact ⟨rfl,h1,hl⟩
 | rws ty sz n a a' h=>
  obtain ⟨_,h1,hl⟩:=hb.arr _ rfl;have h1:1≤sz:=h1;have hl: ∀k,k<n→(a.get k).length =sz:=hl;have hl': ∀k,k<n→(a'.get k).length =sz:=fun k hk=>by rw [←(h k hk).len];exact hl k hk
  have k1:=Ym n hl;have k2:=Ym n hl';obtain ⟨cs,el,g1,g2,g3⟩:=hb.cells;refine ⟨by rw [hb.n];show (Yq n a.get).length =(Yq n a'.get).length;rw [k1,k2],hb.tot,fun A hA=> ?_,cs,el,g1,g2,fun i hi=> ?_⟩
  ·obtain rfl:=Af hA;exact ⟨rfl,h1,hl'⟩
  ·have hi2:i<(Yq n a'.get).length :=hi;have hi':i<n*sz:=by rw [←k2];exact hi
   have hj:i %sz<sz:=BY _ h1;have hq:i / sz<n:=By (by rw [Bq];exact hi');have e:i / sz*sz+i %sz=i:=by rw [Bq];exact B1 i sz
   have hic:i<(Yq n a.get).length :=by rw [k1];exact hi'
   have r1:=Vw n hl (i / sz) (i %sz) hq hj;have r2:=Vw n hl' (i / sz) (i %sz) hq hj;rw [e] at r1 r2;have j1:i %sz<(a.get (i / sz)).length :=by rw [hl _ hq];exact hj
   have j2:i %sz<(a'.get (i / sz)).length :=by rw [hl' _ hq];exact hj
   obtain ⟨v,q1,q2⟩:=g3 i hic;have q2:Yw ρ ((Yq n a.get)[i]'hic) v:=q2;refine ⟨v,q1,?_⟩;show Yw ρ ((Yq n a'.get)[i]'hi2) v;rw [Ao hic,Ao j1] at r1;rw [Ao hi2,Ao j2] at r2;rw [Af r1] at q2;rw [Af r2];exact ((h _ hq).get _ j1 j2).sound q2
theorem y1h {g h:Nat→List AVal}: ∀(n:Nat),(∀i,i<n→g i=h i)→Yq n g=Yq n h
 | 0,_=>rfl
 | n+1,e=>by rw [z8y,z8y,y1h n fun i hi=>e i (by omega),e n (by omega)]
def z6r (l:List Int):Nat→Int:=fun k=>l.getD k 0
def z5q (asz sz off len n:Nat) (get:Nat→List AVal):AVal:=bif Nat.beq asz sz&&Nat.ble (off+len) n then .dat len (fun k=>get (off+k)) else .undef
theorem j5v (sz n:Nat) (g:Nat→List AVal):z5q sz sz 0 n n g=.dat n g:=by
 unfold z5q;rw [show (Nat.beq sz sz&&Nat.ble (0+n) n)=true by simp [B3,Nat.ble_eq],Ab]
 congr 1
 funext k
 rw [Ag]
def z1g (g:Nat→List AVal):Bool:=pd (∀i,(g i).all (pf 6)=true)
theorem w7f {p:AVal→Bool} {l:List AVal} (h:l.all p=true) (n:Nat):(l.take n).all p=true:=
 At.2 fun x hx=>At.1 h x (Cj hx)
theorem w7g {p:AVal→Bool} {l:List AVal} (h:l.all p=true) (n:Nat):(l.drop n).all p=true:=
 At.2 fun x hx=>At.1 h x (List.mem_of_mem_drop hx)
theorem v7l {g:Nat→List AVal} {off len sz:Nat} {new:List AVal} (h:z1g g=true) (hn:new.all (pf 6)=true):z1g (Zr g off len sz new)=true:=Ys fun i=>by
 unfold Zr;cases Nat.ble len i with
 | true=>exact w7f (w7g hn _) _
 | false=>exact Jy h _
theorem v7i {g:Nat→List AVal} {r fo:Nat} {cs:List AVal} (h:z1g g=true) (hn:cs.all (pf 6)=true):z1g (Xr g r fo cs)=true:=Ys fun i=>by
 unfold Xr;cases Nat.beq i r with
 | true=>rw [Ab,List.all_append,List.all_append,w7f (Jy h r),hn,w7g (Jy h r)];rfl
 | false=>exact Jy h _
theorem w7n {P:Program} {S:Specs} (hS:Zu P S) {f:FuncId} {F:List AVal→Option (AVal×Bool)} (hf:(P.funcs[f]?).any (fun fn=>fn.body.isSome)=true)
  (hF: ∀args v,F args=some (v,true)→ ∃vs,(∀(ρ:Rho) (u:Value),Yw ρ (z0h vs) u→Yw ρ v u)∧Jx P (Zy P f) (Zb P f args true []) vs∧ ∃d,pf d (z0h vs)=true):Zu P (S.with f F):=by
 intro g G hg;unfold Specs.with at hg;cases hgf:Nat.beq g f with
 | false=>rw [hgf] at hg;exact hS g G hg
 | true=>
  rw [hgf] at hg;obtain rfl:Spec.val F=G:=Af hg;obtain rfl:g=f:=Ak hgf;refine ⟨?_,fun args v hv H vals w dT hH=> ?_⟩
  ·cases hfn:P.funcs[g]? with
   | none=>rw [hfn] at hf;cases hf
   | some fn=>rw [hfn] at hf;exact ⟨fn,rfl,hf⟩
  ·obtain ⟨vs,hw,⟨C',g1,g2,g3⟩,d,hp⟩:=hF args v hv;exact (goes_call hf g1 g2 (by rw [x5o];exact g3) dT hH).mono fun e w' ⟨ρ,u,he,ho⟩=>⟨ρ.fz,u,ho.le,ho.old,ho.same,he,hw _ _ (Kn d _ u hp ho.val),ho.below⟩
theorem v0w :z1g (fun _=>[])=true:=Ys fun _=>rfl
theorem w3b (s t:Nat):z1g (fun k=>(([]:List AVal).drop (k*s)).take t)=true:=Ys fun i=>by simp
theorem y7y {g:Nat→List AVal} {o:Nat} (h:z1g g=true):z1g (fun k=>g (o+k))=true:=Ys fun i=>Jy h (o+i)
theorem v7k {g h:Nat→List AVal} {len:Nat} (p:z1g g=true) (q:z1g h=true):z1g (Jm g len h)=true:=Ys fun i=>by
 unfold Jm;cases Nat.ble len i with
 | true=>exact Jy q _
 | false=>exact Jy p _
def x4m (sz n:Nat) (g:Nat→List AVal):Bool:=pd (∀i,i<n→(g i).length =sz∧(g i).all y1u=true)
open Go.Sort Go.RowKit
variable {P:Program} {ρ:Rho}
theorem Rel.rewritten {mem:Mem} {next:Nat} {w w':World} (h:Rel ρ mem next w) {b:Nat} {l:Loc} {ab:ABlk} (hb:ρ b=some l) (hm:Yn mem b=some ab) {cs:List AVal}
  (dR:cs.length=ab.cells.length) (eB: ∀k,k<w.heap.size→k≠l.blk→w'.heap[k]? =w.heap[k]?) (gE:w.heap.size≤w'.heap.size)
  (hnew: ∃cur el,w'.heap[l.blk]? =some (.cells cur el (0,0))∧l.base+l.tot≤cur.size∧ ∀(i:Nat) (hi:i<cs.length),∃v,cur[l.base+i]? =some v∧Yw ρ cs[i] v):
  Rel ρ (Wz mem b (some ⟨cs,ab.ty,none⟩)) next w':=by
 have hbk:=h.blk b l ab hb hm;refine ⟨h.dom,fun c c' m m' e e' he hs hs'=> ?_,fun c m ac e hc=> ?_,fun k o e=> ?_,fun c m e hs=>h.sep c m e (by
  by_cases hcb:c=b
  ·rw [hcb,hm];rfl
  ·rwa [Zw _ _ hcb] at hs),fun c m e=>Ba (h.real c m e) gE,fun c hc=>by have:=h.dom b l hb;rw [Zw _ _ (by omega)];exact h.bd c hc,h.ldom⟩
 ·refine h.inj c c' m m' e e' he ?_ ?_
  ·by_cases hcb:c=b
   ·rw [hcb,hm];rfl
   ·rwa [Zw _ _ hcb] at hs
  ·by_cases hcb:c'=b
   ·rw [hcb,hm];rfl
   ·rwa [Zw _ _ hcb] at hs'
 ·by_cases hcb:c=b
  ·subst hcb;rw [Yj] at hc;obtain rfl:=Af hc;rw [hb] at e;obtain rfl:=Af e;exact ⟨by rw [dR];exact hbk.n,hbk.tot,(fun A e=>by cases e),hnew⟩
  ·rw [Zw _ _ hcb] at hc;refine (h.blk c m ac e hc).world (Rho.le_refl _) (eB m.blk (h.real c m e) fun heq=>hcb ?_);exact h.inj c b m l e hb heq (by rw [hc];rfl) (by rw [hm];rfl)
 ·have hk:=h.old k o e;rw [eB k ?_ ?_]
  ·exact hk
  ·exact (AJ.1 hk).1
  ·intro heq;have:=h.sep b l hb (by rw [hm];rfl);rw [←heq,e] at this;cases this
def Ye (n:Nat) (c:Nat→Int):List Int:=(List.range n).map c
def fRow (srt:List Int→List Int) (args:List AVal) (mem:Mem):Option (AVal×Nat×ABlk×Bool):=match args with
 | [.sla b sz off n cap]=>match Yn mem b with
  | some ⟨_,ty,some A⟩=>some (.tup [],b,⟨Yq A.n (x1x (z6r (srt (Ye n (cOf A.get))))),ty,some ⟨1,A.n,x1x (z6r (srt (Ye n (cOf A.get))))⟩⟩,
    Nat.beq sz 1&&(Nat.beq A.sz 1&&(Nat.beq off 0&&(decide (n=A.n)&&(isI A.get&&decide (n<4611686018427387904))))))
  | _=>none
 | _=>none
theorem z0j (n:Nat) (c:Nat→Int) (i:Nat) (h:i<n):(Yq n (x1x c))[i]? =some (.int .i64 (c i)):=by
 have:=Vw (get:=x1x c) (sz:=1) n (fun _ _=>rfl) i 0 h Nat.one_pos
 simpa [x1x] using this
theorem Wj (n:Nat) (c:Nat→Int):(Yq n (x1x c)).length =n:=by rw [Ym (sz:=1) n fun _ _=>rfl,Nat.mul_one]
theorem z6h (w:World) (n blk off:Nat) (d:Array Int) (os:Array Obj) (k:Nat) (hk:k<w.heap.size):
  (grow (putRow (Value.int .i64) (Go.Sort.ahead w n) blk off d) os).heap[k]? =if k=blk then (w.heap[k]?).map (onCells (putCells (Value.int .i64) off d)) else w.heap[k]? :=by
 show (((Go.Sort.ahead w n).heap.modify blk (onCells (putCells (Value.int .i64) off d)))++os)[k]? =_;rw [Array.getElem?_append_left (by simp;exact hk),Array.getElem?_modify];show (if blk=k then _ else _)=_;by_cases h:k=blk
 ·rw [AC h.symm,AC h];rfl
 ·rw [Ay (fun e=>h e.symm),Ay h];rfl
theorem Ev.rewritten {mem:Mem} {next floor:Nat} {w w':World} (h:Rel ρ mem next w) {b:Nat} (o:Option ABlk) (hb: ∀l,ρ b=some l→floor≤b) (hnone:ρ b=none→ ∀cs ty,Yn mem b≠some ⟨cs,ty,none⟩)
  (eB: ∀k,k<w.heap.size→(∀l,ρ b=some l→k≠l.blk)→w'.heap[k]? =w.heap[k]?) (gE:w.heap.size≤w'.heap.size) (h1:w'.os=w.os) (h2:w'.tape=w.tape) (h3:w'.output=w.output):
  Ev ρ ρ floor mem next (Wz mem b o) next w w' where
 ext:=Rho.le_refl _
 new _ _:=rfl
 nxt:=Ar _
 unborn k _ e cs ty hm:=by
  by_cases hk:k=b
  ·subst hk;exact absurd hm (hnone e cs ty)
  ·rw [Zw _ _ hk];exact hm
 frame k o hk hfr:=by rw [eB k (AJ.1 hk).1 fun l hl heq=>hfr b l hl (hb l hl) heq.symm];exact hk
 fresh k m hk e:=by have:=h.dom k m e;omega
 size:=gE
 os:=h1
 tape:=h2
 output:=h3
 still _ _:=rfl
theorem Rel.unbornSet {mem:Mem} {next:Nat} {w:World} (h:Rel ρ mem next w) {b:Nat} (hb:ρ b=none) (hlt:b<next) (o:Option ABlk):Rel ρ (Wz mem b o) next w:=by
 have ne: ∀c l,ρ c=some l→c≠b:=fun c l e he=>by rw [he,hb] at e;cases e
 refine ⟨h.dom,fun c c' m m' e e' he hs hs'=> ?_,fun c m ac e hc=> ?_,h.old,fun c m e hs=> ?_,h.real,fun c hc=> ?_,h.ldom⟩
 ·rw [Zw _ _ (ne _ _ e)] at hs;rw [Zw _ _ (ne _ _ e')] at hs';exact h.inj c c' m m' e e' he hs hs'
 ·rw [Zw _ _ (ne _ _ e)] at hc;exact h.blk c m ac e hc
 ·rw [Zw _ _ (ne _ _ e)] at hs;exact h.sep c m e hs
 ·rw [Zw _ _ (by omega)];exact h.bd c hc
theorem j7u {f:FuncId} {srt:List Int→List Int} (hsl: ∀zs,(srt zs).length =zs.length)
  (hC: ∀(blk off cap:Nat) (zs:List Int) (w:World),Holds (Value.int .i64) w blk off zs.toArray→blk<w.heap.size→zs.length<4611686018427387904→
   Calls P f #[.slice (some ⟨blk,off,none⟩) zs.length cap] w fun e w'=>e=.returned (.tuple #[])∧ ∃n os,w'=grow (putRow (Value.int .i64) (Go.Sort.ahead w n) blk off (srt zs).toArray) os)
  (hN: ∀(p:Option Addr) (cap:Nat) (w:World),Calls P f #[.slice p 0 cap] w fun e w'=>e=.returned (.tuple #[])∧w'=w):x8i P f (fRow srt):=by
 intro args mem v b blk h fY ρ next floor vals w hfl dT dQ
 unfold fRow at h;split at h
 ·rename_i b0 sz off n cap;split at h
  ·rename_i cells ty A hm;obtain ⟨asz,an,get⟩:=A;simp only [Ae,Ad,Ac] at h;obtain ⟨rfl,rfl,rfl,h1,h2,h3,h4,h5,h6⟩:=h;have g1:=Ak h1;have g2:=Ak h2;have g3:=Ak h3;have g4:n=an:=AA h4;have h6:n<4611686018427387904:=AA h6;subst g1;subst g2;subst g3;subst g4;obtain ⟨c,hcg⟩:=w6n h5;have e0:cOf (x1x c)=c:=rfl;simp only [hcg,e0];obtain ⟨u,hu,hvals⟩: ∃u,Yw ρ (.sla b0 1 0 n cap) u∧vals= #[u]:=by
    obtain ⟨vl⟩:=vals;cases dT with
    | cons h1 h2=>cases h2;exact ⟨_,h1,rfl⟩
   subst hvals;have hlt:b0<next:=by
    rcases Bm b0 next with h | h
    ·exact h
    ·have:=dQ.bd b0 h;rw [hm] at this;cases this
   generalize hL:srt (Ye n c)=L;have hLl:L.length=n:=by rw [←hL,hsl,Ye,A6,Ch]
   have hnn:ρ b0=none→ ∀cs ty',Yn mem b0≠some ⟨cs,ty',none⟩:=fun _ cs ty' e=>by rw [hm] at e;cases e
   cases hu with
   | sla _ _ _ _ _ l cc e hc dR=>
    have hbk:=dQ.blk b0 l _ e hm;obtain ⟨har,_,_⟩:=hbk.arr _ rfl;simp only [hcg] at har;subst har;obtain ⟨cur,el,hh,hsz,dV⟩:=hbk.cells;simp only [Wj] at dV;have eL: ∀i,i<n→cur[l.base+i]? =some (.int .i64 (c i)):=fun i hi=>by obtain ⟨v,e1,e2⟩:=dV i hi;rw [show (Yq n (x1x c))[i]'(by rw [Wj];exact hi)=.int .i64 (c i) from Af (by rw [←Ao,z0j n c i hi])] at e2;cases e2;exact e1
    have fI:=dQ.real b0 l e;have hzs:(Ye n c).length =n:=(by rw [Ye,A6,Ch]);have hH:Holds (Value.int .i64) w l.blk (l.base+0*1) (Ye n c).toArray :=fun j hj=>by
     have hj:j<n:=(by simpa [hzs] using hj);refine ⟨?_,?_⟩
     ·simp only [World.cell?,hh,Bi,A3];rw [eL j hj];simp [Ye,hj]
     ·simp [World.frozen?,hh]
    have eH:=hC l.blk (l.base+0*1) cc (Ye n c) w hH fI (by omega);rw [hzs,hL] at eH;refine eH.mono fun e' w' ⟨he,q,os,hw'⟩=>⟨_,he,?_,?_,?_⟩
    ·exact .tup [] #[] rfl fun i h1 h2=>absurd h1 (AO _)
    ·subst hw';refine Rel.setArr ?_ ⟨1,n,x1x (z6r L)⟩ rfl (Ar 1) fun _ _=>rfl;refine Rel.rewritten dQ e hm (by simp only [Wj]) (fun k hk hne=> ?_) ?_ ?_
     ·rw [z6h _ _ _ _ _ _ _ hk,Ay hne]
     ·show _≤(((Go.Sort.ahead w q).heap.modify _ _)++os).size;simp only [BR,Ci];exact BJ _ _
     ·refine ⟨putCells (Value.int .i64) (l.base+0*1) L.toArray cur,el,?_,?_,fun i hi=> ?_⟩
      ·rw [z6h _ _ _ _ _ _ _ fI,AC rfl,hh];rfl
      ·simp only [putCells,Array.size_mapIdx];exact hsz
      ·rw [Wj] at hi;refine ⟨.int .i64 (z6r L i),?_,?_⟩
       ·simp only [putCells,Array.getElem?_mapIdx,eL i hi,BL,Bi,A3];rw [AC ⟨by omega,by simp [hLl];omega⟩]
        congr 1
        simp [z6r,hLl,hi]
       ·rw [show (Yq n (x1x (z6r L)))[i]'(by rw [Wj];exact hi)=.int .i64 (z6r L i) from Af (by rw [←Ao,z0j n _ i hi])];exact .int _ _
    ·subst hw';refine Ev.rewritten dQ _ (fun l' _=>hfl) hnn (fun k hk hne=> ?_) ?_ rfl rfl rfl
     ·rw [z6h _ _ _ _ _ _ _ hk,Ay (hne l e)]
     ·show _≤(((Go.Sort.ahead w q).heap.modify _ _)++os).size;simp only [BR,Ci];exact BJ _ _
   | slan=>
    refine (hN none 0 w).mono fun e' w' ⟨he,hw'⟩=>⟨_,he,?_,?_,?_⟩
    ·exact .tup [] #[] rfl fun i h1 h2=>absurd h1 (AO _)
    ·subst hw';refine Rel.setArr ?_ ⟨1,0,x1x (z6r L)⟩ rfl (Ar 1) fun _ _=>rfl;cases e:ρ b0 with
     | none=>exact Rel.unbornSet dQ e hlt _
     | some l=>have hbk:=dQ.blk b0 l _ e hm;obtain ⟨har,_,_⟩:=hbk.arr _ rfl;simp only [hcg] at har;subst har;obtain ⟨cur,el,hh,hsz,dV⟩:=hbk.cells;exact Rel.rewritten dQ e hm rfl (fun _ _ _=>rfl) (Ar _) ⟨cur,el,hh,hsz,fun i hi=>absurd hi (AO _)⟩
    ·subst hw';exact Ev.rewritten dQ _ (fun l' _=>hfl) hnn (fun _ _ _=>rfl) (Ar _) rfl rfl rfl
  ·cases h
 ·cases h
def fCut (srt:List Int→List Int) (res:List Int→Nat) (args:List AVal) (mem:Mem):Option (AVal×Nat×ABlk×Bool):=match args with
 | [.sla b sz off n cap]=>match Yn mem b with
  | some ⟨_,ty,some A⟩=>some (.sla b 1 0 (res (Ye n (cOf A.get))) cap,b,⟨Yq A.n (x1x (z6r (srt (Ye n (cOf A.get))))),ty,some ⟨1,A.n,x1x (z6r (srt (Ye n (cOf A.get))))⟩⟩,
    Nat.beq sz 1&&(Nat.beq A.sz 1&&(Nat.beq off 0&&(decide (n=A.n)&&(isI A.get&&decide (n<4611686018427387904))))))
  | _=>none
 | _=>none
theorem j7v {f:FuncId} {srt:List Int→List Int} {res:List Int→Nat} (hsl: ∀zs,(srt zs).length =zs.length) (gD: ∀zs,res zs≤zs.length)
  (hC: ∀(blk off cap:Nat) (zs:List Int) (w:World),Holds (Value.int .i64) w blk off zs.toArray→blk<w.heap.size→zs.length<4611686018427387904→zs.length≤cap→
   Calls P f #[.slice (some ⟨blk,off,none⟩) zs.length cap] w fun e w'=>e=.returned (.slice (some ⟨blk,off,none⟩) (res zs) cap)∧ ∃n os,w'=grow (putRow (Value.int .i64) (Go.Sort.ahead w n) blk off (srt zs).toArray) os)
  (hN: ∀(p:Option Addr) (cap:Nat) (w:World),Calls P f #[.slice p 0 cap] w fun e w'=>e=.returned (.slice p 0 cap)∧w'=w):x8i P f (fCut srt res):=by
 intro args mem v b blk h fY ρ next floor vals w hfl dT dQ
 unfold fCut at h;split at h
 ·rename_i b0 sz off n cap;split at h
  ·rename_i cells ty A hm;obtain ⟨asz,an,get⟩:=A;simp only [Ae,Ad,Ac] at h;obtain ⟨rfl,rfl,rfl,h1,h2,h3,h4,h5,h6⟩:=h;have g1:=Ak h1;have g2:=Ak h2;have g3:=Ak h3;have g4:n=an:=AA h4;have h6:n<4611686018427387904:=AA h6;subst g1;subst g2;subst g3;subst g4;obtain ⟨c,hcg⟩:=w6n h5;have e0:cOf (x1x c)=c:=rfl;simp only [hcg,e0];obtain ⟨u,hu,hvals⟩: ∃u,Yw ρ (.sla b0 1 0 n cap) u∧vals= #[u]:=by
    obtain ⟨vl⟩:=vals;cases dT with
    | cons h1 h2=>cases h2;exact ⟨_,h1,rfl⟩
   subst hvals;have hlt:b0<next:=by
    rcases Bm b0 next with h | h
    ·exact h
    ·have:=dQ.bd b0 h;rw [hm] at this;cases this
   generalize hL:srt (Ye n c)=L;have hLl:L.length=n:=by rw [←hL,hsl,Ye,A6,Ch]
   have hnn:ρ b0=none→ ∀cs ty',Yn mem b0≠some ⟨cs,ty',none⟩:=fun _ cs ty' e=>by rw [hm] at e;cases e
   cases hu with
   | sla _ _ _ _ _ l cc e hc dR=>
    have hbk:=dQ.blk b0 l _ e hm;obtain ⟨har,_,_⟩:=hbk.arr _ rfl;simp only [hcg] at har;subst har;obtain ⟨cur,el,hh,hsz,dV⟩:=hbk.cells;simp only [Wj] at dV;have eL: ∀i,i<n→cur[l.base+i]? =some (.int .i64 (c i)):=fun i hi=>by obtain ⟨v,e1,e2⟩:=dV i hi;rw [show (Yq n (x1x c))[i]'(by rw [Wj];exact hi)=.int .i64 (c i) from Af (by rw [←Ao,z0j n c i hi])] at e2;cases e2;exact e1
    have fI:=dQ.real b0 l e;have hzs:(Ye n c).length =n:=(by rw [Ye,A6,Ch]);have hH:Holds (Value.int .i64) w l.blk (l.base+0*1) (Ye n c).toArray :=fun j hj=>by
     have hj:j<n:=(by simpa [hzs] using hj);refine ⟨?_,?_⟩
     ·simp only [World.cell?,hh,Bi,A3];rw [eL j hj];simp [Ye,hj]
     ·simp [World.frozen?,hh]
    have eH:=hC l.blk (l.base+0*1) cc (Ye n c) w hH fI (by omega) (by omega);rw [hzs,hL] at eH;refine eH.mono fun e' w' ⟨he,q,os,hw'⟩=>⟨_,he,?_,?_,?_⟩
    ·exact .sla _ _ _ _ _ l cc e hc (AK (gD _) (by omega))
    ·subst hw';refine Rel.setArr ?_ ⟨1,n,x1x (z6r L)⟩ rfl (Ar 1) fun _ _=>rfl;refine Rel.rewritten dQ e hm (by simp only [Wj]) (fun k hk hne=> ?_) ?_ ?_
     ·rw [z6h _ _ _ _ _ _ _ hk,Ay hne]
     ·show _≤(((Go.Sort.ahead w q).heap.modify _ _)++os).size;simp only [BR,Ci];exact BJ _ _
     ·refine ⟨putCells (Value.int .i64) (l.base+0*1) L.toArray cur,el,?_,?_,fun i hi=> ?_⟩
      ·rw [z6h _ _ _ _ _ _ _ fI,AC rfl,hh];rfl
      ·simp only [putCells,Array.size_mapIdx];exact hsz
      ·rw [Wj] at hi;refine ⟨.int .i64 (z6r L i),?_,?_⟩
       ·simp only [putCells,Array.getElem?_mapIdx,eL i hi,BL,Bi,A3];rw [AC ⟨by omega,by simp [hLl];omega⟩]
        congr 1
        simp [z6r,hLl,hi]
       ·rw [show (Yq n (x1x (z6r L)))[i]'(by rw [Wj];exact hi)=.int .i64 (z6r L i) from Af (by rw [←Ao,z0j n _ i hi])];exact .int _ _
    ·subst hw';refine Ev.rewritten dQ _ (fun l' _=>hfl) hnn (fun k hk hne=> ?_) ?_ rfl rfl rfl
     ·rw [z6h _ _ _ _ _ _ _ hk,Ay (hne l e)]
     ·show _≤(((Go.Sort.ahead w q).heap.modify _ _)++os).size;simp only [BR,Ci];exact BJ _ _
   | slan=>
    refine (hN none 0 w).mono fun e' w' ⟨he,hw'⟩=>⟨_,he,?_,?_,?_⟩
    ·rw [show res (Ye 0 c)=0 from Nat.le_zero.1 (gD _)];exact .slan _ _ _ _
    ·subst hw';refine Rel.setArr ?_ ⟨1,0,x1x (z6r L)⟩ rfl (Ar 1) fun _ _=>rfl;cases e:ρ b0 with
     | none=>exact Rel.unbornSet dQ e hlt _
     | some l=>have hbk:=dQ.blk b0 l _ e hm;obtain ⟨har,_,_⟩:=hbk.arr _ rfl;simp only [hcg] at har;subst har;obtain ⟨cur,el,hh,hsz,dV⟩:=hbk.cells;exact Rel.rewritten dQ e hm rfl (fun _ _ _=>rfl) (Ar _) ⟨cur,el,hh,hsz,fun i hi=>absurd hi (AO _)⟩
    ·subst hw';exact Ev.rewritten dQ _ (fun l' _=>hfl) hnn (fun _ _ _=>rfl) (Ar _) rfl rfl rfl
  ·cases h
 ·cases h
def q4 (f:Nat→Nat→Int):Nat→List AVal:=fun k=>[.int .i64 (f k 0),.int .i64 (f k 1),.int .i64 (f k 2),.int .i64 (f k 3)]
theorem x6s (a:Nat):(Nat.beq a a == true)=true:=by simp [B3]
inductive VP where
 | keep
 | drop
  | grow (b sz:Nat)
  | list (n:Nat) (g:Nat→List AVal)
  | len (n:Nat)
  | frz (n n':Nat) (a g:Nat→List AVal)
def Kf (n:Nat) (a g:Nat→List AVal):Bool:=pd (∀i,i<n→a i=g i)
def v4p (cells:List AVal) (sz n:Nat) (g:Nat→List AVal):Bool:=pd (cells=Yq n g∧1≤sz∧ ∀i,i<n→(g i).length =sz)
def rlesR (n:Nat) (a g:Nat→List AVal):Bool:=pd (∀i,i<n→RLe (a i) (g i))
def x4b (a b:Nat):Bool:=pd (a=b)
theorem Uz {a b:Nat} (h:a=b):x4b a b=true:=Ys h
def v7e (v:AVal) (n:Nat) (a:Nat→List AVal):Bool:=pd (v=.dat n a)
theorem u4l (sz n:Nat) (g:Nat→List AVal):v7e (z5q sz sz 0 n n g) n g=true:=Ys (j5v sz n g)
theorem v7d (n:Nat) (g:Nat→List AVal):v7e (.dat n g) n g=true:=Ys rfl
def x6x :VP→AVal→Bool→AVal×Bool
 | .keep,v,ob=>(v,ob)
 | .drop,_,ob=>(.undef,ob)
 | .grow b sz,v,ob=>match v with
  | .nils =>(.sla b sz 0 0 (.un sz),ob)
  | .sl b o len cap=>(.sla b sz 0 len cap,Nat.beq o 0&&ob)
  | v=>(v,ob)
 | .list n' g,v,ob=>match v with
  | .nils =>(.dat 0 g,ob)
  | .dat n a=>(.dat n' g,x4b n n'&&(Kf n a g&&ob))
  | v=>(v,ob)
 | .len n',v,ob=>match v with
  | .sla b sz off n cap=>(.sla b sz off n' cap,x4b n n'&&ob)
  | v=>(v,ob)
 | .frz n n' a g,v,ob=>(.dat n' g,v7e v n a&&(x4b n n'&&(Kf n a g&&ob)))
theorem w6g {p:VP} {v:AVal} {ob:Bool} (h:(x6x p v ob).2=true):VLe v (x6x p v ob).1∧ob=true:=by
 cases p with
 | keep=>exact ⟨.refl _,h⟩
 | drop=>exact ⟨.undef _,h⟩
 | grow b sz=>
  cases v with
  | nils=>exact ⟨.nils _ _ _ _,h⟩
  | sl b' o len cap=>simp only [x6x,Ac] at h;have e:=Ak h.1;subst e;have:=VLe.sl b' sz 0 len cap;rw [Bi] at this;exact ⟨this,h.2⟩
  | _=>exact ⟨.refl _,h⟩
 | list n' g=>
  cases v with
  | nils=>exact ⟨.nild _,h⟩
  | dat n a=>simp only [x6x,Ac] at h;obtain rfl:=Jy h.1;exact ⟨.dat _ _ _ (Jy h.2.1),h.2.2⟩
  | _=>exact ⟨.refl _,h⟩
 | len n'=>
  cases v with
  | sla b sz off n cap=>simp only [x6x,Ac] at h;obtain rfl:=Jy h.1;exact ⟨.refl _,h.2⟩
  | _=>exact ⟨.refl _,h⟩
 | frz n n' a g=>simp only [x6x,Ac] at h;obtain rfl:=Jy h.1;obtain rfl:=Jy h.2.1;exact ⟨.dat _ _ _ (Jy h.2.2.1),h.2.2.2⟩
def x6w :List VP→List AVal→Bool→List AVal×Bool
 | _,[],ob=>([],ob)
 | [],l,ob=>(l,ob)
 | p::ps,v::l,ob=>match x6w ps l ob with
  | (l',ob)=>match x6x p v ob with
   | (v',ob)=>(v'::l',ob)
theorem y7k : ∀{ps:List VP} {l:List AVal} {ob:Bool},(x6w ps l ob).2=true→RLe l (x6w ps l ob).1∧ob=true
 | [],[],_,h=>⟨.nil,h⟩
 | _::_,[],_,h=>⟨.nil,h⟩
 | [],a::l,_,h=>⟨RLe.refl _,h⟩
 | p::ps,v::l,ob,h=>by simp only [x6w] at h ⊢;obtain ⟨h1,h2⟩:=w6g h;obtain ⟨h3,h4⟩:=y7k h2;exact ⟨.cons h1 h3,h4⟩
inductive BP where
 | keep
 | drop
 | cells (ps:List VP)
 | rowed (sz n:Nat) (g:Nat→List AVal)
 | rws (a:Rws)
def y7l :BP→Option ABlk→Bool→Option ABlk×Bool
 | .keep,o,ob=>(o,ob)
 | .drop,_,ob=>(none,ob)
 | .cells ps,o,ob=>match o with
  | some ⟨cells,ty,none⟩=>match x6w ps cells ob with
   | (cs,ob)=>(some ⟨cs,ty,none⟩,ob)
  | o=>(o,ob)
 | .rowed sz n g,o,ob=>match o with
  | some ⟨cells,ty,none⟩=>(some ⟨Yq n g,ty,some ⟨sz,n,.flat g⟩⟩,v4p cells sz n g&&ob)
  | some ⟨_,ty,some ⟨sz',n',a⟩⟩=>(some ⟨Yq n g,ty,some ⟨sz',n,.flat g⟩⟩,x4b n' n&&(Kf n' a.get g&&ob))
  | o=>(o,ob)
 | .rws a',o,ob=>match o with
  | some ⟨_,ty,some ⟨sz,n,a⟩⟩=>(some ⟨Yq n a'.get,ty,some ⟨sz,n,a'⟩⟩,rlesR n a.get a'.get&&ob)
  | o=>(o,ob)
theorem RLe.sound {ρ:Rho} {l m:List AVal} (h:RLe l m) (i:Nat) (h1:i<l.length) (h2:i<m.length) {v:Value} (hv:Yw ρ l[i] v):Yw ρ m[i] v:=(h.get i h1 h2).sound hv
theorem w2f {p:BP} {o:Option ABlk} {ob:Bool} {x':ABlk} (h:(y7l p o ob).2=true) (hx:(y7l p o ob).1=some x'):ob=true∧ ∃x,o=some x∧ ∀(ρ:Rho) (w:World) (l:Loc),Jz ρ w x l→Jz ρ w x' l:=by
 cases p with
 | keep=>exact ⟨h,x',hx,fun _ _ _ q=>q⟩
 | drop=>cases hx
 | cells ps=>
  rcases o with _ | ⟨cells,ty,_ | A⟩
  ·cases hx
  ·simp only [y7l] at h hx;obtain ⟨h1,h2⟩:=y7k h;obtain rfl:=Af hx;refine ⟨h2,_,rfl,fun ρ w l hb=> ?_⟩;obtain ⟨cs,el,g1,g2,g3⟩:=hb.cells;refine ⟨by rw [hb.n];exact h1.len,hb.tot,(fun A hA=>by cases hA),cs,el,g1,g2,fun i hi=> ?_⟩;have hi0:i<cells.length:=by rw [h1.len];exact hi
   obtain ⟨v,q1,q2⟩:=g3 i hi0;exact ⟨v,q1,h1.sound i hi0 hi q2⟩
  ·exact ⟨h,_,rfl,fun ρ w l hb=>by obtain rfl:=Af hx;exact hb⟩
 | rowed sz n g=>
  rcases o with _ | ⟨cells,ty,_ | ⟨sz',n',a⟩⟩
  ·cases hx
  ·simp only [y7l,Ac] at h hx;obtain rfl:=Af hx;obtain ⟨h1,h2,h3⟩:=Jy h.1;exact ⟨h.2,_,rfl,fun ρ w l hb=>(BLe.rowed cells ty none sz n g h1 h2 h3).sound hb⟩
  ·simp only [y7l,Ac] at h hx;obtain rfl:=Af hx;obtain rfl:=Jy h.1;have h1:=Jy h.2.1;refine ⟨h.2.2,_,rfl,fun ρ w l hb=> ?_⟩;obtain ⟨q1,q2,q3⟩:=hb.arr _ rfl;exact (BLe.rowed cells ty _ sz' n' g (q1.trans (y1h _ h1)) q2 fun i hi=>by rw [←h1 i hi];exact q3 i hi).sound hb
 | rws a'=>
  rcases o with _ | ⟨cells,ty,_ | ⟨sz',n',a⟩⟩
  ·cases hx
  ·exact ⟨h,_,rfl,fun ρ w l hb=>by obtain rfl:=Af hx;exact hb⟩
  ·simp only [y7l,Ac] at h hx;obtain rfl:=Af hx;refine ⟨h.2,_,rfl,fun ρ w l hb=> ?_⟩;obtain ⟨q1,_,_⟩:=hb.arr _ rfl;have q1:cells=Yq n' a.get:=q1;subst q1;exact (BLe.rws ty sz' n' a a' (Jy h.1)).sound hb
def v0h :List (Nat×VP)→T AVal→Bool→T AVal×Bool
 | [],env,ob=>(env,ob)
 | (t,p)::l,env,ob=>match v0h l env ob with
  | (e,ob)=>match x6x p (T.get .undef e t) ob with
   | (v,ob)=>(T.set .undef e t v,ob)
def ELe (e e':T AVal):Prop:= ∀t,(∀(ρ:Rho) (v:Value),Yw ρ (T.get .undef e t) v→Yw ρ (T.get .undef e' t) v)∧(T.get .undef e t=.undef →T.get .undef e' t=.undef)
theorem ELe.refl (e:T AVal):ELe e e:=fun _=>⟨fun _ _ h=>h,fun h=>h⟩
theorem x4a : ∀{l:List (Nat×VP)} {env:T AVal} {ob:Bool},(v0h l env ob).2=true→ELe env (v0h l env ob).1∧ob=true
 | [],_,_,h=>⟨ELe.refl _,h⟩
 | (t,p)::l,env,ob,h=>by
  simp only [v0h] at h ⊢;obtain ⟨h1,h2⟩:=w6g h;obtain ⟨h3,h4⟩:=x4a h2;refine ⟨fun s=> ?_,h4⟩;rw [T.get_set];by_cases e:s=t
  ·subst e;rw [AC rfl];exact ⟨fun ρ v hv=>h1.sound ((h3 s).1 ρ v hv),fun hu=>by have e:=(h3 s).2 hu;rw [e] at h1 ⊢;exact h1.of_undef⟩
  ·rw [Ay e];exact h3 s
def w2e :List BP→Nat→Mem→Bool→Mem×Bool
 | [],_,m,ob=>(m,ob)
 | p::ps,i,m,ob=>match w2e ps (i+1) m ob with
  | (m',ob)=>match y7l p (Yn m i) ob with
   | (x,ob)=>(Wz m' i x,ob)
theorem u3y {p:BP} {o:Option ABlk} {ob:Bool} (h:(y7l p o ob).2=true):ob=true:=by
 cases p with
 | keep=>exact h
 | drop=>exact h
 | cells ps=>
  rcases o with _ | ⟨cells,ty,_ | A⟩
  ·exact h
  ·exact (y7k h).2
  ·exact h
 | rowed sz n g=>
  rcases o with _ | ⟨cells,ty,_ | A⟩
  ·exact h
  ·simp only [y7l,Ac] at h;exact h.2
  ·simp only [y7l,Ac] at h;exact h.2.2
 | rws a=>
  rcases o with _ | ⟨cells,ty,_ | A⟩
  ·exact h
  ·exact h
  ·simp only [y7l,Ac] at h;exact h.2
theorem x1s : ∀{ps:List BP} {i:Nat} {m:Mem} {ob:Bool},(w2e ps i m ob).2=true→ob=true∧ ∀b x',Yn (w2e ps i m ob).1 b=some x'→ ∃x,Yn m b=some x∧ ∀(ρ:Rho) (w:World) (l:Loc),Jz ρ w x l→Jz ρ w x' l
 | [],_,_,_,h=>⟨h,fun b x' hb=>⟨x',hb,fun _ _ _ q=>q⟩⟩
 | p::ps,i,m,ob,h=>by
  simp only [w2e] at h ⊢;have hob:(w2e ps (i+1) m ob).2=true:=u3y h;obtain ⟨h1,h2⟩:=x1s hob;refine ⟨h1,fun b x' hb=> ?_⟩;rw [Vk] at hb;by_cases e:b=i
  ·subst e;rw [AC rfl] at hb;exact (w2f h hb).2
  ·rw [Ay e] at hb;exact h2 b x' hb
def v0g :List (List (Nat×VP))→List AFr→Bool→List AFr×Bool
 | _,[],ob=>([],ob)
 | [],l,ob=>(l,ob)
 | p::ps,⟨cx,ro,todo,rnd,rs,env⟩::l,ob=>match v0g ps l ob with
  | (l',ob)=>match v0h p env ob with
   | (e,ob)=>(⟨cx,ro,todo,rnd,rs,e⟩::l',ob)
def FLe (a a':AFr):Prop:=a.cx=a'.cx∧a.ro=a'.ro∧a.todo=a'.todo∧a.rnd=a'.rnd∧a.rs=a'.rs∧ELe a.env a'.env
theorem FLe.refl (a:AFr):FLe a a:=⟨rfl,rfl,rfl,rfl,rfl,ELe.refl _⟩
theorem Vj.refl' : ∀l:List AFr,Vj FLe l l
 | []=>.nil
 | a::l=>.cons (FLe.refl a) (Vj.refl' l)
theorem w6h : ∀{ps:List (List (Nat×VP))} {l:List AFr} {ob:Bool},(v0g ps l ob).2=true→Vj FLe l (v0g ps l ob).1∧ob=true
 | [],[],_,h=>⟨.nil,h⟩
 | _::_,[],_,h=>⟨.nil,h⟩
 | [],a::l,_,h=>⟨Vj.refl' _,h⟩
 | p::ps,⟨cx,ro,todo,rnd,rs,env⟩::l,ob,h=>by simp only [v0g] at h ⊢;obtain ⟨h1,h2⟩:=x4a h;obtain ⟨h3,h4⟩:=w6h h2;exact ⟨.cons ⟨rfl,rfl,rfl,rfl,rfl,h1⟩ h3,h4⟩
structure Less where
 slots:List (Nat×VP):=[]
 blks:List BP:=[]
 cs:List (List (Nat×VP)):=[]
def v0j (L:Less):Cfg→Cfg
 | ⟨cx,ro,todo,rnd,rs,⟨env,mem,next,orc,ob⟩,cs,lps⟩=>match v0g L.cs cs ob with
  | (cs',ob)=>match w2e L.blks 0 mem ob with
   | (mem',ob)=>match v0h L.slots env ob with
    | (env',ob)=>⟨cx,ro,todo,rnd,rs,⟨env',mem',next,orc,ob⟩,cs',lps⟩
def x7j :List (TypeId×Nat×(Nat→List AVal))→Nat→Mem→Mem
 | [],_,m=>m
 | (ty,sz,g)::l,i,m=>Wz (x7j l (i+1) m) i (some ⟨[],ty,some ⟨sz,0,.flat g⟩⟩)
def w6p (gs:List (TypeId×Nat×(Nat→List AVal))):Cfg→Cfg
 | ⟨cx,ro,todo,rnd,rs,⟨env,mem,next,orc,ob⟩,cs,lps⟩=>⟨cx,ro,todo,rnd,rs,⟨env,x7j gs next mem,next+gs.length,orc,ob⟩,cs,lps⟩
theorem y1z : ∀(gs:List (TypeId×Nat×(Nat→List AVal))) (i:Nat) (m:Mem) (b:Nat),(b<i→Yn (x7j gs i m) b=Yn m b)∧(i+gs.length≤b→Yn (x7j gs i m) b=Yn m b)
 | [],i,m,b=>⟨fun _=>rfl,fun _=>rfl⟩
 | (ty,sz,g)::l,i,m,b=>by obtain ⟨h1,h2⟩:=y1z l (i+1) m b;simp only [x7j,Vk,AU];exact ⟨fun h=>by rw [Ay (by omega)];exact h1 (by omega),fun h=>by rw [Ay (by omega)];exact h2 (by omega)⟩
theorem v2g.less {P:Program} {ρ:Rho} {cs:List AFr} {css:List Frame} {mss:List Nat} (h:v2g P ρ cs css mss): ∀{cs':List AFr},Vj FLe cs cs'→v2g P ρ cs' css mss:=by
 induction h with
 | nil=>intro cs' h;cases h;exact .nil
 | @cons af b a k ms cs css mss hf hl t ih=>
  intro cs' h;cases h with
  | @cons _ af' _ cs'' h1 h2=>
   obtain ⟨e1,e2,e3,e4,e5,e6⟩:=h1;have hne:cs''≠ []→cs≠ []:=fun hn he=>by subst he;cases h2;exact hn rfl
   rw [show Wt af.ro k=Wt af'.ro k by rw [e2]];exact .cons ⟨by rw [←e1];exact ⟨hf.env.size,fun t=>(e6 t).1 _ _ (hf.env.get t),fun t ht=>(e6 t).2 (hf.env.out t ht)⟩,hf.defers,by rw [←e3];exact hf.todo,by rw [←e2];exact hf.ro,by rw [←e4];exact hf.rnd⟩
    (fun hn=>by rw [←e4,←e5];exact hl (hne hn)) (ih h2)
theorem y1y {P:Program} {cx:Ctx} {ro:Option RegOps} {todo:List Item} {rnd:Option Nat} {rs:List ResultVar} {env env':T AVal} {mem mem':Mem} {k k':Nat} {o o':List Bool} {b0 b0':Bool} {cs cs':List AFr} {lps:Loops}
  (hE:ELe env env') (hC:Vj FLe cs cs') (hM: ∀b x',b<k→Yn mem' b=some x'→ ∃x,Yn mem b=some x∧ ∀(ρ:Rho) (w:World) (l:Loc),Jz ρ w x l→Jz ρ w x' l) (hk:k≤k') (hbd:(∀b,k≤b→Yn mem b=none)→ ∀b,k'≤b→Yn mem' b=none):
  y3q P ⟨cx,ro,todo,rnd,rs,⟨env,mem,k,o,b0⟩,cs,lps⟩ ⟨cx,ro,todo,rnd,rs,⟨env',mem',k',o',b0'⟩,cs',lps⟩:=
 fun H w0 ρ b a t css w ma mb hs he cs0=>by
  have hr:=hs.rel;simp only at hr he;have hne:cs'≠ []→cs≠ []:=fun hn e=>by subst e;cases hC;exact hn rfl
  refine ⟨ρ,b,a,t,css,w,ma,mb,Steps.refl _ _,⟨⟨?_,hs.top.defers,hs.top.todo,hs.top.ro,hs.top.rnd⟩,fun hn=>hs.lv (hne hn),⟨hs.rest.cs.less hC,hs.rest.nodup,hs.rest.marks,hs.rest.loops,hs.rest.inj⟩,?_⟩,?_,rfl,Ar _⟩
  ·exact ⟨hs.top.env.size,fun t=>(hE t).1 _ _ (hs.top.env.get t),fun t ht=>(hE t).2 (hs.top.env.out t ht)⟩
  ·have lift: ∀c l,ρ c=some l→(Yn mem' c).isSome =true→(Yn mem c).isSome =true:=fun c l hc h=>by obtain ⟨x,hx⟩:=Option.isSome_iff_exists.1 h;obtain ⟨y,hy,_⟩:=hM c x (hr.dom c l hc) hx;rw [hy];rfl
   refine ⟨fun c l hc=>Ba (hr.dom c l hc) hk,fun c c' l l' hc hc' hl h1 h2=>hr.inj c c' l l' hc hc' hl (lift c l hc h1) (lift c' l' hc' h2),fun c l ab hc h1=> ?_,hr.old,fun c l hc h1=>hr.sep c l hc (lift c l hc h1),hr.real,hbd hr.bd,fun j l hj=>Ba (hr.ldom j l hj) hk⟩;obtain ⟨y,hy,h2⟩:=hM c ab (hr.dom c l hc) h1;exact h2 _ _ _ (hr.blk c l y hc hy)
  ·exact ⟨he.ext,fun _ hb=>absurd hb (AO _),AD _,fun _ hb=>absurd hb (AO _),he.frame,he.fresh,he.size,he.os,he.tape,he.output,he.still⟩
theorem v0i {P:Program} {L:Less} {C:Cfg} (ho:(v0j L C).st.ob =true):C.st.ob=true∧y3q P C (v0j L C):=by
 obtain ⟨cx,ro,todo,rnd,rs,⟨env,mem,next,orc,ob⟩,cs,lps⟩:=C;simp only [v0j] at ho ⊢;obtain ⟨h1,h2⟩:=x4a ho;obtain ⟨h3,h4⟩:=x1s h2;obtain ⟨h5,h6⟩:=w6h h3;refine ⟨h6,y1y h1 h5 (fun b x' _ hb=>h4 b x' hb) (Ar _) fun hbd b hb=> ?_⟩;cases hq:Yn (w2e L.blks 0 mem (v0g L.cs cs ob).2).1 b with
 | none=>rfl
 | some x'=>obtain ⟨x,hx,_⟩:=h4 b x' hq;rw [hbd b hb] at hx;cases hx
theorem w2v {P:Program} (gs:List (TypeId×Nat×(Nat→List AVal))) (C:Cfg):y3q P C (w6p gs C)∧(w6p gs C).st.ob =C.st.ob:=by
 obtain ⟨cx,ro,todo,rnd,rs,⟨env,mem,next,orc,ob⟩,cs,lps⟩:=C;exact ⟨y1y (ELe.refl _) (Vj.refl' _) (fun b x' hb h=>⟨x',by rw [←(y1z gs next mem b).1 hb];exact h,fun _ _ _ q=>q⟩) (BJ _ _) fun hbd b hb=>by
  rw [(y1z gs next mem b).2 hb];exact hbd b (by omega),rfl⟩
theorem v0r {P:Program} {C C':Cfg} {orc:List Bool} {ob:Bool} (g:y3q P (C.withO orc) (C'.withB ob)):y3q P C C':=by
 obtain ⟨cx,ro,todo,rnd,rs,⟨env,mem,next,o,b⟩,cs,lps⟩:=C;obtain ⟨cx',ro',todo',rnd',rs',⟨env',mem',next',o',b'⟩,cs',lps'⟩:=C';exact fun H w0 ρ b a k css w ma mb hs he cs0=>by obtain ⟨ρ',b',a',k',css',w',ma',mb',h1,h2,h3,h4⟩:=g H w0 ρ b a k css w ma mb ⟨hs.top,hs.lv,hs.rest,hs.rel⟩ he cs0;exact ⟨ρ',b',a',k',css',w',ma',mb',h1,⟨h2.top,h2.lv,h2.rest,h2.rel⟩,h3,h4⟩
theorem u0d {P:Program} {S:Specs} (hN:y0s P) (hmx:P.follows .mixedOrders =true) (hS:Zu P S) {n m d:Nat} {C C':Cfg} (gs:List (TypeId×Nat×(Nat→List AVal))) (N:y0v) (L:Less) (orc:List Bool) (ob:Bool)
  (h:(((u4b P S (j3b P S m d) n (C.withO orc)).map (w6p gs)).bind (u3j P N)).map (v0j L)=some (C'.withB ob)) (ho:ob=true) (hfl:fl0 C=true):y3q P C C':=by
 rw [Aq] at h;obtain ⟨C2,h1,h2⟩:=h;rw [BF] at h1;obtain ⟨C1,h3,h4⟩:=h1;rw [Aq] at h3;obtain ⟨C0,h5,rfl⟩:=h3;have hfo:fl0 (C.withO orc)=true:=by obtain ⟨cx,ro,todo,rnd,rs,⟨env,mem,next,o,b⟩,cs,lps⟩:=C;exact hfl
 obtain ⟨hCI,hC⟩:=v4h hN hmx hS m d;obtain ⟨f1,f2,f3⟩:=x7c hN hmx hS hCI hC n (C.withO orc) C0 (u4p hfo) h5;have hob:(v0j L C2).st.ob =true:=by rw [h2];obtain ⟨cx,ro,todo,rnd,rs,⟨env,mem,next,o,b⟩,cs,lps⟩:=C';exact ho
 obtain ⟨l1,l2⟩:=v0i (P:=P) hob;obtain ⟨g1,g2,_⟩:=v0b h4 l1;obtain ⟨q1,q2⟩:=w2v (P:=P) gs C0;rw [q2] at g1;have:=(((f3 g1).goes.trans q1).trans g2).trans l2;rw [h2] at this;exact v0r this
theorem x3g (n:Nat) (g:Nat→List AVal):Kf n g g=true:=Ys fun _ _=>rfl
theorem v4a (a g:Nat→List AVal):Kf 0 a g=true:=Ys fun _ h=>absurd h (AO _)
theorem u5j {a b:Nat} (h: ¬a≤b):Nat.ble a b=false:=A4.2 fun e=>h (Al e)
theorem v8x {a b:Nat} (h:a≤b):Nat.ble a b=true:=Bh h
theorem v4d {n N sz:Nat} {G H H':Nat→List AVal} {cells:List AVal} (m:Nat) (h:Kf n G H=true) (hN:N=n+m) (h0: ∀i,i<n→H' i=H i) (h1: ∀i,i<m→(cells.drop (i*sz)).take sz=H' (n+i)):Kf N (Zr G 0 n sz cells) H'=true:=Ys fun i hi=>by
 unfold Zr;by_cases e:n≤i
 ·rw [v8x e,Ab,h1 (i - n) (by omega),show n+(i - n)=i by omega]
 ·rw [u5j e,Aa,Ag,Jy h i (by omega),h0 i (by omega)]
theorem y2g {α:Type} {sz:Nat}: ∀(l:List (List α)) (i:Nat),(∀x∈l,x.length=sz)→i<l.length→(l.flatten.drop (i*sz)).take sz=l.getD i []
 | [],i,_,h=>absurd h (AO _)
 | x::l,0,hl,_=>by have:=hl x (by simp);simp [List.take_append_of_le_length,this]
 | x::l,i+1,hl,h=>by have hx:=hl x (by simp);rw [List.flatten_cons,List.getD_cons_succ,←y2g l i (fun y hy=>hl y (by simp [hy])) (by simpa using h)];rw [List.drop_append,hx,show (i+1)*sz - sz=i*sz by rw [AR,BI];omega,Au (by rw [hx,AR,BI];omega),Bc]
theorem v4c {m N:Nat} {G H H':Nat→List AVal} (h':Kf m H H'=true) (hN:N=0+m):Kf N (Jm G 0 H) H'=true:=Ys fun i hi=>Jy h' i (by omega)
theorem x9r {n:Nat} {G H:Nat→List AVal} (h:Kf n G H=true):Kf n (fun k=>G (0+k)) H=true:=Ys fun i hi=>by show G (0+i)=_;rw [Ag];exact Jy h i hi
theorem u1q {cells:List AVal} {sz n:Nat} {g:Nat→List AVal} (h:cells=Yq n g) (h1:Nat.ble 1 sz=true) (h2: ∀i,(g i).length =sz):v4p cells sz n g=true:=Ys ⟨h,Al h1,fun i _=>h2 i⟩
def z8j :List (Nat×ABlk)→Mem
 | []=>.leaf
 | (i,b)::l=>Wz (z8j l) i (some b)
def y5l :List (Nat×ALoop)→Loops
 | []=>.leaf
 | (i,b)::l=>v2d (y5l l) i (some b)
class Xx (α:Type) where
 w:Nat
 d:α
 cells:α→List AVal
 of:List AVal→α
 len: ∀a,(cells a).length =w
 pos:1≤w
 flat: ∀a,(cells a).all (pf 6)=true
 sc: ∀a,(cells a).all y1u=true
 back: ∀a,of (cells a)=a
def iOf :AVal→Int
 | .int _ n=>n
 | _=>0
def oOf :AVal→Bool
 | .bool b=>b
 | _=>false
instance : Xx Int where
 w:=1
 d:=0
 cells x:=[.int .i64 x]
 of l:=iOf (l.getD 0 .undef)
 len _:=rfl
 pos:=Ar 1
 flat _:=rfl
 sc _:=rfl
 back _:=rfl
instance : Xx Bool where
 w:=1
 d:=false
 cells x:=[.bool x]
 of l:=oOf (l.getD 0 .undef)
 len _:=rfl
 pos:=Ar 1
 flat _:=rfl
 sc _:=rfl
 back _:=rfl
structure R2 where
 (a b:Int)
 deriving DecidableEq
structure R3 where
 (a b c:Int)
 deriving DecidableEq
structure R4 where
 (a b c d:Int)
 deriving DecidableEq
structure R6 where
 (a b c d e f:Int)
 deriving DecidableEq
instance : Xx R2 where
 w:=2
 d:=⟨0,0⟩
 cells x:=[.int .i64 x.a,.int .i64 x.b]
 of l:=⟨iOf (l.getD 0 .undef),iOf (l.getD 1 .undef)⟩
 len _:=rfl
 pos:=by decide
 flat _:=rfl
 sc _:=rfl
 back _:=rfl
instance : Xx R3 where
 w:=3
 d:=⟨0,0,0⟩
 cells x:=[.int .i64 x.a,.int .i64 x.b,.int .i64 x.c]
 of l:=⟨iOf (l.getD 0 .undef),iOf (l.getD 1 .undef),iOf (l.getD 2 .undef)⟩
 len _:=rfl
 pos:=by decide
 flat _:=rfl
 sc _:=rfl
 back _:=rfl
instance : Xx R4 where
 w:=4
 d:=⟨0,0,0,0⟩
 cells x:=[.int .i64 x.a,.int .i64 x.b,.int .i64 x.c,.int .i64 x.d]
 of l:=⟨iOf (l.getD 0 .undef),iOf (l.getD 1 .undef),iOf (l.getD 2 .undef),iOf (l.getD 3 .undef)⟩
 len _:=rfl
 pos:=by decide
 flat _:=rfl
 sc _:=rfl
 back _:=rfl
instance : Xx R6 where
 w:=6
 d:=⟨0,0,0,0,0,0⟩
 cells x:=[.int .i64 x.a,.int .i64 x.b,.int .i64 x.c,.int .i64 x.d,.int .i64 x.e,.int .i64 x.f]
 of l:=⟨iOf (l.getD 0 .undef),iOf (l.getD 1 .undef),iOf (l.getD 2 .undef),iOf (l.getD 3 .undef),iOf (l.getD 4 .undef),iOf (l.getD 5 .undef)⟩
 len _:=rfl
 pos:=by decide
 flat _:=rfl
 sc _:=rfl
 back _:=rfl
theorem v9e {p:AVal→Bool} {l:List AVal} (h:l.all p=true) (n:Nat):(l.take n).all p=true:=At.2 fun x hx=>At.1 h x (Cj hx)
theorem v9f {p:AVal→Bool} {l:List AVal} (h:l.all p=true) (n:Nat):(l.drop n).all p=true:=At.2 fun x hx=>At.1 h x (List.mem_of_mem_drop hx)
section
variable {α:Type} [Xx α]
def rd (L:List α) (k:Nat):α:=L.getD k Xx.d
def Zz (L:List α):Nat→List AVal:=fun k=>Xx.cells (rd L k)
def lst (α:Type) [Xx α] (n:Nat) (g:Nat→List AVal):List α:=(List.range n).map fun k=>Xx.of (g k)
def isT (α:Type) [Xx α] (n:Nat) (g:Nat→List AVal):Bool:=pd (∀i,i<n→g i=Xx.cells (Xx.of (g i):α))
theorem Yi {L:List α} {k:Nat} (h:k<L.length):rd L k=L[k]:=by unfold rd;rw [Bv,Ao h];rfl
theorem Jo {L M:List α} {k:Nat} (h:k<L.length):rd (L++M) k=rd L k:=by unfold rd;rw [Bv,Bv,Bx h]
theorem Jv {L M:List α} {k:Nat} (h:L.length≤k):rd (L++M) k=rd M (k - L.length):=by unfold rd;rw [Bv,Bv,BO h]
theorem Zq (L:List α):lst α L.length (Zz L)=L:=by
 apply Cl
 ·simp [lst]
 ·intro i h1 h2;simp only [lst,B5,List.getElem_range,Zz];rw [Xx.back,Yi h2]
def cvT (L:List α):List α:=lst α L.length (Zz L)
theorem Zg (L:List α):cvT L=L:=Zq L
theorem y1r (n:Nat) (g:Nat→List AVal):(lst α n g).length =n:=by simp [lst]
theorem u3w (L:List α) {off n:Nat} (h:off+n≤L.length):lst α n (fun k=>Zz L (off+k))=(L.drop off).take n:=by
 apply Cl
 ·simp [lst];omega
 ·intro i h1 h2;simp only [lst,B5,List.getElem_range,Zz];have:off+i<L.length:=by simp at h2;omega
  rw [Xx.back,Yi this,Bf,List.getElem_drop]
theorem y5n (L:List α) (n:Nat):isT α n (Zz L)=true:=Ys fun i _=>by simp only [Zz];rw [Xx.back]
theorem x7d (L:List α) (off n:Nat):isT α n (fun k=>Zz L (off+k))=true:=Ys fun i _=>by simp only [Zz];rw [Xx.back]
theorem w6l (g:Nat→List AVal):isT α 0 g=true:=Ys fun i h=>absurd h (AO _)
theorem u4d (g:Nat→List AVal) (h0:g 0=Xx.cells (Xx.of (g 0):α)):isT α 1 g=true:=Ys fun i h=>by
 obtain rfl:i=0:=by omega
 exact h0
theorem u4c (g:Nat→List AVal) (h0:g 0=Xx.cells (Xx.of (g 0):α)) (h1:g 1=Xx.cells (Xx.of (g 1):α)):isT α 2 g=true:=Ys fun i h=>by
 rcases (show i=0∨i=1 by omega) with rfl | rfl
 ·exact h0
 ·exact h1
theorem w6m {n:Nat} {g:Nat→List AVal} (h:isT α n g=true): ∀i,i<n→g i=Zz (lst α n g) i:=fun i hi=>by rw [Jy h i hi];unfold Zz;rw [Yi (by rw [y1r];exact hi)];simp [lst]
theorem Xa (L:List α):z1g (Zz L)=true:=Ys fun _=>Xx.flat _
theorem v1e {sz:Nat} (L:List α) (n:Nat) (h:sz=Xx.w α):x4m sz n (Zz L)=true:=Ys fun _ _=>⟨by rw [h];exact Xx.len _,Xx.sc _⟩
theorem v1f {sz:Nat} (L:List α) (off n:Nat) (h:sz=Xx.w α):x4m sz n (fun k=>Zz L (off+k))=true:=Ys fun _ _=>⟨by rw [h];exact Xx.len _,Xx.sc _⟩
theorem w3j {sz N off m:Nat} {G:Nat→List AVal} (h:x4m sz N G=true) (hb:decide (off+m≤N)=true):x4m sz m (fun k=>G (off+k))=true:=Ys fun i hi=>by have hb:=AA hb;exact Jy h (off+i) (by omega)
theorem v8g {sz n N m:Nat} {G:Nat→List AVal} {cells:List AVal} (h:x4m sz n G=true) (hN:N=n+m) (hc:cells.length=m*sz) (hs:cells.all y1u=true):x4m sz N (Zr G 0 n sz cells)=true:=Ys fun i hi=>by
 unfold Zr;by_cases e:n≤i
 ·rw [v8x e,Ab];have:(i - n)*sz+sz≤m*sz:=by have:=AH sz (show i - n+1≤m by omega);rwa [AR,BI] at this
  exact ⟨by rw [AZ,BM,hc];omega,v9e (v9f hs _) _⟩
 ·rw [u5j e,Aa,Ag];exact Jy h i (by omega)
theorem w5b {L M:List α} {n N sz:Nat} {G:Nat→List AVal} {cells:List AVal} (h:Kf n G (Zz L)=true) (hn:n=L.length) (hN:N=n+M.length) (hsz:sz=Xx.w α) (hc:cells=(M.map Xx.cells).flatten):Kf N (Zr G 0 n sz cells) (Zz (L++M))=true:=by
 subst hn;refine v4d M.length h hN (fun i hi=> ?_) fun i hi=> ?_
 ·simp only [Zz];rw [Jo hi]
 ·subst hc;rw [y2g _ _ (fun x hx=>by obtain ⟨y,_,rfl⟩:=AQ.1 hx;rw [Xx.len,hsz]) (by simpa using hi)];simp only [Zz];rw [Jv (BJ _ _),Nat.add_sub_cancel_left,Yi hi];rw [Bv,List.getElem?_map,Ao hi];rfl
theorem u8z {L:List α} {r k:Nat} {y:α} (hk:k<L.length):rd (L.set r y) k=if k=r then y else rd L k:=by
 rw [Yi (by simpa using hk),Yi hk,List.getElem_set];by_cases e:r=k
 ·subst e;simp
 ·rw [Ay e,Ay fun q=>e q.symm]
theorem w5a {L:List α} {n r fo:Nat} {G:Nat→List AVal} {cs:List AVal} {y:α} (h:Kf n G (Zz L)=true) (hn:n=L.length) (hy:Xx.cells y=(Xx.cells (rd L r)).take fo++cs++(Xx.cells (rd L r)).drop (fo+cs.length)):Kf n (Xr G r fo cs) (Zz (L.set r y))=true:=by
 subst hn;refine Ys fun i hi=> ?_;unfold Xr;simp only [Zz];rw [u8z hi];cases e:Nat.beq i r with
 | true=>have:=Ak e;subst this;rw [Ab,AC rfl,Jy h i hi,hy];rfl
 | false=>
  have:i≠r:=fun q=>by rw [q,B3] at e;cases e
  rw [Aa,Ay this,Jy h i hi];rfl
theorem u1e {n:Nat} {cs:List AVal} {y:α} {G:Nat→List AVal} (hG:G=fun _=>cs) (hy:Xx.cells y=cs):Kf n G (Zz (List.replicate n y))=true:=Ys fun i hi=>by rw [hG];simp only [Zz];rw [Yi (by simpa using hi),List.getElem_replicate,hy]
theorem v4b {L M:List α} {n m N:Nat} {G H:Nat→List AVal} (h:Kf n G (Zz L)=true) (hn:n=L.length) (h':Kf m H (Zz M)=true) (hN:N=n+m):Kf N (Jm G n H) (Zz (L++M))=true:=by
 subst hn;refine Ys fun i hi=> ?_;unfold Jm;by_cases e:L.length≤i
 ·rw [v8x e,Ab,Jy h' _ (by omega)];simp only [Zz];rw [Jv e]
 ·rw [u5j e,Aa,Jy h i (by omega)];simp only [Zz];rw [Jo (by omega)]
def lenR (n:Nat) (g:Nat→List AVal) (sz:Nat):Bool:=pd (∀i,i<n→(g i).length =sz)
theorem v6r {sz:Nat} (L:List α) (n:Nat) (h:sz=Xx.w α):lenR n (Zz L) sz=true:=Ys fun _ _=>by rw [h];exact Xx.len _
theorem v0k {sz n:Nat} {L:List α} {off:Nat} (h:sz=Xx.w α):lenR n (fun k=>Zz L (off+k)) sz=true:=Ys fun _ _=>by rw [h];exact Xx.len _
def Kd (L:List α) (off n:Nat):List α:=(List.range n).map fun k=>rd L (off+k)
theorem z5l (L:List α) (off n:Nat):(Kd L off n).length =n:=by simp [Kd]
theorem x3r {L:List α} {off n k:Nat} (h:k<n):rd (Kd L off n) k=rd L (off+k):=by rw [Yi (by rw [z5l];exact h)];simp [Kd]
theorem w8s {L:List α} {N off n:Nat} {G:Nat→List AVal} (h:Kf N G (Zz L)=true) (hb:decide (off+n≤N)=true):Kf n (fun k=>G (off+k)) (Zz (Kd L off n))=true:=Ys fun i hi=>by have hb:=AA hb;simp only [Zz];rw [x3r hi,Jy h _ (by omega)];rfl
theorem w8r {L:List α} {off n:Nat}:Kf n (fun k=>Zz L (off+k)) (Zz (Kd L off n))=true:=Ys fun i hi=>by simp only [Zz];rw [x3r hi]
theorem Uu (L:List α):lst α L.length (fun k=>Zz L (0+k))=L:=by
 have:=Zq L
 simpa only [Ag] using this
theorem v6q (L:List α) (off n:Nat):lst α n (fun k=>Zz L (off+k))=Kd L off n:=by simp only [lst,Kd,Zz,Xx.back]
theorem u4e (L:List Int):isI (Zz L)=true:=Ys rfl
theorem Kv (L:List Int):Ye L.length (cOf (Zz L))=L:=Zq L
def v8l (L:List α) (off n:Nat) (M:List α):List α:=(List.range L.length).map fun k=>bif Nat.ble off k&&Nat.ble (k+1) (off+n) then rd M (k - off) else rd L k
theorem Ku (L:List α) (off n:Nat) (M:List α):(v8l L off n M).length =L.length:=by simp [v8l]
theorem v5k {L M:List α} {off n k:Nat} (h:k<L.length):rd (v8l L off n M) k=bif Nat.ble off k&&Nat.ble (k+1) (off+n) then rd M (k - off) else rd L k:=by rw [Yi (by rw [Ku];exact h)];simp [v8l]
theorem u1g {L M:List α} {N off n m:Nat} {G H:Nat→List AVal} (h:Kf N G (Zz L)=true) (hN:N=L.length) (h':Kf m H (Zz M)=true) (hm:n≤m):Kf N (Jp G off n H) (Zz (v8l L off n M))=true:=by
 subst hN;refine Ys fun i hi=> ?_;unfold Jp;simp only [Zz];rw [v5k hi];cases e:(Nat.ble off i&&Nat.ble (i+1) (off+n)) with
 | true=>simp only [Ac] at e;have e1:=Al e.1;have e2:=Al e.2;rw [Ab,Ab,Jy h' _ (by omega)];rfl
 | false=>rw [Aa,Aa,Jy h i hi];rfl
theorem v7j {g h:Nat→List AVal} {off n:Nat} (p:z1g g=true) (q:z1g h=true):z1g (Jp g off n h)=true:=Ys fun i=>by
 unfold Jp;cases (Nat.ble off i&&Nat.ble (i+1) (off+n)) with
 | true=>exact Jy q _
 | false=>exact Jy p _
end
theorem Ve {P:Program} {rs:List ResultVar} {σ:Type} {cfg:σ→Cfg} {C C':Cfg} (g:y3q P C C'): ∀{o:Xu σ},Xq P rs cfg C' o→Xq P rs cfg C o
 | .stuck,_=>trivial
 | .ret _,⟨D,h,h2,h3⟩=>⟨D,g.trans h,h2,h3⟩
 | .to _,h=>g.trans h
theorem w6w : ∀{az bs:List AVal} (i:Nat) {t u:T AVal},Vj VLe az bs→ELe t u→ELe (y2c az i t) (y2c bs i u)
 | _,_,i,t,u,.nil,h=>h
 | _,_,i,t,u,.cons (a:=a) (b:=b) h1 h2,h=>by
  refine w6w (i+1) h2 fun s=> ?_;rw [T.get_set,T.get_set];by_cases e:s=i
  ·rw [AC e,AC e];exact ⟨fun ρ v hv=>h1.sound hv,fun q=>by subst q;exact h1.of_undef⟩
  ·rw [Ay e,Ay e];exact h s
theorem x7p {P:Program} {f:FuncId} {az bs:List AVal} {vs:List AVal} (h:Vj VLe az bs) (k:Jx P (Zy P f) (Zb P f bs true []) vs):Jx P (Zy P f) (Zb P f az true []) vs:=by
 obtain ⟨C',g,h2,h3⟩:=k;refine ⟨C',y3q.trans ?_ g,h2,h3⟩;unfold Zb;cases P.funcs[f]? with
 | none=>exact y3q.refl _
 | some fn=>simp only;rw [h.length];exact y1y (w6w 0 h (ELe.refl _)) .nil (fun b x' hb=>absurd hb (AO _)) (Ar _) fun hbd b hb=>hbd b hb
theorem w7m {P:Program} {S:Specs} (hS:Zu P S) {f:FuncId} {F:List AVal→Option (AVal×Bool)} (hf:(P.funcs[f]?).any (fun fn=>fn.body.isSome)=true)
  (hF: ∀args v,F args=some (v,true)→ ∃bs vs,Vj VLe args bs∧z0h vs=v∧Jx P (Zy P f) (Zb P f bs true []) vs∧ ∃d,pf d v=true):Zu P (S.with f F):=
 v2h hS hf fun args v h=>by obtain ⟨bs,vs,h1,h2,h3,d,h4⟩:=hF args v h;exact ⟨vs,h2,x7p h1 h3,d,h4⟩
def asL (α:Type) [Xx α]:AVal→Option (List α×(Nat→List AVal)×Nat)
 | .nils =>some ([],fun _=>[],0)
 | .dat n g=>some (lst α n g,g,n)
 | _=>none
theorem Yh {α:Type} [Xx α] {v:AVal} {L:List α} {g:Nat→List AVal} {n:Nat} (h:asL α v=some (L,g,n)) (ho:isT α n g=true):VLe v (.dat L.length (Zz L)):=by
 unfold asL at h;split at h
 ·simp only [Ae,Ad] at h;obtain ⟨rfl,_,_⟩:=h;exact .nild _
 ·simp only [Ae,Ad] at h;obtain ⟨rfl,rfl,rfl⟩:=h;rw [y1r];exact .dat _ _ _ (w6m ho)
 ·cases h
open Go.ChangeShapes Go.WideShapes Go.Deep
section
variable {P:Program}
def x4c (P:Program) (rec:TypeId→Option (List IntKind)):List Field→Nat→Option (List IntKind)
 | [],_=>some []
 | f::r,o=>bif Nat.beq f.offset o then match rec f.type with
   | some ks=>bif Nat.beq (P.cellsOf f.type) ks.length then (x4c P rec r (o+ks.length)).map (ks++ ·) else none
   | none=>none
  else none
def y7n (P:Program):Nat→TypeId→Option (List IntKind)
 | 0,_=>none
 | d+1,t=>match P.underlying t with
  | some (.int k)=>some [k]
  | some (.struct fs)=>match x4c P (y7n P d) fs.toList 0 with
   | some ks=>bif Nat.beq (P.cellsOf t) ks.length then some ks else none
   | none=>none
  | _=>none
def u5p (ks:List IntKind) (cs:List Value):Prop:= ∃ns:List Int,ns.length=ks.length∧cs=List.zipWith Value.int ks ns∧ ∀p∈List.zip ks ns,p.1.has p.2
theorem u5p.append {a b:List IntKind} {x y:List Value} (h:u5p a x) (k:u5p b y):u5p (a++b) (x++y):=by
 obtain ⟨ns,h1,rfl,h3⟩:=h;obtain ⟨ms,k1,rfl,k3⟩:=k;refine ⟨ns++ms,by simp [h1,k1],?_,fun p hp=> ?_⟩
 ·rw [List.zipWith_append h1.symm]
 ·rw [List.zip_append h1.symm,AF] at hp;rcases hp with hp | hp
  ·exact h3 p hp
  ·exact k3 p hp
theorem u5p.length {ks:List IntKind} {cs:List Value} (h:u5p ks cs):cs.length=ks.length:=by obtain ⟨ns,h1,rfl,_⟩:=h;simp [h1]
variable {HH:Type} {enc:TypeId×Value→HH} {w:World} {base:Nat} {spare:Nat→Bool} {held:Bool}
theorem y3a {rec:TypeId→Option (List IntKind)} (hr: ∀t ks,rec t=some ks→ ∀fuel cs x,DataW.trod enc P w base spare held fuel t cs=some x→u5p ks cs) (cs:List Value):
  ∀(l:List Field) (o:Nat) (ks:List IntKind),x4c P rec l o=some ks→o+ks.length≤cs.length→(∀f∈l,∃fuel x,DataW.trod enc P w base spare held fuel f.type ((cs.drop f.offset).take (P.cellsOf f.type))=some x)→u5p ks ((cs.drop o).take ks.length)
 | [],o,ks,h,_,_=>by obtain rfl:=Af h;exact ⟨[],rfl,by simp,by simp⟩
 | f::r,o,ks,h,hl,hf=>by
  unfold x4c at h;obtain ⟨ho,h⟩:=Zs h;obtain rfl:=Ak ho;split at h
  ·rename_i ks1 h1;obtain ⟨hc,h⟩:=Zs h;have hc:=Ak hc;simp only [Aq] at h;obtain ⟨ks2,h2,rfl⟩:=h;obtain ⟨fuel,x,hx⟩:=hf f (by simp);have i1:=hr _ _ h1 _ _ _ hx;rw [hc] at i1;rw [Aw] at hl;have i2:=y3a hr cs r _ ks2 h2 (by omega) fun g hg=>hf g (by simp [hg]);have:(cs.drop f.offset).take (ks1++ks2).length =(cs.drop f.offset).take ks1.length++(cs.drop (f.offset+ks1.length)).take ks2.length:=by rw [Aw,List.take_add,List.drop_drop]
   rw [this];exact i1.append i2
  ·cases h
theorem z3y : ∀(d:Nat) (t:TypeId) (ks:List IntKind),y7n P d t=some ks→ ∀(fuel:Nat) (cs:List Value) (x:DataW HH×List MemPlace),DataW.trod enc P w base spare held fuel t cs=some x→u5p ks cs
 | 0,_,_,h=>by cases h
 | d +1,t,ks,h=>by
  intro fuel cs x hx;unfold y7n at h;split at h
  ·rename_i k hk;obtain rfl:=Af h;obtain ⟨m,rfl,_,hw⟩:=DataW.trod_int hk hx;refine ⟨[m],rfl,rfl,fun p hp=> ?_⟩;obtain rfl:p=(k,m):=by simpa using hp
   simpa [Lit.wf,IntKind.has] using hw
  ·rename_i fs hs;split at h
   ·rename_i ks1 h1;obtain ⟨hc,h⟩:=Zs h;obtain rfl:=Af h;have hc:=Ak hc;obtain ⟨xs,n,_,_,hl,dR,hf⟩:=DataW.trod_struct hs hx;have hl:cs.length=ks1.length:=hl.trans hc;have:=y3a (fun t ks ht fuel cs x hx=>z3y d t ks ht fuel cs x hx) cs fs.toList 0 ks1 h1 (by omega) fun f hf'=>by
     obtain ⟨j,hj,rfl⟩:=AS hf';have hj2:j<fs.size:=(by simpa using hj);have:=hf j fs[j] (by simp [hj2]);refine ⟨n,xs[j]'(by omega),?_⟩
     simpa [dR,hj2] using this
    rwa [AX,AP (by omega)] at this
   ·cases h
  ·cases h
def y9h (ks:List IntKind) (c:Nat→Int):List AVal:=List.zipWith AVal.int ks ((List.range ks.length).map c)
theorem v4q (ks:List IntKind) (c:Nat→Int) (j:Nat) (h:j<(y9h ks c).length): ∃hk:j<ks.length,(y9h ks c)[j]=.int ks[j] (c j):=by
 have hk:j<ks.length:=by simpa [y9h] using h
 exact ⟨hk,by simp [y9h]⟩
theorem u5e {e:TypeId} {ks:List IntKind} (hk:y7n P 30 e=some ks) {blk off len cap m fl:Nat} {D:Nat→DataW HH} {Pl:Nat→List MemPlace} (hl:len≤cap) (hlm:len≤m)
  (hi: ∀i,i<m→ ∃cs',w.cells? base ((⟨blk,off,none⟩:Addr).add (i*P.cellsOf e)) (P.cellsOf e)=some cs'∧DataW.trod enc P w base spare held fl e cs'=some (D i,Pl i)):
  ∃c:Nat→Nat→Int,Yw (z2w fun k=>w.heap[k]?) (.dat len (fun i=>y9h ks (c i))) (.slice (some ⟨blk,off,none⟩) len cap)∧ ∀i,i<len→ ∀(j:Nat) (k:IntKind),ks[j]? =some k→k.has (c i j):=by
 have key: ∀i,i<len→ ∃ns:List Int,ns.length=ks.length∧(∀j,j<ks.length→ ∃k,ks[j]? =some k∧w.cell? ⟨blk,off+(i*ks.length+j),none⟩=some (.int k (ns.getD j 0))∧k.has (ns.getD j 0)):=by
  intro i hil;obtain ⟨cs',hc',ht'⟩:=hi i (by omega);have I:=z3y 30 e ks hk _ _ _ ht';obtain ⟨_,dR,eL⟩:=World.cells?_some hc';have hce:P.cellsOf e=ks.length:=by rw [←dR];exact I.length
  obtain ⟨ns,n1,n2,n3⟩:=I;refine ⟨ns,n1,fun j hj=> ?_⟩;have hj2:j<ns.length:=by omega
  refine ⟨ks[j],by simp [hj],?_,?_⟩
  ·have:=eL j (by omega);rw [hce] at this;simp only [Xb] at this;rw [show off+i*ks.length+j=off+(i*ks.length+j) by omega] at this;rw [this,n2];simp [List.getElem?_zipWith,hj,hj2]
  ·have:(ks[j],ns[j])∈List.zip ks ns:=by rw [List.mem_iff_getElem];exact ⟨j,by rw [List.length_zip];omega,by simp⟩
   have:=n3 _ this
   simpa [hj2] using this
 let c:Nat→Nat→Int:=fun i j=>if hil:i<len then ((key i hil).choose).getD j 0 else 0
 have hcs: ∀i,i<len→ ∀j,j<ks.length→ ∃k,ks[j]? =some k∧w.cell? ⟨blk,off+(i*ks.length+j),none⟩=some (.int k (c i j))∧k.has (c i j):=by intro i hil j hj;have:=(key i hil).choose_spec.2 j hj;simp only [c,hil,dif_pos];exact this
 refine ⟨c,.dat len _ blk off ks.length cap (fun i j=>.int (ks.getD j .i64) (c i j)) hl (fun i _=>by simp [y9h]) (fun i j hil hj=> ?_) (fun i j hil hj=> ?_),fun i hil j k hkj=> ?_⟩
 ·obtain ⟨hk2,e2⟩:=v4q ks (c i) j hj;rw [e2];have:ks.getD j .i64 =ks[j]:=by simp [hk2]
  rw [this];exact .int _ _
 ·obtain ⟨k,e1,e2,_⟩:=hcs i hil j hj;have:ks.getD j .i64 =k:=by simp [e1]
  rw [this];unfold World.cell? at e2;split at e2
  ·rename_i cl el fz hb2;simp only [Option.isSome_none,Bool.false_eq_true,Cr] at e2;exact ⟨cl,el,fz,hb2,e2⟩
  ·cases e2
 ·have hj:j<ks.length:=(Be.1 hkj).1;obtain ⟨k',e1,_,e3⟩:=hcs i hil j hj;rw [hkj] at e1;obtain rfl:=Af e1;exact e3
end
open Go.Proofs.Tryz
open Go.Proofs
def namedB (P:Program):Bool:=P.funcs.toList.all fun fn=>fn.body.isNone|| !(fn.name == "runtime.NumGoroutine")
theorem u3o {P:Program} (h:namedB P=true):y0s P:=by
 intro f fn hf hb;have hm:fn∈P.funcs.toList:=by rw [A8];exact Array.mem_of_getElem? hf
 have:=At.mp h fn hm;cases hbb:fn.body with
 | none=>rw [hbb] at hb;cases hb
 | some b=>simpa [hbb] using this
theorem named :y0s prog:=u3o (by kernel_rfl)
theorem mixed :prog.follows .mixedOrders =true:=by kernel_rfl
end Go.Am
namespace Go.Am
open IntKind (wrap)
open Go.Proofs.Tryz
open Go.Proofs
instance {α :Type} [Xx α]:Xx (List α) where
 w:=1
 d:=[]
 cells l:=[.dat l.length (Zz l)]
 of cs:=match cs.getD 0 .undef with
  | .dat n g=>lst α n g
  | _=>[]
 len _:=rfl
 pos:=Ar 1
 flat _:=rfl
 sc _:=rfl
 back l:=Zq l
theorem x9s {α:Type} [Xx α] {L:List α} {n off sz:Nat} {cells:List AVal} (hn:n=L.length) (hsz:sz=Xx.w α) (hc:(cells.drop off).take (n*sz)=(L.map Xx.cells).flatten):Kf n (y9k cells off sz) (Zz L)=true:=Ys fun i hi=>by
 have e:((((cells.drop off).take (n*sz)).drop (i*sz)).take sz)=(cells.drop (off+i*sz)).take sz:=by rw [List.drop_take,List.take_take,List.drop_drop,Nat.min_eq_left];have:=AH sz (show i+1≤n by omega);rw [AR,BI] at this;omega
 have h:=y2g (sz:=sz) (L.map Xx.cells) i (fun x hx=>by obtain ⟨y,_,rfl⟩:=AQ.1 hx;rw [Xx.len,hsz]) (by simpa using by omega);unfold y9k;rw [←e,hc,h];simp only [Zz];rw [Yi (show i<L.length by omega),Bv,List.getElem?_map,Ao (show i<L.length by omega)];rfl
theorem u1f {G H:Nat→List AVal} (h:G 0=H 0):Kf 1 G H=true:=Ys fun i hi=>by
 obtain rfl:i=0:=by omega
 exact h
theorem v0v {L:List AVal} (s t:Nat) (h:L.all (pf 6)=true):z1g (fun k=>(L.drop (k*s)).take t)=true:=Ys fun i=>
 At.2 fun v hv=>At.1 h v (List.mem_of_mem_drop (Cj hv))
structure OB where
 b:Bool
 h:b=true
def nn :OB:=⟨true,rfl⟩
def pp (q r:OB):OB:=⟨q.b&&r.b,y7b q.h r.h⟩
def tt {c v:Bool} (k:c=v) (r:OB):OB:=⟨(c == v)&&r.b,y7b (v5w k) r.h⟩
def ww {c:Bool} (k:c=true) (r:OB):OB:=⟨c&&r.b,y7b k r.h⟩
def fl {α:Type} [Xx α] (L:List α) (r:OB):OB:=⟨z1g (Zz L)&&r.b,y7b (Xa L) r.h⟩
theorem v1n {a b:Int} (k:(a == b)=false):((a != b) == true)=true:=by unfold bne;rw [k];rfl
def yt {c:Bool} (k:c=true) (r:OB):OB:=⟨c&&r.b,y7b k r.h⟩
def xw {c:Bool} (k:c=true):OB:=⟨c,k⟩
def xI (α:Type) [Xx α] (n:Nat) (g:Nat→List AVal) (h:isT α n g=true:=by first | with_reducible exact y5n _ _ | exact y5n _ _ | exact w6l _ | exact x7d _ _ _ | assumption | exact u4d _ rfl | exact u4c _ rfl rfl):OB:=⟨isT α n g,h⟩
def xr {α:Type} [Xx α] (L:List α):OB:=⟨isT α L.length (Zz L),y5n L _⟩
def xL (a b:Nat) (h:x4b a b=true:=by first | exact Uz rfl | exact Uz (by simp only [Aw,AU,Bs,List.length_set,Ku,z5l,List.length_replicate] <;> omega) | assumption):OB:=⟨x4b a b,h⟩
def xS (n:Nat) (G H:Nat→List AVal) (h:Kf n G H=true:=by
  repeat' (first | exact x3g _ _ | assumption | exact v4a _ _ | exact u1f rfl | exact w8r | exact x9s rfl rfl rfl | rfl | (refine w5b ?_ ?_ rfl rfl rfl) | (refine w5a ?_ ?_ rfl) | (refine u1g ?_ ?_ ?_ (Nat.min_le_left _ _)) | exact w8s (by repeat' (first | exact x3g _ _ | (refine w5b ?_ ?_ rfl rfl rfl) | (refine w5a ?_ ?_ rfl) | (simp only [Aw,AU,Bs,List.length_set,Ku];done) | omega)) (by assumption) | (refine v4b ?_ ?_ ?_ rfl) | exact v4c (x3g _ _) rfl | apply x9r | exact u1e rfl rfl | exact Ag _ | (simp only [Aw,AU,Bs,List.length_set,Ku,z5l,List.length_replicate] <;> omega))):OB:=⟨Kf n G H,h⟩
def xF (G:Nat→List AVal) (h:z1g G=true:=by
  repeat' (first | with_reducible exact Xa _ | apply v7l | apply v7i | apply v7k | apply v7j | exact Xa _ | exact v0w | exact w3b _ _ | exact v0v _ _ rfl | apply y7y | rfl | assumption)):OB:=⟨z1g G,h⟩
def xZ (v:AVal) (n:Nat) (g:Nat→List AVal) (h:v7e v n g=true:=by first | exact u4l _ _ _ | exact v7d _ _):OB:=⟨v7e v n g,h⟩
def xG (c:Bool) (h:c=true:=by
  repeat' (first | with_reducible (first | assumption | exact B3 _ | exact x6s _ | exact u3n _ | exact v6b _ | exact u4z _ | exact v6d _ | apply y7b | apply v5w) | rfl | exact u4e _ | exact v1e _ _ rfl | exact v1f _ _ _ rfl | exact v6r _ _ rfl | exact v0k rfl | exact u1q rfl rfl (fun _=>rfl) | (refine w3j ?_ (by assumption)) | (refine v8g ?_ rfl rfl rfl) | exact y5n _ _ | exact w6l _ | exact x7d _ _ _ | exact Xa _ | apply y7y | apply y7b | apply v5w)):OB:=⟨c,h⟩
def kpB (n:Nat) (l:List BP):List BP:=Nat.rec l (fun _ r=>.keep ::r) n
abbrev tn (n:Int):Nat:=Int.toNat n
abbrev ii (n:Int):AVal:=.int .i64 n
abbrev wr (n:Int):Int:=wrap .i64 n
def trs (n:Nat) (l:List Bool):List Bool:=Nat.rec l (fun _ r=>true::r) n
theorem sl {S:Specs} (hS:Zu prog S) (n:Nat) (gs:List (TypeId×Nat×(Nat→List AVal))) (N:y0v) (L:Less) (orc:List Bool) (ob:OB) {C C':Cfg}
  (h:(((u4b prog S (j3b prog S 100000 4) n (C.withO orc)).map (w6p gs)).bind (u3j prog N)).map (v0j L)=some (C'.withB ob.b):=by kernel_rfl) (hfl:fl0 C=true:=by rfl):y3q prog C C':=
 u0d named mixed hS gs N L orc ob.b h ob.h hfl
def rC (n f:Nat) (p:List Nat) (j r:Nat) (env:List (Nat×AVal)):Cfg:=⟨⟨n,0,true⟩,none,Zc prog f p j,none,Zy prog r,⟨Ya env,Vd [] 0,0,[],true⟩,[],.leaf⟩
theorem lr {σ:Type} {cfg:σ→Cfg} {C:Cfg} {rs:List ResultVar} {vs:List AVal} (n f:Nat) (p:List Nat) (j r:Nat) (env:List (Nat×AVal)) (h:y3q prog C (rC n f p j r env)) (hf:z7a (rC n f p j r env)=true:=by rfl)
  (hr:Qz prog (rC n f p j r env).st rs=some vs:=by kernel_rfl):Xq prog rs cfg C (.ret vs):=Ko _ h hf hr
theorem lb {rs:List ResultVar} {σ:Type} {cfg:σ→Cfg} {C:Cfg} {c:Bool} {a b:Xu σ} (ha:c=true→Xq prog rs cfg C a) (hb:c=false→Xq prog rs cfg C b):Xq prog rs cfg C (bif c then a else b):=w6i ha hb
theorem lo {rs:List ResultVar} {σ:Type} {cfg:σ→Cfg} {C:Cfg} {c:Bool} {a:Xu σ} (ha:c=true→Xq prog rs cfg C a):Xq prog rs cfg C (bif c then a else .stuck):=u3z ha
end Go.Am
end
