/- A part of a proof: several texts in one. -/
import Derived.Test.YtmanggcjimaehaaGreatLg5
set_option maxRecDepth 1000000
set_option maxHeartbeats 8000000
set_option linter.unusedVariables false
set_option linter.unusedSimpArgs false
noncomputable section
namespace Go.Am
open IntKind (wrap)
open Go.Proofs Go.Sort Go.Shelf Go.RowKit Go.Lib
def Ax.inB (q:Ax) (r:R6) (p u v:Int):Prop:=(q.lo r≤p∧p<q.hi r)∧((q.rc r).a ≤u∧u<(q.rc r).c)∧((q.rc r).b ≤v∧v<(q.rc r).d)
def Ax.inL (q:Ax) (L:List R6) (p u v:Int):Prop:= ∃r∈L,q.inB r p u v
theorem v6o (l:List R4) (u v:Int):ptL Xt.inB l (u,v)↔ ∃r∈l,(r.a≤u∧u<r.c)∧(r.b≤v∧v<r.d):=by
 constructor
 ·rintro ⟨r,hr,h1,h2,h3,h4⟩;exact ⟨r,hr,⟨h1,h2⟩,h3,h4⟩
 ·rintro ⟨r,hr,⟨h1,h2⟩,h3,h4⟩;exact ⟨r,hr,h1,h2,h3,h4⟩
theorem y0q (q:Ax) (L:List R6) (p u v:Int):ptL Xt.inB (z1k q L p) (u,v)↔q.inL L p u v:=by
 rw [v6o];constructor
 ·rintro ⟨s,hs,h⟩;obtain ⟨r,hr,rfl⟩:=AN.1 hs;obtain ⟨h1,h2⟩:=A0.1 hr;simp only [Ac,Aq] at h2;exact ⟨r,h1,h2,h⟩
 ·rintro ⟨r,hr,h1,h2⟩;exact ⟨q.rc r,AN.2 ⟨r,A0.2 ⟨hr,by simp only [Ac,Aq];exact h1⟩,rfl⟩,h2⟩
theorem Ax.val (q:Ax) {r:R6} (h:Qu r=true):Vp (q.rc r)=true∧q.lo r<q.hi r∧ -1000000≤q.lo r∧q.hi r≤1000000:=by
 have:=z6u h;cases q
 ·refine ⟨?_,by show r.a<r.d;omega,by show _≤r.a;omega,by show r.d≤_;omega⟩;show Vp ⟨r.b,r.c,r.e,r.f⟩=true;simp only [Vp,Ac,Aq]
  (repeat' apply And.intro) <;> omega
 ·refine ⟨?_,by show r.b<r.e;omega,by show _≤r.b;omega,by show r.e≤_;omega⟩;show Vp ⟨r.a,r.c,r.d,r.f⟩=true;simp only [Vp,Ac,Aq]
  (repeat' apply And.intro) <;> omega
 ·refine ⟨?_,by show r.c<r.f;omega,by show _≤r.c;omega,by show r.f≤_;omega⟩;show Vp ⟨r.a,r.b,r.d,r.e⟩=true;simp only [Vp,Ac,Aq]
  (repeat' apply And.intro) <;> omega
theorem x8x (q:Ax) {L:List R6} (hv: ∀r∈L,Qu r=true) (p:Int): ∀s∈z1k q L p,Vp s=true:=fun s hs=>by obtain ⟨r,hr,rfl⟩:=AN.1 hs;exact (q.val (hv r (A0.1 hr).1)).1
theorem x8y (q:Ax) (L:List R6) (p:Int):(z1k q L p).length ≤L.length:=by unfold z1k;rw [A3];exact BN _ _
theorem z1b {l:List R4} (hc:Xt.can l) (hb: ∀u v,ptL Xt.inB l (u,v)→(-1000000≤u∧u<1000000)∧(-1000000≤v∧v<1000000)): ∀r∈l,Vp r=true:=fun r hr=>by
 have hp:r.a<r.c∧r.b<r.d:=by obtain ⟨G,hG,e⟩:=hc;rw [e] at hr;obtain ⟨g,hg,hr⟩:=AO.1 hr;obtain ⟨b,hb,rfl⟩:=AN.1 hr;obtain ⟨h1,h2,_⟩:=hG.all g hg;exact ⟨h1,Can.pos h2 b hb⟩
 have h1:=hb r.a r.b ((v6o _ _ _).2 ⟨r,hr,by omega,by omega⟩);have h2:=hb (r.c - 1) (r.d - 1) ((v6o _ _ _).2 ⟨r,hr,by omega,by omega⟩);simp only [Vp,Ac,Aq];omega
theorem z0p {l:List R4} (hv: ∀r∈l,Vp r=true) {u v:Int} (h:ptL Xt.inB l (u,v)):(-1000000≤u∧u<1000000)∧(-1000000≤v∧v<1000000):=by obtain ⟨r,hr,h1,h2⟩:=(v6o _ _ _).1 h;have:=hv r hr;simp only [Vp,Ac,Aq] at this;omega
structure Few (c l:List R4) (n:Nat):Prop where
 can:Xt.can l
 pts: ∀u v,ptL Xt.inB l (u,v)↔ptL Xt.inB c (u,v)
 val: ∀r∈l,Vp r=true
 len:l.length≤n*n
 sec: ∀x,(D4.inn l x).length ≤n
theorem v0b {l:List R4} (hv: ∀r∈l,Vp r=true) (hl:l.length≤400):(D4.out l).length ≤l.length*l.length:=by
 have h:=Kg 0 hv (fun r (h:r∈([]:List R4))=>by cases h);have e:rgJ 0 l []=D4.out l:=Xt.uniq _ _ h.1 (Km hv hl).1 fun p=>by rw [h.2.1,(Km hv hl).2];have: ¬ptL Xt.inB ([]:List R4) p:=z4c _ _;by_cases hp:ptL Xt.inB l p <;> simp [opB,hp,this]
 have:=h.2.2;rw [e] at this;exact this
theorem z7u {l:List R4} (hc:Xt.can l) (x:Int):y3k.can (D4.inn l x):=by obtain ⟨G,hG,e⟩:=hc;rw [e];exact Dim.inn_can y5w y3k x G hG
theorem u8l {c:List R4} (hv: ∀r∈c,Vp r=true) (hl:c.length≤20):Few c (D4.out c) c.length:=by
 obtain ⟨h1,h2⟩:=Km hv (by omega);refine ⟨h1,fun u v=>h2 (u,v),z1b h1 fun u v h=>z0p hv ((h2 _).1 h),v0b hv (by omega),fun x=> ?_⟩;have h3:=z1l 0 (a:=D4.inn c x) (b:=[]) (Vk hv x) rfl;have h4:=z8r 0 (a:=D4.inn c x) (b:=[]) (Vk hv x) rfl;have e:spJ 0 (D4.inn c x) []=D4.inn (D4.out c) x:=y3k.uniq _ _ h4.1 (z7u h1 x) fun y=>by
  rw [h4.2];have a1:=z4d c x y;have a2:=z4d (D4.out c) x y;have: ¬pt [] y:=fun ⟨_,h,_⟩=>by cases h
  show _↔pt (D4.inn (D4.out c) x) y;rw [a2,h2,←a1];by_cases hp:pt (D4.inn c x) y <;> simp [opB,hp,this]
 rw [←e];have:=D4.inn_length c x;simp only [BV] at h3;omega
theorem u8k {c:List R4} (hv: ∀r∈c,Vp r=true) (hl:c.length≤20):Zb c=D4.out c∧Xm c=0:=by refine z7d hv (by omega) (AF (v0b hv (by omega)) ?_);exact AF (B8 hl hl) (by decide)
theorem y1x {l:List R4} (hl:l.length≤400) (hv: ∀r∈l,Vp r=true) (hc:Xt.can l):y5x l=0:=by
 obtain ⟨h1,h2⟩:=Km hv hl;have e:D4.out l=l:=Xt.uniq _ _ h1 hc h2;have m1:z0w l=0:=by show y5c (D4.out l).length =0;rw [e];unfold y5c;rw [Ay (by omega)];rfl
 have m0:Wp l=l:=by unfold Wp x1a;rw [show u3q l=0 from m1,e];rfl
 unfold y5x rgcF;rw [Ay (by omega),As.2 hv,m1,m0,show Jh l l=true from Ah rfl];rfl
theorem v2h {E:Int→Int} {cs:List Int} (h: ∀x,E x=0): ∀k i,x4x E cs k i=0
 | 0,i=>rfl
 | k+1,i=>by show (bif E (rd cs i) != 0 then E (rd cs i) else x4x E cs k (i+1))=0;rw [h];exact v2h h k (i+1)
theorem x0b (o:Op) {a b:List R4} (la:a.length≤400) (lb:b.length≤400) (va: ∀r∈a,Vp r=true) (vb: ∀r∈b,Vp r=true) (ca:Xt.can a) (cb:Xt.can b)
  (sa: ∀x,(D4.inn a x).length +(D4.inn b x).length ≤400) (lj:(rgJ o.k a b).length ≤400):rgE o a b=0:=by
 have sc: ∀(l:List R4) (x:Int),l.length≤400→(∀r∈l,Vp r=true)→Xt.can l→y6c (D4.inn l x)=0:=fun l x hl hv hc=>
  (y1o _).2 ⟨AF (D4.inn_length l x) hl,Vk hv x,z7u hc x⟩
 have hz: ∀x,rgA o a b x=0:=fun x=>by unfold rgA spE;rw [sc a x la va ca,sc b x lb vb cb];have:=z1l o.k (Vk va x) (Vk vb x);show y5c _=0;unfold y5c;rw [Ay (by have:=sa x;omega)];rfl
 unfold rgE;rw [y1x la va ca,y1x lb vb cb,v2h hz];show y5c _=0;unfold y5c;rw [Ay (by omega)];rfl
def hiL (q:Ax) (L:List R6) (p:Int):List R4:=(L.filter fun r=>decide (q.hi r=p)).map q.rc
def loL (q:Ax) (L:List R6) (p:Int):List R4:=(L.filter fun r=>decide (q.lo r=p)).map q.rc
theorem y2z (q:Ax) {L:List R6} (hv: ∀r∈L,q.lo r<q.hi r) (p:Int):(hiL q L p).length +(loL q L p).length ≤L.length:=by
 unfold hiL loL;rw [A3,A3]
 induction L with
 | nil=>exact An _
 | cons r L ih=>
  have ih:=ih fun s hs=>hv s (by simp [hs]);have:=hv r (by simp);rw [A9,A9];by_cases h1:q.hi r=p
  ·rw [Aw (by simp [h1]),At (by simp;omega)];simp only [AV];omega
  ·rw [At (by simp [h1])];by_cases h2:q.lo r=p
   ·rw [Aw (by simp [h2])];simp only [AV];omega
   ·rw [At (by simp [h2])];simp only [AV];omega
theorem v1t (q:Ax) (L:List R6) (p u v:Int):ptL Xt.inB (hiL q L p) (u,v)↔ ∃r∈L,q.hi r=p∧((q.rc r).a ≤u∧u<(q.rc r).c)∧((q.rc r).b ≤v∧v<(q.rc r).d):=by
 rw [v6o];constructor
 ·rintro ⟨s,hs,h⟩;obtain ⟨r,hr,rfl⟩:=AN.1 hs;obtain ⟨h1,h2⟩:=A0.1 hr;exact ⟨r,h1,AE h2,h⟩
 ·rintro ⟨r,hr,h1,h2⟩;exact ⟨q.rc r,AN.2 ⟨r,A0.2 ⟨hr,Ah h1⟩,rfl⟩,h2⟩
theorem v1g (q:Ax) (L:List R6) (p u v:Int):ptL Xt.inB (loL q L p) (u,v)↔ ∃r∈L,q.lo r=p∧((q.rc r).a ≤u∧u<(q.rc r).c)∧((q.rc r).b ≤v∧v<(q.rc r).d):=by
 rw [v6o];constructor
 ·rintro ⟨s,hs,h⟩;obtain ⟨r,hr,rfl⟩:=AN.1 hs;obtain ⟨h1,h2⟩:=A0.1 hr;exact ⟨r,h1,AE h2,h⟩
 ·rintro ⟨r,hr,h1,h2⟩;exact ⟨q.rc r,AN.2 ⟨r,A0.2 ⟨hr,Ah h1⟩,rfl⟩,h2⟩
theorem Ap6.not (q:Ax) {r s:R6} (h:Ap6 r s) {p u v:Int} (h1:q.inB r p u v) (h2:q.inB s p u v):False:=by obtain ⟨a1,a2,a3⟩:=h1;obtain ⟨b1,b2,b3⟩:=h2;unfold Ap6 at h;cases q <;> simp only [Ax.lo,Ax.hi,Ax.rc] at* <;> omega
theorem u2f {L:List R6} (hL:L.Pairwise Ap6) (q:Ax) {r s:R6} (hr:r∈L) (hs:s∈L) {p u v:Int} (h1:q.inB r p u v) (h2:q.inB s p u v):r=s:=by
 obtain ⟨i,hi,ei⟩:=AZ hr;obtain ⟨j,hj,ej⟩:=AZ hs;have pw:=Be.1 hL;rcases Bs i j with h | h | h
 ·have:=pw i j hi hj h;rw [ei,ej] at this;exact (this.not q h1 h2).elim
 ·subst h;exact ei.symm.trans ej
 ·have:=pw j i hj hi h;rw [ei,ej] at this;exact (this.not q h2 h1).elim
theorem y9l (q:Ax) {L:List R6} (hL:L.Pairwise Ap6) (hv: ∀r∈L,q.lo r<q.hi r) (p u v:Int):
  (q.inL L (p - 1) u v∧ ¬q.inL L p u v)↔(ptL Xt.inB (hiL q L p) (u,v)∧ ¬ptL Xt.inB (loL q L p) (u,v)):=by
 rw [v1t,v1g];constructor
 ·rintro ⟨⟨r,hr,h1,h2⟩,h3⟩;refine ⟨⟨r,hr,?_,h2⟩,fun ⟨s,hs,k1,k2⟩=>h3 ⟨s,hs,⟨by omega,by have:=hv s hs;omega⟩,k2⟩⟩;refine AP fun hn=>h3 ⟨r,hr,⟨by omega,by omega⟩,h2⟩
 ·rintro ⟨⟨r,hr,h1,h2⟩,h3⟩;have hlt:=hv r hr;have hb:q.inB r (p - 1) u v:=⟨⟨by omega,by omega⟩,h2⟩
  refine ⟨⟨r,hr,hb⟩,fun ⟨s,hs,k1,k2⟩=> ?_⟩;by_cases e:q.lo s=p
  ·exact h3 ⟨s,hs,e,k2⟩
  ·have:=u2f hL q hr hs hb ⟨⟨by omega,by omega⟩,k2⟩;subst this;omega
theorem z9o (q:Ax) {L:List R6} (hL:L.Pairwise Ap6) (hv: ∀r∈L,q.lo r<q.hi r) (p u v:Int):
  (q.inL L p u v∧ ¬q.inL L (p - 1) u v)↔(ptL Xt.inB (loL q L p) (u,v)∧ ¬ptL Xt.inB (hiL q L p) (u,v)):=by
 rw [v1t,v1g];constructor
 ·rintro ⟨⟨r,hr,h1,h2⟩,h3⟩;refine ⟨⟨r,hr,?_,h2⟩,fun ⟨s,hs,k1,k2⟩=>h3 ⟨s,hs,⟨by have:=hv s hs;omega,by omega⟩,k2⟩⟩;refine AP fun hn=>h3 ⟨r,hr,⟨by omega,by omega⟩,h2⟩
 ·rintro ⟨⟨r,hr,h1,h2⟩,h3⟩;have hlt:=hv r hr;have hb:q.inB r p u v:=⟨⟨by omega,by omega⟩,h2⟩
  refine ⟨⟨r,hr,hb⟩,fun ⟨s,hs,k1,k2⟩=> ?_⟩;by_cases e:q.hi s=p
  ·exact h3 ⟨s,hs,e,k2⟩
  ·have:=u2f hL q hr hs hb ⟨⟨by omega,by omega⟩,k2⟩;subst this;omega
def upF (q:Ax) (L:List R6) (p:Int):List R4:=rgJ 2 (D4.out (z1k q L (p - 1))) (D4.out (z1k q L p))
def dnF (q:Ax) (L:List R6) (p:Int):List R4:=rgJ 2 (D4.out (z1k q L p)) (D4.out (z1k q L (p - 1)))
section
variable (q:Ax) {L:List R6} (hv: ∀r∈L,Qu r=true) (hl:L.length≤20) (hL:L.Pairwise Ap6)
include hv hl
theorem fw (p:Int):Few (z1k q L p) (D4.out (z1k q L p)) (z1k q L p).length :=u8l (x8x q hv p) (AF (x8y q L p) hl)
theorem y2y (p:Int):Xt.can (upF q L p)∧ ∀u v,ptL Xt.inB (upF q L p) (u,v)↔(q.inL L (p - 1) u v∧ ¬q.inL L p u v):=by have f1:=fw q hv hl (p - 1);have f2:=fw q hv hl p;obtain ⟨h1,h2,_⟩:=Kg 2 f1.val f2.val;refine ⟨h1,fun u v=> ?_⟩;rw [show ptL Xt.inB (upF q L p) (u,v)↔_ from h2 (u,v),←y0q,←y0q,←f1.pts,←f2.pts];simp [opB]
theorem y4x (p:Int):Xt.can (dnF q L p)∧ ∀u v,ptL Xt.inB (dnF q L p) (u,v)↔(q.inL L p u v∧ ¬q.inL L (p - 1) u v):=by have f1:=fw q hv hl (p - 1);have f2:=fw q hv hl p;obtain ⟨h1,h2,_⟩:=Kg 2 f2.val f1.val;refine ⟨h1,fun u v=> ?_⟩;rw [show ptL Xt.inB (dnF q L p) (u,v)↔_ from h2 (u,v),←y0q,←y0q,←f1.pts,←f2.pts];simp [opB]
include hL
theorem y9k (p:Int):(upF q L p).length +(dnF q L p).length ≤((hiL q L p).length +(loL q L p).length)*((hiL q L p).length +(loL q L p).length):=by
 have hr: ∀r∈L,q.lo r<q.hi r:=fun r h=>(q.val (hv r h)).2.1;have va: ∀s∈hiL q L p,Vp s=true:=fun s hs=>by obtain ⟨r,hr,rfl⟩:=AN.1 hs;exact (q.val (hv r (A0.1 hr).1)).1
 have vb: ∀s∈loL q L p,Vp s=true:=fun s hs=>by obtain ⟨r,hr,rfl⟩:=AN.1 hs;exact (q.val (hv r (A0.1 hr).1)).1
 obtain ⟨a1,a2,_⟩:=Kg 2 va vb;obtain ⟨b1,b2,_⟩:=Kg 2 vb va;obtain ⟨u1,u2⟩:=y2y q hv hl p;obtain ⟨d1,d2⟩:=y4x q hv hl p;have e1:upF q L p=rgJ 2 (hiL q L p) (loL q L p):=Xt.uniq _ _ u1 a1 fun ⟨u,v⟩=>by rw [u2,y9l q hL hr,a2];simp [opB]
 have e2:dnF q L p=rgJ 2 (loL q L p) (hiL q L p):=Xt.uniq _ _ d1 b1 fun ⟨u,v⟩=>by rw [d2,z9o q hL hr,b2];simp [opB]
 rw [e1,e2];exact v6c va vb
theorem y8s (p:Int):Xm (z1k q L p)=0∧Zb (z1k q L p)=D4.out (z1k q L p)∧rgE .d (D4.out (z1k q L (p - 1))) (D4.out (z1k q L p))=0∧rgE .d (D4.out (z1k q L p)) (D4.out (z1k q L (p - 1)))=0:=by
 have hr: ∀r∈L,q.lo r<q.hi r:=fun r h=>(q.val (hv r h)).2.1;have f1:=fw q hv hl (p - 1);have f2:=fw q hv hl p;have l1:=x8y q L (p - 1);have l2:=x8y q L p;have t:=y2z q hr p;have hud:=y9k q hv hl hL p;have h4:((hiL q L p).length +(loL q L p).length)*((hiL q L p).length +(loL q L p).length)≤400:=AF (B8 (AF t hl) (AF t hl)) (by decide);obtain ⟨m0,m1⟩:=u8k (x8x q hv p) (AF l2 hl);have n1:=AF f1.len (AF (B8 (AF l1 hl) (AF l1 hl)) (show 20*20≤400 by decide));have n2:=AF f2.len (AF (B8 (AF l2 hl) (AF l2 hl)) (show 20*20≤400 by decide));refine ⟨m1,m0,x0b .d n1 n2 f1.val f2.val f1.can f2.can (fun x=> ?_) ?_,x0b .d n2 n1 f2.val f1.val f2.can f1.can (fun x=> ?_) ?_⟩
 ·have:=f1.sec x;have:=f2.sec x;omega
 ·show (upF q L p).length ≤400;omega
 ·have:=f1.sec x;have:=f2.sec x;omega
 ·show (dnF q L p).length ≤400;omega
end
open Go.Proofs.Tryz
def prH (q:Ax) (L:List R6) (P Q:R4) (lo hi:Int):Int:=bif P.c != Q.a then 0 else bif P.d != Q.b then (bif Q.d != P.b then 0 else w4q q L P.c P.b lo hi (P.d == Q.b)) else w4q q L P.c P.d lo hi (P.d == Q.b)
def prO (q:Ax) (L:List R6) (r s:R6):Int:=bif decide ((q.rc s).a <(q.rc r).a) then prH q L (q.rc s) (q.rc r) (z5k (q.lo r) (q.lo s)) (z5j (q.hi r) (q.hi s)) else prH q L (q.rc r) (q.rc s) (z5k (q.lo r) (q.lo s)) (z5j (q.hi r) (q.hi s))
def v5m (q:Ax) (L:List R6) (i:Nat):Int:=sm (Jj L 0 i) (prO q L (rd L i))
def y6d (q:Ax) (L:List R6):Nat→Int
 | 0=>0
 | k+1=>y6d q L k+v5m q L k
theorem u2c (q:Ax) (r:R6):q.u r.a r.b=(q.rc r).a :=by cases q <;> rfl
theorem u2a (q:Ax) (r:R6):q.w r.b r.c=(q.rc r).b :=by cases q <;> rfl
theorem u2b (q:Ax) (r:R6):q.u r.d r.e=(q.rc r).c :=by cases q <;> rfl
theorem u1z (q:Ax) (r:R6):q.w r.e r.f=(q.rc r).d :=by cases q <;> rfl
theorem x2x (q:Ax) (r:R6):q.l r.a r.b r.c=q.lo r:=by cases q <;> rfl
theorem x2y (q:Ax) (r:R6):q.l r.d r.e r.f=q.hi r:=by cases q <;> rfl
section
variable (L:List R6) (hl:L.length≤400) (hv: ∀r∈L,Qu r=true)
include hl hv
theorem u2z (q:Ax) {r s:R6} (hr:r∈L) (hs:s∈L) (lo hi:Int) (b:Bool):Ks q L (q.rc r).c (q.rc s).b lo hi b=true∧Ks q L (q.rc r).c (q.rc s).d lo hi b=true:=by have h1:=(q.val (hv r hr)).1;have h2:=(q.val (hv s hs)).1;simp only [Vp,Ac,Aq] at h1 h2;exact ⟨Ah (by omega),Ah (by omega)⟩
theorem u3b (q:Ax) (i:Nat) (hi:i<L.length): ∀(k j:Nat) (S:Int),j+k=i→
  ∃n,∀N,Yj (Wc L) (N+n) (.to (.h1 q (wrap .i64 S) (i:Int) (Jj L 0 i) (i:Int) (j:Int) (rd L i).a (rd L i).b (rd L i).c (rd L i).d (rd L i).e (rd L i).f))=Yj (Wc L) N (.to (.h0 q (wrap .i64 (S+sm ((Jj L 0 i).drop j) (prO q L (rd L i)))) ((i+1:Nat):Int)))
 | 0,j,S,h=>by
  refine ⟨1,fun N=> ?_⟩;have e:(Jj L 0 i).length =i:=Kr ..;have g:decide ((j:Int)<(i:Int))=false:=Ay (by omega);have w3:wrap .i64 ((i:Int)+1)=((i+1:Nat):Int):=by rw [Zp (by omega)];rfl
  rw [Au (by omega),Zv,w7z,Bp];simp only [Wc,g,w3,Aa]
 | k+1,j,S,h=>by
  have e:(Jj L 0 i).length =i:=Kr ..;obtain ⟨n,hn⟩:=u3b q i hi k (j+1) (S+prO q L (rd L i) (rd (Jj L 0 i) j)) (by omega);refine ⟨n+1,fun N=> ?_⟩;have hn:=hn N;rw [Ym (show j<(Jj L 0 i).length by omega),x5m,←Int.add_assoc,←hn,←AD,Zv]
  congr 1
  have hj:rd (Jj L 0 i) j∈L:=by
   have e2:Jj L 0 i=L.take i:=by rw [v6q (show 0+i≤L.length by omega),A2]
   rw [Xp (show j<(Jj L 0 i).length by omega)];have hm: ∀M:List R6,M=L.take i→ ∀(h:j<M.length),M[j]∈L:=fun M hM h=>by subst hM;exact B3 (AS h)
   exact hm _ e2 _
  have hr:rd L i∈L:=by rw [Xp hi];exact AS hi
  have g1:decide ((j:Int)<(i:Int))=true:=Ah (by omega);have g2:decide (0≤(j:Int)∧(j:Int)<(((Jj L 0 i).length :Nat):Int))=true:=Ah (by omega);have w3:wrap .i64 ((j:Int)+1)=((j+1:Nat):Int):=by rw [Zp (by omega)];rfl
  have wp: ∀y,wrap .i64 (wrap .i64 S+y)=wrap .i64 (S+y):=fun y=>Cg.eq ((Cg.wrap S).add (Cg.refl y));have o1:=fun lo hi b=>u2z L hl hv q hr hr lo hi b;have o2:=fun lo hi b=>u2z L hl hv q hj hj lo hi b;generalize hsd:rd (Jj L 0 i) j=s at*;unfold prO prH;rcases Ye (decide ((q.rc s).a <(q.rc (rd L i)).a)) with q1 | q1
  ·rcases Ye ((q.rc s).c != (q.rc (rd L i)).a) with q2 | q2
   ·simp only [Wc,Za,u2c,u2a,u2b,u1z,x2x,x2y,g1,g2,w3,Zk,hsd,q1,q2,Ai,Ab,Aa,Bp]
   rcases Ye ((q.rc s).d != (q.rc (rd L i)).b) with q3 | q3
   ·rcases Ye ((q.rc (rd L i)).d != (q.rc s).b) with q4 | q4
    ·simp only [Wc,Za,u2c,u2a,u2b,u1z,x2x,x2y,g1,g2,w3,Zk,hsd,q1,q2,q3,q4,Ai,Ab,Aa,Bp]
    ·simp only [Wc,Za,u2c,u2a,u2b,u1z,x2x,x2y,g1,g2,w3,Zk,hsd,q1,q2,q3,q4,wp,o2,Ai,Ab,Aa]
   ·simp only [Wc,Za,u2c,u2a,u2b,u1z,x2x,x2y,g1,g2,w3,Zk,hsd,q1,q2,q3,wp,o2,Ai,Ab,Aa]
  ·rcases Ye ((q.rc (rd L i)).c != (q.rc s).a) with q2 | q2
   ·simp only [Wc,Za,u2c,u2a,u2b,u1z,x2x,x2y,g1,g2,w3,Zk,hsd,q1,q2,Ai,Ab,Aa,Bp]
   rcases Ye ((q.rc (rd L i)).d != (q.rc s).b) with q3 | q3
   ·rcases Ye ((q.rc s).d != (q.rc (rd L i)).b) with q4 | q4
    ·simp only [Wc,Za,u2c,u2a,u2b,u1z,x2x,x2y,g1,g2,w3,Zk,hsd,q1,q2,q3,q4,Ai,Ab,Aa,Bp]
    ·simp only [Wc,Za,u2c,u2a,u2b,u1z,x2x,x2y,g1,g2,w3,Zk,hsd,q1,q2,q3,q4,wp,o1,Ai,Ab,Aa]
   ·simp only [Wc,Za,u2c,u2a,u2b,u1z,x2x,x2y,g1,g2,w3,Zk,hsd,q1,q2,q3,wp,o1,Ai,Ab,Aa]
theorem w1m (q:Ax) (B:Int): ∀(k i:Nat),i+k=L.length→
  ∃n,∀N,Yj (Wc L) (N+n) (.to (.h0 q (wrap .i64 (B+y6d q L i)) (i:Int)))=Yj (Wc L) N (mpgE q (wrap .i64 (B+y6d q L L.length)))
 | 0,i,h=>by
  refine ⟨1,fun N=> ?_⟩;have:i=L.length:=by omega
  subst this;rw [Zv];have g:decide ((L.length:Int)<(L.length:Int))=false:=Ay (by omega);simp only [Wc,g,Aa]
 | k+1,i,h=>by
  have hi:i<L.length:=by omega
  obtain ⟨n,hn⟩:=w1m q B k (i+1) (by omega);obtain ⟨m,hm⟩:=u3b L hl hv q i hi i 0 (B+y6d q L i) (Ag _);refine ⟨n+m+1,fun N=> ?_⟩;have hn:=hn N;have hm:=hm (N+n);rw [show N+(n+m+1)=(N+n+m)+1 by omega,Zv];have g1:decide ((i:Int)<(L.length:Int))=true:=Ah (by omega);have g2:decide (0≤(i:Int)∧(i:Int)<(L.length:Int))=true:=Ah (by omega);have g3:decide (0≤i)=true:=Ah (by omega);have g4:decide (i≤L.length)=true:=Ah (by omega);have g5:decide (0≤(i:Int))=true:=Ah (by omega);have hs:Wc L (.h0 q (wrap .i64 (B+y6d q L i)) (i:Int))=.to (.h1 q (wrap .i64 (B+y6d q L i)) (i:Int) (Jj L 0 i) (i:Int) 0 (rd L i).a (rd L i).b (rd L i).c (rd L i).d (rd L i).e (rd L i).f):=by simp only [Wc,g1,g2,g3,g4,g5,Zk,Ai,Ab]
  rw [hs];rw [z2z] at hm;rw [hm,A2,Int.add_assoc];exact hn
end
def z5q (L:List R6):Int:=bif Xe L != 0 then 0 else wrap .i64 (y6d .x L L.length+y6d .y L L.length+y6d .z L L.length)
def y0j (L:List R6):Int:=Xe L
def z1t (L:List R6):Bool:=true
theorem u7b (L:List R6) (h:z1t L=true): ∃n,Yj (Wc L) n (y2b L)=.ret [.int .i64 (z5q L),.int .i64 (y0j L)]:=by
 unfold y2b z5q y0j;simp only [Za,show z2f L=true from rfl,Ab];rcases Ye (Xe L != 0) with q1 | q1
 ·exact ⟨0,by simp only [q1,Ab];rfl⟩
 ·have hl:=w3s q1;have hz:Xe L=0:=by simpa using q1
  have hv:=(Wt hz).2.1;obtain ⟨n1,h1⟩:=w1m L hl hv .x 0 L.length 0 (Ag _);obtain ⟨n2,h2⟩:=w1m L hl hv .y (y6d .x L L.length) L.length 0 (Ag _);obtain ⟨n3,h3⟩:=w1m L hl hv .z (y6d .x L L.length+y6d .y L L.length) L.length 0 (Ag _);refine ⟨0+n3+n2+n1,?_⟩;have h1:=h1 (0+n3+n2);have h2:=h2 (0+n3);have h3:=h3 0;rw [z2z,show y6d Ax.x L 0=0 from rfl,Bp,show wrap .i64 0=0 from rfl,Ce] at h1;rw [z2z,show y6d Ax.y L 0=0 from rfl,Bp] at h2;rw [z2z,show y6d Ax.z L 0=0 from rfl,Bp] at h3;simp only [q1,Aa];rw [h1];show Yj (Wc L) (0+n3+n2) (.to (.h0 .y _ 0))=_;rw [h2];show Yj (Wc L) (0+n3) (.to (.h0 .z _ 0))=_;rw [h3,hz];rfl
def fMpg :List AVal→Option (AVal×Bool)
 | [a0]=>match asL R6 a0 with
  | some (L0,g0,n0)=>some (.tup [.int .i64 (z5q L0),.int .i64 (y0j L0)],isT R6 n0 g0&&(z1t L0))
  | _=>none
 | _=>none
theorem u9b {S:Specs} (hS:Zj prog S):Zj prog (S.with v0o fMpg):=by
 refine z3m hS (by kernel_rfl) fun args v h=> ?_;unfold fMpg at h;split at h
 ·rename_i a0;split at h
  ·rename_i L0 g0 n0 e0;simp only [Ae,Ad,Ac] at h;obtain ⟨rfl,ho0,hw⟩:=h;obtain ⟨N,hN⟩:=u7b L0 hw;exact ⟨_,_,(.cons (Yr e0 ho0) .nil),rfl,v6z L0 N _ hN,3,rfl⟩
  ·cases h
 ·cases h
def Nk :Specs:=Ni.with v0o fMpg
theorem y1c :Zj prog Nk:=u9b z5m
inductive al19S where
def j0q :al19S→Cfg
 :=nofun
def x1j :al19S→Xf al19S
 :=nofun
def z8j :Xf al19S:=(bif (Kt (cvT ([(R6.mk 0 0 0 2 1 1)]:List R6))) then (bif (z1t (cvT ([(R6.mk 0 0 0 1 1 1),(R6.mk 1 1 0 2 2 1)]:List R6))) then (bif ((Jv (cvT ([(R6.mk 0 0 0 2 1 1)]:List R6))) != 0) then (.ret [(.bool false)]) else (bif ((((Zu (cvT ([(R6.mk 0 0 0 2 1 1)]:List R6))).length :Nat):Int) != 6) then (.ret [(.bool false)]) else (bif ((y0j (cvT ([(R6.mk 0 0 0 1 1 1),(R6.mk 1 1 0 2 2 1)]:List R6))) != 0) then (.ret [(.bool false)]) else (bif ((z5q (cvT ([(R6.mk 0 0 0 1 1 1),(R6.mk 1 1 0 2 2 1)]:List R6))) != 1) then (.ret [(.bool false)]) else (bif (z4f (cvT (Zu (cvT ([(R6.mk 0 0 0 2 1 1)]:List R6))))) then (bif ((z5p (cvT (Zu (cvT ([(R6.mk 0 0 0 2 1 1)]:List R6))))) == 0) then (bif (Vi (cvT (z0f (cvT (Zu (cvT ([(R6.mk 0 0 0 2 1 1)]:List R6)))))) (cvT ([(R6.mk 0 0 0 2 1 1)]:List R6))) then (bif (Kk (cvT (z0f (cvT (Zu (cvT ([(R6.mk 0 0 0 2 1 1)]:List R6)))))) (cvT ([(R6.mk 0 0 0 2 1 1)]:List R6))) then (bif ((decide ((0:Int)≤0∧0<(((Zu (cvT ([(R6.mk 0 0 0 2 1 1)]:List R6))).length :Nat):Int)))&&true) then (bif (((rd (Zu (cvT ([(R6.mk 0 0 0 2 1 1)]:List R6))) 0).a == 0)&&((((rd (Zu (cvT ([(R6.mk 0 0 0 2 1 1)]:List R6))) 0).b == 2)&&(((rd (Zu (cvT ([(R6.mk 0 0 0 2 1 1)]:List R6))) 0).c == 0)&&(((rd (Zu (cvT ([(R6.mk 0 0 0 2 1 1)]:List R6))) 0).d == 0)&&true)))&&((((rd (Zu (cvT ([(R6.mk 0 0 0 2 1 1)]:List R6))) 0).e == 2)&&(((rd (Zu (cvT ([(R6.mk 0 0 0 2 1 1)]:List R6))) 0).f == 1)&&(((rd (Zu (cvT ([(R6.mk 0 0 0 2 1 1)]:List R6))) 0).g == 1)&&true)))&&true))) then (bif ((decide ((0:Int)≤4∧4<(((Zu (cvT ([(R6.mk 0 0 0 2 1 1)]:List R6))).length :Nat):Int)))&&true) then (.ret [(.bool (((rd (Zu (cvT ([(R6.mk 0 0 0 2 1 1)]:List R6))) 4).a == 4)&&((((rd (Zu (cvT ([(R6.mk 0 0 0 2 1 1)]:List R6))) 4).b == 0)&&(((rd (Zu (cvT ([(R6.mk 0 0 0 2 1 1)]:List R6))) 4).c == 0)&&(((rd (Zu (cvT ([(R6.mk 0 0 0 2 1 1)]:List R6))) 4).d == 1)&&true)))&&((((rd (Zu (cvT ([(R6.mk 0 0 0 2 1 1)]:List R6))) 4).e == 2)&&(((rd (Zu (cvT ([(R6.mk 0 0 0 2 1 1)]:List R6))) 4).f == 1)&&(((rd (Zu (cvT ([(R6.mk 0 0 0 2 1 1)]:List R6))) 4).g == 1)&&true)))&&true))))]) else .stuck) else (.ret [(.bool false)])) else .stuck) else (.ret [(.bool false)])) else .stuck) else (.ret [(.bool false)])) else .stuck))))) else .stuck) else .stuck)
theorem x9n : ∀s,Xq prog (Zy prog 36) (j0q) (j0q s) (x1j s)
 :=nofun
theorem x4g :Xq prog (Zy prog 36) (j0q) (Zc prog 36 [] true []) (z8j):=(Xa (sl y1c (C':=⟨⟨66,0,true⟩,(Up prog 36 [1,0] 2),(Zd prog 36 [1,0] 1),none,(Zy prog 10),⟨Yd [(9,(.dat ([(R6.mk 0 0 0 2 1 1)]:List R6).length (Zz ([(R6.mk 0 0 0 2 1 1)]:List R6))))],Uy [] 0,0,[],true⟩,[],.leaf⟩) 26 [] ⟨[],[1],[some [9]],[]⟩ ⟨[(9,.frz 1 ([(R6.mk 0 0 0 2 1 1)]:List R6).length (Vx [(ii 0),(ii 0),(ii 0),(ii 2),(ii 1),(ii 1)] 0 6) (Zz ([(R6.mk 0 0 0 2 1 1)]:List R6)))],[],[]⟩ [] (pp (xZ (.dat 1 (Vx [(ii 0),(ii 0),(ii 0),(ii 2),(ii 1),(ii 1)] 0 6)) 1 (Vx [(ii 0),(ii 0),(ii 0),(ii 2),(ii 1),(ii 1)] 0 6)) (pp (xL 1 ([(R6.mk 0 0 0 2 1 1)]:List R6).length) (pp (xS 1 (Vx [(ii 0),(ii 0),(ii 0),(ii 2),(ii 1),(ii 1)] 0 6) (Zz ([(R6.mk 0 0 0 2 1 1)]:List R6))) nn)))) (lo fun q0_0=>(Xa (sl y1c (C':=⟨⟨66,0,true⟩,(Up prog 36 [1,1,0] 3),(Zd prog 36 [1,1,0] 1),none,(Zy prog 10),⟨Yd [(1,(.dat (Zu (cvT ([(R6.mk 0 0 0 2 1 1)]:List R6))).length (Zz (Zu (cvT ([(R6.mk 0 0 0 2 1 1)]:List R6)))))),(2,(ii (Jv (cvT ([(R6.mk 0 0 0 2 1 1)]:List R6))))),(16,(.dat ([(R6.mk 0 0 0 1 1 1),(R6.mk 1 1 0 2 2 1)]:List R6).length (Zz ([(R6.mk 0 0 0 1 1 1),(R6.mk 1 1 0 2 2 1)]:List R6))))],Uy [] 0,0,[],true⟩,[],.leaf⟩) 48 [] ⟨[],[2],[some [1,2,16]],[]⟩ ⟨[(16,.frz 2 ([(R6.mk 0 0 0 1 1 1),(R6.mk 1 1 0 2 2 1)]:List R6).length (Vx [(ii 0),(ii 0),(ii 0),(ii 1),(ii 1),(ii 1),(ii 1),(ii 1),(ii 0),(ii 2),(ii 2),(ii 1)] 0 6) (Zz ([(R6.mk 0 0 0 1 1 1),(R6.mk 1 1 0 2 2 1)]:List R6)))],[],[]⟩ [] (pp (xZ (.dat 2 (Vx [(ii 0),(ii 0),(ii 0),(ii 1),(ii 1),(ii 1),(ii 1),(ii 1),(ii 0),(ii 2),(ii 2),(ii 1)] 0 6)) 2 (Vx [(ii 0),(ii 0),(ii 0),(ii 1),(ii 1),(ii 1),(ii 1),(ii 1),(ii 0),(ii 2),(ii 2),(ii 1)] 0 6)) (pp (xL 2 ([(R6.mk 0 0 0 1 1 1),(R6.mk 1 1 0 2 2 1)]:List R6).length) (pp (xS 2 (Vx [(ii 0),(ii 0),(ii 0),(ii 1),(ii 1),(ii 1),(ii 1),(ii 1),(ii 0),(ii 2),(ii 2),(ii 1)] 0 6) (Zz ([(R6.mk 0 0 0 1 1 1),(R6.mk 1 1 0 2 2 1)]:List R6))) (pp (pp (xI R6 ([(R6.mk 0 0 0 2 1 1)]:List R6).length (Zz ([(R6.mk 0 0 0 2 1 1)]:List R6))) (xw q0_0)) nn))))) (lo fun bU=>(lb (fun k0=>(lr 66 36 [1,1,1,0,1,0,0] 1 10 [(0,(.bool false))] (sl y1c 31 [] ⟨[],[],[some [0]],[]⟩ ⟨[],[],[]⟩ (trs 8 []) (tt k0 (pp (pp (xI R6 ([(R6.mk 0 0 0 1 1 1),(R6.mk 1 1 0 2 2 1)]:List R6).length (Zz ([(R6.mk 0 0 0 1 1 1),(R6.mk 1 1 0 2 2 1)]:List R6))) (xw bU)) nn))))) (fun k0=>(lb (fun k1=>(lr 66 36 [1,1,1,0,1,0,0] 1 10 [(0,(.bool false))] (sl y1c 31 [] ⟨[],[],[some [0]],[]⟩ ⟨[],[],[]⟩ [false,false,false,true,true,true,true,true] (tt k1 (tt k0 (pp (pp (xI R6 ([(R6.mk 0 0 0 1 1 1),(R6.mk 1 1 0 2 2 1)]:List R6).length (Zz ([(R6.mk 0 0 0 1 1 1),(R6.mk 1 1 0 2 2 1)]:List R6))) (xw bU)) nn)))))) (fun k1=>(lb (fun k2=>(lr 66 36 [1,1,1,0,1,0,0] 1 10 [(0,(.bool false))] (sl y1c 31 [] ⟨[],[],[some [0]],[]⟩ ⟨[],[],[]⟩ [false,false,false,false,false,true,true,true] (tt k2 (tt k1 (tt k0 (pp (pp (xI R6 ([(R6.mk 0 0 0 1 1 1),(R6.mk 1 1 0 2 2 1)]:List R6).length (Zz ([(R6.mk 0 0 0 1 1 1),(R6.mk 1 1 0 2 2 1)]:List R6))) (xw bU)) nn))))))) (fun k2=>(lb (fun k3=>(lr 66 36 [1,1,1,0,1,0,0] 1 10 [(0,(.bool false))] (sl y1c 31 [] ⟨[],[],[some [0]],[]⟩ ⟨[],[],[]⟩ [false,false,false,false,false,false,false,true] (tt k3 (tt k2 (tt k1 (tt k0 (pp (pp (xI R6 ([(R6.mk 0 0 0 1 1 1),(R6.mk 1 1 0 2 2 1)]:List R6).length (Zz ([(R6.mk 0 0 0 1 1 1),(R6.mk 1 1 0 2 2 1)]:List R6))) (xw bU)) nn)))))))) (fun k3=>(lo fun bW=>(lb (fun k4=>(Xa (sl y1c (C':=⟨⟨66,0,true⟩,(Up prog 36 [1,1,1,1,1,0] 6),(Zd prog 36 [1,1,1,1,1,0] 1),none,(Zy prog 10),⟨Yd [(1,(.dat (Zu (cvT ([(R6.mk 0 0 0 2 1 1)]:List R6))).length (Zz (Zu (cvT ([(R6.mk 0 0 0 2 1 1)]:List R6)))))),(42,(.bool true)),(43,(.dat (z0f (cvT (Zu (cvT ([(R6.mk 0 0 0 2 1 1)]:List R6))))).length (Zz (z0f (cvT (Zu (cvT ([(R6.mk 0 0 0 2 1 1)]:List R6)))))))),(45,(.dat ([(R6.mk 0 0 0 2 1 1)]:List R6).length (Zz ([(R6.mk 0 0 0 2 1 1)]:List R6))))],Uy [] 0,0,[],true⟩,[],.leaf⟩) 64 [] ⟨[],[1],[some [1,42,43,45]],[]⟩ ⟨[(45,.frz 1 ([(R6.mk 0 0 0 2 1 1)]:List R6).length (Vx [(ii 0),(ii 0),(ii 0),(ii 2),(ii 1),(ii 1)] 0 6) (Zz ([(R6.mk 0 0 0 2 1 1)]:List R6)))],[],[]⟩ [false,false,false,false,false,false,false,false,true,true,true] (pp (xZ (.dat 1 (Vx [(ii 0),(ii 0),(ii 0),(ii 2),(ii 1),(ii 1)] 0 6)) 1 (Vx [(ii 0),(ii 0),(ii 0),(ii 2),(ii 1),(ii 1)] 0 6)) (pp (xL 1 ([(R6.mk 0 0 0 2 1 1)]:List R6).length) (pp (xS 1 (Vx [(ii 0),(ii 0),(ii 0),(ii 2),(ii 1),(ii 1)] 0 6) (Zz ([(R6.mk 0 0 0 2 1 1)]:List R6))) (tt k4 (pp (pp (xI R7 (Zu (cvT ([(R6.mk 0 0 0 2 1 1)]:List R6))).length (Zz (Zu (cvT ([(R6.mk 0 0 0 2 1 1)]:List R6))))) (xw bW)) (tt k3 (tt k2 (tt k1 (tt k0 (pp (pp (xI R6 ([(R6.mk 0 0 0 1 1 1),(R6.mk 1 1 0 2 2 1)]:List R6).length (Zz ([(R6.mk 0 0 0 1 1 1),(R6.mk 1 1 0 2 2 1)]:List R6))) (xw bU)) nn))))))))))) (lo fun cO=>(lb (fun k5=>(lo fun cU=>(lb (fun k6=>(lo fun o0=>(lr 66 3 [1,1,1,1,1,1,1,0] 1 10 [(0,(.bool (((rd (Zu (cvT ([(R6.mk 0 0 0 2 1 1)]:List R6))) 4).a == 4)&&((((rd (Zu (cvT ([(R6.mk 0 0 0 2 1 1)]:List R6))) 4).b == 0)&&(((rd (Zu (cvT ([(R6.mk 0 0 0 2 1 1)]:List R6))) 4).c == 0)&&(((rd (Zu (cvT ([(R6.mk 0 0 0 2 1 1)]:List R6))) 4).d == 1)&&true)))&&((((rd (Zu (cvT ([(R6.mk 0 0 0 2 1 1)]:List R6))) 4).e == 2)&&(((rd (Zu (cvT ([(R6.mk 0 0 0 2 1 1)]:List R6))) 4).f == 1)&&(((rd (Zu (cvT ([(R6.mk 0 0 0 2 1 1)]:List R6))) 4).g == 1)&&true)))&&true)))))] (sl y1c 22 [] ⟨[],[],[some [0]],[]⟩ ⟨[],[],[]⟩ (trs 15 []) (ww o0 (tt k6 (ww cU (tt k5 (pp (pp (xI R6 (z0f (cvT (Zu (cvT ([(R6.mk 0 0 0 2 1 1)]:List R6))))).length (Zz (z0f (cvT (Zu (cvT ([(R6.mk 0 0 0 2 1 1)]:List R6))))))) (pp (xI R6 ([(R6.mk 0 0 0 2 1 1)]:List R6).length (Zz ([(R6.mk 0 0 0 2 1 1)]:List R6))) (xw cO))) nn))))))))) (fun k6=>(lr 66 3 [1,1,1,1,1,1,1,0] 1 10 [(0,(.bool false))] (sl y1c 22 [] ⟨[],[],[some [0]],[]⟩ ⟨[],[],[]⟩ (trs 8 [false,false,false,false,false,false,false]) (tt k6 (ww cU (tt k5 (pp (pp (xI R6 (z0f (cvT (Zu (cvT ([(R6.mk 0 0 0 2 1 1)]:List R6))))).length (Zz (z0f (cvT (Zu (cvT ([(R6.mk 0 0 0 2 1 1)]:List R6))))))) (pp (xI R6 ([(R6.mk 0 0 0 2 1 1)]:List R6).length (Zz ([(R6.mk 0 0 0 2 1 1)]:List R6))) (xw cO))) nn)))))))))) (fun k5=>(lr 66 3 [1,1,1,1,1,1,1,0] 1 10 [(0,(.bool false))] (sl y1c 22 [] ⟨[],[],[some [0]],[]⟩ ⟨[],[],[]⟩ [true,false,false,false,false,false,false,false,false,false,false,false,false,false,false] (tt k5 (pp (pp (xI R6 (z0f (cvT (Zu (cvT ([(R6.mk 0 0 0 2 1 1)]:List R6))))).length (Zz (z0f (cvT (Zu (cvT ([(R6.mk 0 0 0 2 1 1)]:List R6))))))) (pp (xI R6 ([(R6.mk 0 0 0 2 1 1)]:List R6).length (Zz ([(R6.mk 0 0 0 2 1 1)]:List R6))) (xw cO))) nn))))))))) (fun k4=>(lr 66 3 [1,1,1,1,1,1,1,0] 1 10 [(0,(.bool false))] (sl y1c 68 [] ⟨[],[],[some [0]],[]⟩ ⟨[],[],[]⟩ [false,false,false,false,false,false,false,false,false,false,false,false,false,false,false,false,false,false,false,false,false,false,false,false,false,false] (tt k4 (pp (pp (xI R7 (Zu (cvT ([(R6.mk 0 0 0 2 1 1)]:List R6))).length (Zz (Zu (cvT ([(R6.mk 0 0 0 2 1 1)]:List R6))))) (xw bW)) (tt k3 (tt k2 (tt k1 (tt k0 (pp (pp (xI R6 ([(R6.mk 0 0 0 1 1 1),(R6.mk 1 1 0 2 2 1)]:List R6).length (Zz ([(R6.mk 0 0 0 1 1 1),(R6.mk 1 1 0 2 2 1)]:List R6))) (xw bU)) nn))))))))))))))))))))))))
theorem v3t (n:Nat) (vs:List AVal) (h:Yj (x1j) n (z8j)=.ret vs):Kv prog (Zy prog 36) (Zc prog 36 [] true []) vs:=by have:=Zn (x9n) n _ (x4g);rwa [h] at this
def fcF (q:Ax) (s:Bool) (L:List R6) (p:Int):List R4:=match s with
 | true=>upF q L p
 | false=>dnF q L p
theorem z2m (q:Ax) (L:List R6):(plQ q L).Pairwise (· < ·):=by unfold plQ;rw [Ja];exact (Wx _).1
theorem z1h (q:Ax) (L:List R6) (p:Int):p∈plQ q L↔ ∃r∈L,p=q.lo r∨p=q.hi r:=by
 unfold plQ;rw [Ja,(Wx _).2 p];unfold z3n;constructor
 ·intro h;obtain ⟨r,hr,h⟩:=AO.1 h;simp only [AB,Bm,Ca] at h;exact ⟨r,hr,h⟩
 ·rintro ⟨r,hr,h⟩;exact AO.2 ⟨r,hr,by simp only [AB,Bm,Ca];exact h⟩
theorem x4a (E:Int→Int): ∀l:List Int,(∀p∈l,E p=0)→w2m E l=0
 | [],_=>rfl
 | p::l,h=>by unfold w2m;rw [h p (by simp)];exact x4a E l fun x hx=>h x (by simp [hx])
theorem w7n (a:Int): ∀P:List Int,P.Pairwise (· < ·)→(P.map fun p=>if a=p then 1 else 0).sum ≤1
 | [],_=>AJ _
 | p::P,h=>by
  obtain ⟨h1,h2⟩:=AR.1 h;rw [AW,Bf];by_cases e:a=p
  ·rw [Aw e];have:(P.map fun p=>if a=p then 1 else 0)=P.map fun _=>0:=List.map_congr_left fun x hx=>by have:=h1 x hx;rw [At (by omega)]
   rw [this];have: ∀l:List Int,(l.map fun _=>0).sum =0:=fun l=>by induction l with
    | nil=>rfl
    | cons _ _ ih=>rw [AW,Bf,ih]
   rw [this];exact An _
  ·rw [At e];have:=w7n a P h2;omega
theorem y3c (f:R6→Int) (P:List Int) (hP:P.Pairwise (· < ·)) (g:R6→R4): ∀L:List R6,(P.map fun p=>((L.filter fun r=>decide (f r=p)).map g).length).sum ≤L.length
 | []=>by
  have: ∀l:List Int,(l.map fun p=>((([]:List R6).filter fun r=>decide (f r=p)).map g).length).sum =0:=fun l=>by induction l with
   | nil=>rfl
   | cons _ _ ih=>rw [AW,Bf,ih];rfl
  rw [this];exact AJ _
 | r::L=>by
  have ih:=y3c f P hP g L;have h1:=w7n (f r) P hP;have: ∀l:List Int,(l.map fun p=>(((r::L).filter fun r=>decide (f r=p)).map g).length).sum =(l.map fun p=>if f r=p then 1 else 0).sum +(l.map fun p=>((L.filter fun r=>decide (f r=p)).map g).length).sum :=fun l=>by
   induction l with
   | nil=>rfl
   | cons p l ih=>
    rw [AW,AW,AW,Bf,Bf,Bf,ih,A9];by_cases e:f r=p
    ·rw [Aw (Ah e),Aw e,AW,AV];omega
    ·rw [At (by simp [e]),At e];omega
  rw [this,AV];omega
theorem y8q {α β:Type} {f g:α→List β}: ∀{l:List α},(∀a∈l,f a=g a)→l.flatMap f=l.flatMap g
 | [],_=>rfl
 | a::l,h=>by rw [BT,BT,h a (by simp),y8q fun x hx=>h x (by simp [hx])]
theorem z6j {α β:Type} (f:α→List β): ∀l:List α,(l.flatMap f).length =(l.map fun a=>(f a).length).sum
 | []=>rfl
 | a::l=>by rw [BT,Az,AW,Bf,z6j f l]
section
variable {L:List R6} (hv: ∀r∈L,Qu r=true) (hl:L.length≤20) (hL:L.Pairwise Ap6)
include hv hl hL
theorem w1q (q:Ax) (s:Bool) (p:Int) (hp: -1000000≤p∧p≤1000000):Vb q L p s=0∧Vw q L p s=fcF q s L p:=by
 have w:wrap .i64 (p - 1)=p - 1:=Zp (by omega);obtain ⟨a1,a2,a3,a4⟩:=y8s q hv hl hL p;obtain ⟨b1,b2,_,_⟩:=y8s q hv hl hL (p - 1);have e:w1r q L p=0:=by unfold w1r Ug;rw [w,b1,a1];rfl
 unfold Vb Vw;rw [e,w];unfold Yg;rw [a2,b2];cases s with
 | true=>exact ⟨a3,by show Wo .d _ _=_;unfold Wo;rw [a3];rfl⟩
 | false=>exact ⟨a4,by show Wo .d _ _=_;unfold Wo;rw [a4];rfl⟩
theorem w9w (q:Ax) {p:Int} (h:p∈plQ q L): -1000000≤p∧p≤1000000:=by
 have _u:=hl;have _v:=hL;obtain ⟨r,hr,h⟩:=(z1h q L p).1 h;obtain ⟨_,h1,h2,h3⟩:=q.val (hv r hr);rcases h with rfl | rfl <;> omega
theorem w6e (q:Ax) (s:Bool):dM q s L=(plQ q L).flatMap fun p=>(fcF q s L p).map (qd q s p):=by unfold dM w7b;exact y8q fun p hp=>by rw [(w1q hv hl hL q s p (w9w hv hl hL q hp)).2]
theorem v2u (q:Ax) (s:Bool):z6p q s L=0:=x4a _ _ fun p hp=>(w1q hv hl hL q s p (w9w hv hl hL q hp)).1
theorem x8w (q:Ax):(dM q true L).length +(dM q false L).length ≤800:=by
 rw [w6e hv hl hL,w6e hv hl hL,z6j,z6j];have hr: ∀r∈L,q.lo r<q.hi r:=fun r h=>(q.val (hv r h)).2.1;have key: ∀P:List Int,(P.map fun p=>((fcF q true L p).map (qd q true p)).length).sum +(P.map fun p=>((fcF q false L p).map (qd q false p)).length).sum ≤20*((P.map fun p=>(hiL q L p).length).sum +(P.map fun p=>(loL q L p).length).sum):=fun P=>by
  induction P with
  | nil=>exact An _
  | cons p P ih=>simp only [AW,Bf,A3] at ih ⊢;have h1:=y9k q hv hl hL p;have h2:=AF (y2z q hr p) hl;have h3:=AI ((hiL q L p).length +(loL q L p).length) h2;have e1:(fcF q true L p).length =(upF q L p).length :=rfl;have e2:(fcF q false L p).length =(dnF q L p).length :=rfl;omega
 have h1:=y3c q.hi (plQ q L) (z2m q L) q.rc L;have h2:=y3c q.lo (plQ q L) (z2m q L) q.rc L;have:=key (plQ q L);unfold hiL loL at this;omega
theorem z7n :y8f L=0∧(Kq L).length ≤2400:=by
 have h1:=x8w hv hl hL .x;have h2:=x8w hv hl hL .y;have h3:=x8w hv hl hL .z;have hn:(Kq L).length ≤2400:=by unfold Kq;simp only [Az];omega
 refine ⟨?_,hn⟩;unfold y8f;simp only [v2u hv hl hL];rw [Ay (by omega)];rfl
end
theorem x6y {L:List R6} (h:Xe L=0) (hl:L.length≤20):Jv L=0∧Zu L=Kq L:=by obtain ⟨_,hv,_,hL⟩:=Wt h;have hz:=(z7n hv hl hL).1;unfold Jv Zu Qa Ve;rw [h,hz];exact ⟨rfl,rfl⟩
theorem Dim.goS_cg {α β:Type} (D:Dim α β) (f g:Int→List β) (cs:List Int): ∀(k i:Nat) (s:Sw α β),(∀j,i≤j→j<i+k→f (rd cs j)=g (rd cs j))→D.goS f cs k i s=D.goS g cs k i s
 | 0,i,s,_=>rfl
 | k+1,i,s,h=>by show D.goS f cs k (i+1) (D.oneS (f (rd cs i)) _ _ s)=D.goS g cs k (i+1) (D.oneS (g (rd cs i)) _ _ s);rw [h i (An _) (by omega)];exact goS_cg D f g cs k (i+1) _ fun j h1 h2=>h j (by omega) (by omega)
theorem y5b {n:Nat} (h:y5c n=0):n≤400:=by
 unfold y5c at h;by_cases q:(n:Int)>400
 ·rw [Ah q] at h;cases h
 ·omega
theorem y3m {l:List R4} (h:Xm l=0):l.length≤400∧(∀r∈l,Vp r=true)∧Zb l=D4.out l:=by
 unfold Xm at h;cases g1:decide (400<l.length) with
 | true=>rw [g1] at h;cases h
 | false=>
  cases g2:l.all Vp with
  | false=>rw [g1,g2] at h;cases h
  | true=>
   rw [g1,g2,Aa,Ab] at h;have hl:l.length≤400:=by have:=Cc g1;omega
   refine ⟨hl,As.1 g2,?_⟩;exact (z7d (As.1 g2) hl (y5b h)).1
theorem w0w {l:List R6}: ∀(k i:Nat),okF l k i=true→ ∀j,i≤j→j<i+k→Xm (D6.inn l (rd (D6.cuts l) j))=0
 | 0,i,h,j,h1,h2=>by omega
 | k+1,i,h,j,h1,h2=>by
  unfold okF at h;rcases Ye (v9i l (rd (D6.cuts l) i)) with q | q
  ·rw [q] at h;cases h
  ·rw [q,Aa] at h;rcases Bw h1 with e | e
   ·rw [←e];unfold v9i at q
    simpa using q
   ·exact w0w k (i+1) h j e (by omega)
theorem w0g {l:List R6} (h:Vg l=0):l.length≤400∧(∀r∈l,Qu r=true)∧okF l ((D6.cuts l).length - 1) 0=true∧(D6.out l).length ≤400:=by
 unfold Vg at h;cases g1:decide (400<l.length) with
 | true=>rw [g1] at h;cases h
 | false=>
  cases g2:l.all Qu with
  | false=>rw [g1,g2] at h;cases h
  | true=>
   rw [g1,g2,Aa,Ab] at h;cases g3:okF l ((D6.cuts l).length - 1) 0 with
   | false=>rw [g3,Aa] at h;have:=v8z _ _ g3;rw [h] at this;cases this
   | true=>rw [g3,Ab] at h;exact ⟨by have:=Cc g1;omega,As.1 g2,rfl,y5b h⟩
theorem w8a {l:List R6} (h:Vg l=0):Yz l=D6.out l:=by unfold Yz x1a;rw [h];rfl
theorem w8b {l:List R6} (h:Vg l=0):x2e.can (Yz l)∧ ∀x y z,inS (Yz l) x y z↔inS l x y z:=by
 obtain ⟨hl,hv,hok,ho⟩:=w0g h;have hf:=w0w _ _ hok;rw [w8a h];have hc:(D6.cuts l).Pairwise (· < ·):=by show (Jp (D6.ends l)).Pairwise (· < ·);rw [Ja];exact (Wx _).1
 have eS:D6.out l=(D6.goS (fun x=>bif Xm (D6.inn l x) != 0 then [] else Zb (D6.inn l x)) (D6.cuts l) ((D6.cuts l).length - 1) 0 ⟨[],[],0,0⟩).out :=by unfold Dim.out;rw [D6.go_goS,D6.goS_cg (D6.sec l) (fun x=>bif Xm (D6.inn l x) != 0 then [] else Zb (D6.inn l x))];intro j h1 h2;show _=bif Xm (D6.inn l _) != 0 then _ else _;rw [hf j h1 h2];rfl
 have hs: ∀x,Xt.can (bif Xm (D6.inn l x) != 0 then [] else Zb (D6.inn l x)):=fun x=>by
  cases g:(Xm (D6.inn l x) != 0) with
  | true=>exact Xt.nil
  | false=>obtain ⟨m1,m2,m3⟩:=y3m (show Xm (D6.inn l x)=0 by simpa using g);rw [Aa,m3];exact (Km m2 m1).1
 obtain ⟨h1,h2⟩:=Dim.goS_can z3g x2g Xt (cs:=D6.cuts l) hc hs;rw [eS];refine ⟨h1,fun x y z=> ?_⟩;rw [v1r,v1r,show ptL x2e.inB _ (z,x,y)↔_ from h2 z (x,y)];have ia: ∀j,j+1<(D6.cuts l).length →rd (D6.cuts l) j≤z→z<rd (D6.cuts l) (j+1)→(ptL Xt.inB (bif Xm (D6.inn l (rd (D6.cuts l) j)) != 0 then [] else Zb (D6.inn l (rd (D6.cuts l) j))) (x,y)↔ptL x2e.inB l (z,x,y)):=fun j j1 j2 j3=>by have q:=hf j (AJ _) (by omega);obtain ⟨m1,m2,m3⟩:=y3m q;rw [q,show ((0:Int) != 0)=false from rfl,Aa,m3,(Km m2 m1).2,Dim.inn_slab l l (fun r hr=>hr) j1 j2 j3];exact Dim.pt_inn (D:=D6) Xt.inB l z (x,y)
 constructor
 ·rintro ⟨j,j1,j2,j3,j4⟩;exact (ia j j1 j2 j3).1 j4
 ·intro hp;refine AP fun hn=> ?_;have hx: ∀j,j+1<(D6.cuts l).length → ¬(rd (D6.cuts l) j≤z∧z<rd (D6.cuts l) (j+1)):=fun j j1 j2=>hn ⟨j,j1,j2.1,j2.2,(ia j j1 j2.1 j2.2).2 hp⟩;have g:=(Dim.pt_inn (D:=D6) Xt.inB l z (x,y)).2 hp;rw [Dim.inn_out l l (fun r hr=>hr) hx] at g;exact z4c _ _ g
theorem y9p {L:List R6} (h:Xe L=0):Vg L=0∧Yz L=L:=by
 have hs:=Wt h;have key:Vg L=0:=by
  unfold Xe at h;unfold Vg;cases g1:decide (400<L.length) with
  | true=>rw [g1] at h;cases h
  | false=>
   cases g2:L.all Qu with
   | false=>rw [g1,g2] at h;cases h
   | true=>
    rw [g1,g2,Aa,Ab] at h;cases g3:okF L ((D6.cuts L).length - 1) 0 with
    | false=>rw [g3] at h;cases h
    | true=>rw [Aa,Ab,Ab];unfold y5c;rw [←hs.2.2.1,Xb (by have:=hs.1;omega)];rfl
 exact ⟨key,(w8a key).trans hs.2.2.1.symm⟩
theorem x5u {L:List R6} (h:Xe L=0):x2e.can L:=by obtain ⟨h1,h2⟩:=y9p h;have:=(w8b h1).1;rwa [h2] at this
theorem v2z (L:List R6) (z:Int):z1k .z L z=D6.inn L z:=rfl
theorem y7w (L:List R6) (z u v:Int):ptL Xt.inB (D6.inn L z) (u,v)↔Ax.inL .z L z u v:=y0q .z L z u v
theorem x8d (k:Nat) {a b:List R4} (ha: ∀r∈a,Vp r=true) (hb: ∀r∈b,Vp r=true) (x:Int):(D4.inn (rgJ k a b) x).length ≤(D4.inn a x).length +(D4.inn b x).length :=by
 obtain ⟨j1,j2,_⟩:=Kg k ha hb;obtain ⟨s1,s2⟩:=z8r k (Vk ha x) (Vk hb x);have e:D4.inn (rgJ k a b) x=spJ k (D4.inn a x) (D4.inn b x):=y3k.uniq _ _ (z7u j1 x) s1 fun y=>by rw [s2];show pt (D4.inn (rgJ k a b) x) y↔_;rw [z4d,j2];have e1:decide (pt (D4.inn a x) y)=decide (ptL Xt.inB a (x,y)):=BF.2 (z4d a x y);have e2:decide (pt (D4.inn b x) y)=decide (ptL Xt.inB b (x,y)):=BF.2 (z4d b x y);rw [e1,e2]
 rw [e];exact z1l k (Vk ha x) (Vk hb x)
theorem w0q {l:List R4} (hl:l.length≤400) (hv: ∀r∈l,Vp r=true) (hc:Xt.can l):Xm l=0∧Zb l=l:=by obtain ⟨h1,h2⟩:=Km hv hl;have e:D4.out l=l:=Xt.uniq _ _ h1 hc h2;obtain ⟨r0,r1⟩:=z7d hv hl (by rw [e];exact hl);exact ⟨r1,r0.trans e⟩
theorem v0c {A B:Prop} [Decidable A] [Decidable B]:opB 2 (decide A) (decide B)=true↔A∧ ¬B:=by simp [opB]
theorem opB1i {A B:Prop} [Decidable A] [Decidable B]:opB 1 (decide A) (decide B)=true↔A∧B:=by simp [opB]
theorem opB0i {A B:Prop} [Decidable A] [Decidable B]:opB 0 (decide A) (decide B)=true↔A∨B:=by simp [opB]
theorem w0s (q:Op) {a b:List R4} (h:rgE q a b=0):Wo q a b=rgJ q.k a b:=by unfold Wo;rw [h];rfl
section
variable {L:List R6} (h:Xe L=0) (hl:L.length≤20)
include h hl
theorem x3u {G:List (Qs R4)} (hG:z2c Xt G) (e:L=D6.flat G) {g:Qs R4} (hg:g∈G) {x:Int} (hx:g.a≤x∧x<g.b):D6.inn L x=g.s:=by
 have hc:=(Wt h).1;have _u:=hl;refine Xt.uniq _ _ (by rw [e];exact Dim.inn_can z3g Xt x G hG) (hG.all g hg).2.1 fun p=> ?_;rw [Dim.pt_inn (D:=D6) Xt.inB L x p,e,Dim.flat_pt z3g Xt G x p];constructor
 ·rintro ⟨k,hk,k1,k2,k3⟩;obtain ⟨i,hi,ei⟩:=AZ hg;obtain ⟨j,hj,ej⟩:=AZ hk;have pw:G.Pairwise fun g k=>g.b≤k.a:=by
   clear e hg hk hi hj ei ej
   induction G with
   | nil=>exact .nil
   | cons m r ih=>exact AR.2 ⟨hG.later,ih hG.tail⟩
  have pw:=Be.1 pw;rcases Bs i j with q | q | q
  ·have:=pw i j hi hj q;rw [ei,ej] at this;omega
  ·subst q;rw [←ei,ej];exact k3
  ·have:=pw j i hj hi q;rw [ei,ej] at this;omega
 ·intro k3;exact ⟨g,hg,hx.1,hx.2,k3⟩
theorem v6t {z:Int} (hz:D6.inn L (z - 1)≠D6.inn L z) {r:R6} (hr:r∈L): ¬(r.c≤z - 1∧z<r.f):=fun hx=>by obtain ⟨G,hG,e⟩:=x5u h;rw [e] at hr;obtain ⟨g,hg,hr⟩:=AO.1 hr;obtain ⟨b,_,rfl⟩:=AN.1 hr;have h1:g.a≤z - 1∧z<g.b:=hx;exact hz ((x3u h hl hG e hg ⟨by omega,by omega⟩).trans (x3u h hl hG e hg ⟨by omega,by omega⟩).symm)
theorem v4j {z:Int} (hz:D6.inn L (z - 1)≠D6.inn L z):(D6.inn L (z - 1)).length +(D6.inn L z).length ≤20:=by
 have hn: ∀r∈L,¬((decide (r.c≤z - 1)&&decide (z - 1<r.f))=true∧(decide (r.c≤z)&&decide (z<r.f))=true):=fun r hr hx=>by simp only [Ac,Aq] at hx;exact v6t h hl hz hr ⟨hx.1.1,hx.2.2⟩
 refine AF ?_ hl;show ((L.filter fun r=>decide (r.c≤z - 1)&&decide (z - 1<r.f)).map _).length +((L.filter fun r=>decide (r.c≤z)&&decide (z<r.f)).map _).length ≤_;rw [A3,A3];clear h hl hz
 induction L with
 | nil=>exact An _
 | cons r l ih=>
  have ih:=ih fun s hs=>hn s (by simp [hs]);have:=hn r (by simp);rw [A9,A9];by_cases q1:(decide (r.c≤z - 1)&&decide (z - 1<r.f))=true
  ·rw [Aw q1,At fun q2=>this ⟨q1,q2⟩];simp only [AV];omega
  ·rw [At q1];by_cases q2:(decide (r.c≤z)&&decide (z<r.f))=true
   ·rw [Aw q2];simp only [AV];omega
   ·rw [At q2];simp only [AV];omega
theorem u5g (z:Int):Xt.can (D6.inn L z)∧(∀r∈D6.inn L z,Vp r=true)∧(D6.inn L z).length ≤20∧D4.out (D6.inn L z)=D6.inn L z:=by
 obtain ⟨_,hv,_,_⟩:=Wt h;obtain ⟨G,hG,e⟩:=x5u h;have c:Xt.can (D6.inn L z):=by rw [e];exact Dim.inn_can z3g Xt z G hG
 have v:=y5i hv z;have n:=AF (D6.inn_length L z) hl;exact ⟨c,v,n,Xt.uniq _ _ (Km v (by omega)).1 c (Km v (by omega)).2⟩
theorem u8m (z:Int):upF .z L z=rgJ 2 (D6.inn L (z - 1)) (D6.inn L z)∧dnF .z L z=rgJ 2 (D6.inn L z) (D6.inn L (z - 1)):=by unfold upF dnF;rw [v2z,v2z,(u5g h hl z).2.2.2,(u5g h hl (z - 1)).2.2.2];exact ⟨rfl,rfl⟩
theorem step_z {z:Int} (hz:D6.inn L (z - 1)≠D6.inn L z):j0o (D6.inn L (z - 1)) (upF .z L z) (dnF .z L z)=false∧x0g (D6.inn L (z - 1)) (upF .z L z) (dnF .z L z)=D6.inn L z:=by
 obtain ⟨a1,a2,a3,_⟩:=u5g h hl (z - 1);obtain ⟨b1,b2,b3,_⟩:=u5g h hl z;have hs:=v4j h hl hz;obtain ⟨_,hv,_,hL⟩:=Wt h;obtain ⟨eu,ed⟩:=u8m h hl z;have hud:=y9k .z hv hl hL z;have hr: ∀r∈L,Ax.lo .z r<Ax.hi .z r:=fun r k=>(Ax.val .z (hv r k)).2.1;have ht:=AF (y2z .z hr z) hl;have h4:((hiL .z L z).length +(loL .z L z).length)*((hiL .z L z).length +(loL .z L z).length)≤400:=AF (B8 ht ht) (by decide);rw [eu,ed] at hud;rw [eu,ed];obtain ⟨u1,u2,_⟩:=Kg 2 a2 b2;obtain ⟨d1,d2,_⟩:=Kg 2 b2 a2;have uv: ∀r∈rgJ 2 (D6.inn L (z - 1)) (D6.inn L z),Vp r=true:=z1b u1 fun u v k=>by have:=(u2 (u,v)).1 k;simp only [opB,Ac,Aq] at this;exact z0p a2 this.1
 have dv: ∀r∈rgJ 2 (D6.inn L z) (D6.inn L (z - 1)),Vp r=true:=z1b d1 fun u v k=>by have:=(d2 (u,v)).1 k;simp only [opB,Ac,Aq] at this;exact z0p b2 this.1
 obtain ⟨m1,m0⟩:=w0q (l:=rgJ 2 (D6.inn L (z - 1)) (D6.inn L z)) (by omega) uv u1;obtain ⟨n1,n0⟩:=w0q (l:=rgJ 2 (D6.inn L z) (D6.inn L (z - 1))) (by omega) dv d1;obtain ⟨r1,r2,_⟩:=Kg 2 a2 uv;obtain ⟨c1,c2,c3⟩:=Kg 1 a2 b2;have er:rgJ 2 (D6.inn L (z - 1)) (rgJ 2 (D6.inn L (z - 1)) (D6.inn L z))=rgJ 1 (D6.inn L (z - 1)) (D6.inn L z):=Xt.uniq _ _ r1 c1 fun p=>by rw [r2,c2,v0c,opB1i,u2 p,v0c];by_cases g1:ptL Xt.inB (D6.inn L (z - 1)) p <;> by_cases g2:ptL Xt.inB (D6.inn L z) p <;> simp [g1,g2]
 have cl:(rgJ 1 (D6.inn L (z - 1)) (D6.inn L z)).length ≤400:=AF c3 (AF (B8 hs hs) (by decide));have i1: ∀x,(D4.inn (D6.inn L (z - 1)) x).length ≤20:=fun x=>AF (D4.inn_length _ x) a3;have i2: ∀x,(D4.inn (D6.inn L z) x).length ≤20:=fun x=>AF (D4.inn_length _ x) b3;have z1:rgE .d (D6.inn L (z - 1)) (rgJ 2 (D6.inn L (z - 1)) (D6.inn L z))=0:=x0b .d (by omega) (by omega) a2 uv a1 u1
  (fun x=>by have:=x8d 2 a2 b2 x;have:=i1 x;have:=i2 x;omega) (by
   show (rgJ 2 (D6.inn L (z - 1)) (rgJ 2 (D6.inn L (z - 1)) (D6.inn L z))).length ≤400;rw [er];exact cl)
 have v1:Wo .d (D6.inn L (z - 1)) (rgJ 2 (D6.inn L (z - 1)) (D6.inn L z))=rgJ 1 (D6.inn L (z - 1)) (D6.inn L z):=(w0s .d z1).trans er;have cv: ∀r∈rgJ 1 (D6.inn L (z - 1)) (D6.inn L z),Vp r=true:=z1b c1 fun u v k=>by have:=(c2 (u,v)).1 k;simp only [opB,Ac,Aq] at this;exact z0p a2 this.1
 obtain ⟨w1,w2,_⟩:=Kg 0 cv dv;have ew:rgJ 0 (rgJ 1 (D6.inn L (z - 1)) (D6.inn L z)) (rgJ 2 (D6.inn L z) (D6.inn L (z - 1)))=D6.inn L z:=Xt.uniq _ _ w1 b1 fun p=>by rw [w2,opB0i,c2 p,opB1i,d2 p,v0c];by_cases g1:ptL Xt.inB (D6.inn L (z - 1)) p <;> by_cases g2:ptL Xt.inB (D6.inn L z) p <;> simp [g1,g2]
 have z2:rgE .u (rgJ 1 (D6.inn L (z - 1)) (D6.inn L z)) (rgJ 2 (D6.inn L z) (D6.inn L (z - 1)))=0:=x0b .u cl (by omega) cv dv c1 d1
  (fun x=>by have:=x8d 1 a2 b2 x;have:=x8d 2 b2 a2 x;have:=i1 x;have:=i2 x;omega) (by
   show (rgJ 0 (rgJ 1 (D6.inn L (z - 1)) (D6.inn L z)) (rgJ 2 (D6.inn L z) (D6.inn L (z - 1)))).length ≤400;rw [ew];omega)
 unfold j0o x0g;rw [m1,n1,m0,n0,z1,v1,z2];exact ⟨rfl,(w0s .u z2).trans ew⟩
end
theorem zQ_nil {d:Int} {l:List R7} (z:Int) (h: ∀r∈l,r.a≠d):zQ d l z=[]:=by unfold zQ;rw [Cl,BG];intro r hr hq;simp only [Ac,Aq] at hq;exact h r hr hq.1
theorem v9o (s:Bool) (p:Int) (l:List R4) (z:Int):zQ (match s with | true=>4 | false=>5) (l.map (qd .z s p)) z=if p=z then l else []:=by
 induction l with
 | nil=>cases s <;> (by_cases e:p=z <;> simp [e,zQ])
 | cons r l ih=>
  rw [AW,show qd .z s p r::l.map (qd .z s p)=[qd .z s p r]++l.map (qd .z s p) from rfl,Wi,ih];by_cases e:p=z
  ·rw [Aw e,Aw e];cases s <;> simp [zQ,qd,e]
  ·rw [At e,At e,AA];cases s <;> simp [zQ,qd,e]
theorem x5a (s:Bool) (F:Int→List R4) (z:Int): ∀P:List Int,P.Pairwise (· < ·)→(z ∉ P→F z=[])→zQ (match s with | true=>4 | false=>5) (P.flatMap fun p=>(F p).map (qd .z s p)) z=F z
 | [],_,h=>by rw [h (by simp)];cases s <;> rfl
 | p::P,hP,h=>by
  obtain ⟨h1,h2⟩:=AR.1 hP;rw [BT,Wi,v9o];by_cases e:p=z
  ·subst e;rw [Aw rfl];have: ∀Q:List Int,(∀x∈Q,p<x)→zQ (match s with | true=>4 | false=>5) (Q.flatMap fun p=>(F p).map (qd .z s p)) p=[]:=fun Q=>by
    induction Q with
    | nil=>intro _;cases s <;> rfl
    | cons x Q ih=>intro hx;rw [BT,Wi,v9o,At (by have:=hx x (by simp);omega),ih fun y hy=>hx y (by simp [hy])];rfl
   rw [this P h1,AA]
  ·rw [At e,Bk];exact x5a s F z P h2 fun hn=>h (by simp [hn,Ne.symm e])
theorem u6s (q:Ax) (s:Bool) (p:Int) (t:R4):(qd q s p t).a =2*q.ix+sdI s:=by cases q <;> cases s <;> rfl
theorem dM_a {q:Ax} {s:Bool} {L:List R6} {r:R7} (h:r∈dM q s L):r.a=2*q.ix+sdI s:=by obtain ⟨p,_,h⟩:=AO.1 h;obtain ⟨t,_,rfl⟩:=AN.1 h;exact u6s q s p t
section
variable {L:List R6} (h:Xe L=0) (hl:L.length≤20)
include h hl
theorem v0g (q:Ax) {p:Int} (hp:p ∉ plQ q L):upF q L p=[]∧dnF q L p=[]:=by
 obtain ⟨_,hv,_,hL⟩:=Wt h;have hr: ∀r∈L,q.lo r<q.hi r:=fun r k=>(q.val (hv r k)).2.1;obtain ⟨u1,u2⟩:=y2y q hv hl p;obtain ⟨d1,d2⟩:=y4x q hv hl p;constructor
 ·refine z1s Xt u1 fun ⟨u,v⟩ k=> ?_;have:=(y9l q hL hr p u v).1 ((u2 u v).1 k);obtain ⟨r,hr,e,_⟩:=(v1t q L p u v).1 this.1;exact hp ((z1h q L p).2 ⟨r,hr,.inr e.symm⟩)
 ·refine z1s Xt d1 fun ⟨u,v⟩ k=> ?_;have:=(z9o q hL hr p u v).1 ((d2 u v).1 k);obtain ⟨r,hr,e,_⟩:=(v1g q L p u v).1 this.1;exact hp ((z1h q L p).2 ⟨r,hr,.inl e.symm⟩)
theorem y2x (z:Int):zQ 4 (Kq L) z=upF .z L z∧zQ 5 (Kq L) z=dnF .z L z:=by
 obtain ⟨_,hv,_,hL⟩:=Wt h;have f4:=x5a true (fcF .z true L) z (plQ .z L) (z2m .z L) fun hn=>(v0g h hl .z hn).1;have f5:=x5a false (fcF .z false L) z (plQ .z L) (z2m .z L) fun hn=>(v0g h hl .z hn).2;rw [←w6e hv hl hL] at f4 f5;have no: ∀(d:Int) (q:Ax) (s:Bool),d≠2*q.ix+sdI s→zQ d (dM q s L) z=[]:=fun d q s hd=>zQ_nil z fun r hr e=>hd (e ▸ dM_a hr);unfold Kq;constructor
 ·rw [Wi,Wi,Wi,Wi,Wi,no 4 .x true (by decide),no 4 .x false (by decide),no 4 .y true (by decide),no 4 .y false (by decide),no 4 .z false (by decide),AA];exact f4
 ·rw [Wi,Wi,Wi,Wi,Wi,no 5 .x true (by decide),no 5 .x false (by decide),no 5 .y true (by decide),no 5 .y false (by decide),no 5 .z true (by decide)];exact f5
theorem x6w (z:Int):z∈plZ (Kq L)↔D6.inn L (z - 1)≠D6.inn L z:=by
 obtain ⟨_,hv,_,hL⟩:=Wt h;obtain ⟨u1,u2⟩:=y2y .z hv hl z;obtain ⟨d1,d2⟩:=y4x .z hv hl z;have hm:z∈plZ (Kq L)↔upF .z L z≠ []∨dnF .z L z≠ []:=by
  unfold plZ;rw [Ja,(Wx _).2 z];unfold zsQ;constructor
  ·intro k;obtain ⟨r,hr,e⟩:=AN.1 k;obtain ⟨hr,ha⟩:=A0.1 hr;have ha:=AE ha;have key:r.a=4∨r.a=5:=by
    unfold Kq at hr;simp only [AC] at hr;rcases hr with ((((hr | hr) | hr) | hr) | hr) | hr <;> have e:=dM_a hr
    ·have e:r.a=0:=e;omega
    ·have e:r.a=1:=e;omega
    ·have e:r.a=2:=e;omega
    ·have e:r.a=3:=e;omega
    ·exact .inl e
    ·exact .inr e
   have me: ∀d,r.a=d→zQ d (Kq L) z≠ []:=fun d hd hn=>by unfold zQ at hn;rw [Cl,BG] at hn;exact hn r hr (by simp [hd,e])
   rcases key with e4 | e5
   ·exact .inl (by rw [←(y2x h hl z).1];exact me 4 e4)
   ·exact .inr (by rw [←(y2x h hl z).2];exact me 5 e5)
  ·intro k;have me: ∀d,4≤d→zQ d (Kq L) z≠ []→z∈((Kq L).filter fun r=>decide (4≤r.a)).map (·.d):=fun d hd hn=>by obtain ⟨t,ht⟩:=List.exists_mem_of_ne_nil _ hn;obtain ⟨r,hr,_⟩:=AN.1 ht;obtain ⟨hr,hq⟩:=A0.1 hr;simp only [Ac,Aq] at hq;exact AN.2 ⟨r,A0.2 ⟨hr,Ah (by omega)⟩,hq.2⟩
   rcases k with k | k
   ·exact me 4 (by decide) (by rw [(y2x h hl z).1];exact k)
   ·exact me 5 (by decide) (by rw [(y2x h hl z).2];exact k)
 rw [hm];constructor
 ·rintro hk e;rcases hk with hk | hk
  ·refine hk (z1s Xt u1 fun ⟨u,v⟩ k=> ?_);have k:=(u2 u v).1 k;rw [←y7w,←y7w,e] at k;exact k.2 k.1
  ·refine hk (z1s Xt d1 fun ⟨u,v⟩ k=> ?_);have k:=(d2 u v).1 k;rw [←y7w,←y7w,e] at k;exact k.2 k.1
 ·intro hn;refine AP fun hk=>hn ?_;rw [not_or,Decidable.not_not,Decidable.not_not] at hk;refine Xt.uniq _ _ (u5g h hl (z - 1)).1 (u5g h hl z).1 fun ⟨u,v⟩=> ?_;rw [y7w,y7w];have a:=u2 u v;have b:=d2 u v;rw [hk.1] at a;rw [hk.2] at b;have a: ¬(Ax.inL .z L (z - 1) u v∧ ¬Ax.inL .z L z u v):=fun k=>z4c _ _ (a.2 k);have b: ¬(Ax.inL .z L z u v∧ ¬Ax.inL .z L (z - 1) u v):=fun k=>z4c _ _ (b.2 k);exact ⟨fun k=>AP fun m=>a ⟨k,m⟩,fun k=>AP fun m=>b ⟨k,m⟩⟩
theorem far {x:Int} (hx:x< -1000000∨1000000≤x):D6.inn L x=[]:=by have _u:=hl;obtain ⟨_,hv,_,_⟩:=Wt h;show (L.filter _).map _=[];rw [Cl,BG];intro r hr hq;have:=z6u (hv r hr);simp only [Ac,Aq] at hq;have h1:r.c≤x:=hq.1;have h2:x<r.f:=hq.2;omega
end
theorem const (S:Int→List R4) (a:Int): ∀n:Nat,(∀x,a<x→x≤a+n→S (x - 1)=S x)→S (a+n)=S a
 | 0,_=>by rw [show a+((0:Nat):Int)=a by omega]
 | n+1,h=>by
  have:=const S a n fun x h1 h2=>h x h1 (by omega);rw [←this,←h (a+((n+1:Nat):Int)) (by omega) (A1 _)]
  congr 1;omega
theorem const' (S:Int→List R4) {a b:Int} (hab:a≤b) (h: ∀x,a<x→x≤b→S (x - 1)=S x):S b=S a:=by have:=const S a (b - a).toNat fun x h1 h2=>h x h1 (by omega);rw [show a+((b - a).toNat :Int)=b by omega] at this;exact this
structure Chg (S:Int→List R4) (r:List Int) (lo:Int):Prop where
 asc:r.Pairwise (· < ·)
 low: ∀z∈r,lo≤z
 ne: ∀z∈r,S (z - 1)≠S z
 all: ∀x,lo≤x→S (x - 1)≠S x→x∈r
theorem Chg.tail {S:Int→List R4} {z lo:Int} {r:List Int} (h:Chg S (z::r) lo):Chg S r (z+1):=by
 obtain ⟨h1,h2⟩:=AR.1 h.asc;refine ⟨h2,fun x hx=>by have:=h1 x hx;omega,fun x hx=>h.ne x (by simp [hx]),fun x hx hn=> ?_⟩;have:=h.low z (by simp);rcases AB.1 (h.all x (by omega) hn) with e | e
 ·omega
 ·exact e
theorem Chg.flat {S:Int→List R4} {lo:Int} {r:List Int} (h:Chg S r lo) {x:Int} (hx:lo - 1≤x) (hr: ∀z∈r,x<z):S x=S (lo - 1):=
 const' S hx fun y h1 h2=>AP fun hn=>by have:=hr y (h.all y (by omega) hn);omega
def bxs (S:Int→List R4):List Int→List R6
 | []=>[]
 | z::r=>(match r with
  | []=>[]
  | z'::_=>(S z).map (pz6 z z'))++bxs S r
def gbs (S:Int→List R4):List Int→List (Qs R4)
 | []=>[]
 | z::r=>(match r with
  | []=>[]
  | z'::_=>match S z with
   | []=>[]
   | t::s=>[⟨z,z',t::s⟩])++gbs S r
theorem w2k (S:Int→List R4): ∀r,D6.flat (gbs S r)=bxs S r
 | []=>rfl
 | [z]=>rfl
 | z::z'::r=>by
  have ih:=w2k S (z'::r);show D6.flat ((match S z with | []=>[] | t::s=>[⟨z,z',t::s⟩])++gbs S (z'::r))=(S z).map (pz6 z z')++bxs S (z'::r);rw [D6.flat_append,ih]
  congr 1
  cases S z with
  | nil=>rfl
  | cons t s=>exact D6.flat_one _
theorem x0y (S:Int→List R4): ∀(r:List Int) (lo:Int),Chg S r lo→ ∀g∈gbs S r,g.a∈r∧g.a<g.b∧g.s=S g.a∧g.s≠ []∧ ∀x,g.a≤x→x<g.b→S x=g.s
 | [],_,_,g,hg=>by cases hg
 | [z],_,_,g,hg=>by cases hg
 | z ::z'::r,lo,h,g,hg=>by
  have ht:=h.tail;rcases AC.1 hg with hg | hg
  ·have hz:=ht.low z' (by simp);have ht2:=(AR.1 ht.asc).1;have cst: ∀x,z≤x→x<z'→S x=S z:=fun x h1 h2=>by
    have:=ht.flat (x:=x) (by omega) fun y hy=>by
     rcases AB.1 hy with rfl | hy
     ·exact h2
     ·have:=ht2 y hy;omega
    rw [this,show z+1 - 1=z by omega]
   have hg:g∈(match S z with | []=>[] | t::s=>[(⟨z,z',t::s⟩:Qs R4)]):=hg;cases e:S z with
   | nil=>rw [e] at hg;cases hg
   | cons t s=>rw [e] at hg;obtain rfl:=AM.1 hg;exact ⟨by simp,by show z<z';omega,e.symm,by simp,fun x h1 h2=>(cst x h1 h2).trans e⟩
  ·obtain ⟨g1,g2⟩:=x0y S (z'::r) (z+1) ht g hg;exact ⟨by simp only [AB] at g1 ⊢;exact .inr g1,g2⟩
theorem v1z (S:Int→List R4) (hS: ∀x,Xt.can (S x)): ∀(r:List Int) (lo:Int),Chg S r lo→z2c Xt (gbs S r)
 | [],_,_=>.nil
 | [z],_,_=>.nil
 | z ::z'::r,lo,h=>by
  have ht:=h.tail;have ih:=v1z S hS (z'::r) (z+1) ht;have hz:=ht.low z' (by simp);have ht2:=(AR.1 ht.asc).1;show z2c Xt ((match S z with | []=>[] | t::s=>[⟨z,z',t::s⟩])++gbs S (z'::r));cases e:S z with
  | nil=>exact ih
  | cons t s=>
   have ok:OkS Xt (⟨z,z',t::s⟩:Qs R4):=⟨by show z<z';omega,by show Xt.can (t::s);rw [←e];exact hS z,by simp⟩
   cases eg:gbs S (z'::r) with
   | nil=>exact .one _ ok
   | cons k G=>
    rw [eg] at ih;obtain ⟨m1,_,m3,_⟩:=x0y S (z'::r) (z+1) ht k (by rw [eg];simp);refine .cons _ k G ok ⟨?_,fun eb es=> ?_⟩ ih
    ·show z'≤k.a;rcases AB.1 m1 with e | e
     ·omega
     ·have:=ht2 _ e;omega
    ·have eb:z'=k.a:=eb;have es:t::s=k.s:=es;have c:=ht.flat (x:=z' - 1) (by omega) fun y hy=>by
      rcases AB.1 hy with rfl | hy
      ·omega
      ·have:=ht2 y hy;omega
     refine ht.ne z' (by simp) ?_;rw [c,show z+1 - 1=z by omega,e,es,m3,←eb]
theorem v1y (S:Int→List R4) (hf: ∀x,1000000≤x→S x=[]): ∀(r:List Int) (lo:Int),Chg S r lo→S (lo - 1)=[]→ ∀x,S x≠ []→lo≤x→ ∃g∈gbs S r,g.a≤x∧x<g.b
 | [],lo,h,h0,x,hx,hlo=>by refine (hx ?_).elim;rw [h.flat (by omega) (by simp),h0]
 | [z],lo,h,h0,x,hx,hlo=>by
  have hz:=h.low z (by simp);by_cases q:x<z
  ·refine (hx ?_).elim;rw [h.flat (by omega) (by simpa using q),h0]
  ·refine (hx ?_).elim;have ht:=h.tail;have e1:=ht.flat (x:=x) (by omega) (by simp);have e2:=ht.flat (x:=x+2000000+z.natAbs) (by omega) (by simp);rw [e1,←e2];exact hf _ (by omega)
 | z ::z'::r,lo,h,h0,x,hx,hlo=>by
  have ht:=h.tail;have hz:=h.low z (by simp);have hz':=ht.low z' (by simp);have ht2:=(AR.1 ht.asc).1;by_cases q:x<z
  ·refine (hx ?_).elim;rw [h.flat (by omega) fun y hy=>by
    rcases AB.1 hy with rfl | hy
    ·exact q
    ·have:=(AR.1 h.asc).1 y hy;omega,h0]
  by_cases q2:x<z'
  ·have c:S x=S z:=by
    have:=ht.flat (x:=x) (by omega) fun y hy=>by
     rcases AB.1 hy with rfl | hy
     ·exact q2
     ·have:=ht2 y hy;omega
    rw [this,show z+1 - 1=z by omega]
   cases e:S z with
   | nil=>exact (hx (c.trans e)).elim
   | cons t s=>refine ⟨⟨z,z',t::s⟩,?_,by show z≤x;omega,q2⟩;show _∈(match S z with | []=>[] | t::s=>[⟨z,z',t::s⟩])++gbs S (z'::r);rw [e];simp
  ·have go: ∃g∈gbs S (z'::r),g.a≤x∧x<g.b:=by
    by_cases hS:S z=[]
    ·exact v1y S hf (z'::r) (z+1) ht (by rw [show z+1 - 1=z by omega];exact hS) x hx (by omega)
    ·-- the section before z' is not empty: start at z'
     exact gbs_hit2 S hf z' r ((z+1)) ht x hx (by omega)
   obtain ⟨g,hg,hh⟩:=go;exact ⟨g,AC.2 (.inr hg),hh⟩
where
 gbs_hit2 (S:Int→List R4) (hf: ∀x,1000000≤x→S x=[]) (z':Int): ∀(r:List Int) (lo:Int),Chg S (z'::r) lo→ ∀x,S x≠ []→z'≤x→ ∃g∈gbs S (z'::r),g.a≤x∧x<g.b
  | [],lo,h,x,hx,hlo=>by refine (hx ?_).elim;have ht:=h.tail;have e1:=ht.flat (x:=x) (by omega) (by simp);have e2:=ht.flat (x:=x+2000000+z'.natAbs) (by omega) (by simp);rw [e1,←e2];exact hf _ (by omega)
  | z2::r,lo,h,x,hx,hlo=>by
   have ht:=h.tail;have hz':=ht.low z2 (by simp);have ht2:=(AR.1 ht.asc).1;by_cases q2:x<z2
   ·have c:S x=S z':=by
     have:=ht.flat (x:=x) (by omega) fun y hy=>by
      rcases AB.1 hy with rfl | hy
      ·exact q2
      ·have:=ht2 y hy;omega
     rw [this,show z'+1 - 1=z' by omega]
    cases e:S z' with
    | nil=>exact (hx (c.trans e)).elim
    | cons t s=>refine ⟨⟨z',z2,t::s⟩,?_,by show z'≤x;omega,q2⟩;show _∈(match S z' with | []=>[] | t::s=>[⟨z',z2,t::s⟩])++gbs S (z2::r);rw [e];simp
   ·obtain ⟨g,hg,hh⟩:=gbs_hit2 S hf z2 r (z'+1) ht x hx (by omega);exact ⟨g,AC.2 (.inr hg),hh⟩
theorem z9m {x y z:Int} (hx: -1000000≤x∧x≤1000000) (hy: -1000000≤y∧y≤1000000) (hz: -1000000≤z∧z≤1000000):v2g x y z=true:=by
 unfold v2g;rw [Ac,Aq,Aq];unfold z5j z5k;constructor
 ·(repeat' split) <;> omega
 ·(repeat' split) <;> omega
theorem u4n (q:Ax) (s:Bool) {p:Int} (hp: -1000000≤p∧p≤1000000) {t:R4} (ht:Vp t=true):w0a (qd q s p t)=true:=by
 simp only [Vp,Ac,Aq] at ht;have bb: ∀{x:Int},(-1000000≤x∧x≤1000000)→(-1000000≤x∧x≤1000000):=fun h=>h;have ha: -1000000≤t.a∧t.a≤1000000:=by omega
 have hb: -1000000≤t.b∧t.b≤1000000:=by omega
 have hc: -1000000≤t.c∧t.c≤1000000:=by omega
 have hd: -1000000≤t.d∧t.d≤1000000:=by omega
 have h1:decide (t.a<t.c)=true:=Ah (by omega);have h2:decide (t.b<t.d)=true:=Ah (by omega);have hq:(p == p)=true:=by simp
 cases q <;> cases s <;> unfold w0a qd <;> simp only [z9m hp ha hb,z9m hp hc hd,z9m ha hp hb,z9m hc hp hd,z9m ha hb hp,z9m hc hd hp,h1,h2,hq] <;> rfl
section
variable {L:List R6} (h:Xe L=0) (hl:L.length≤20)
include h hl
theorem v2i (q:Ax) (s:Bool) (p:Int): ∀t∈fcF q s L p,Vp t=true:=by
 obtain ⟨_,hv,_,hL⟩:=Wt h;have f1:=fw q hv hl (p - 1);have f2:=fw q hv hl p;cases s with
 | true=>obtain ⟨u1,u2⟩:=y2y q hv hl p;refine z1b u1 fun u v k=> ?_;have:=((u2 u v).1 k).1;rw [←y0q,←f1.pts] at this;exact z0p f1.val this
 | false=>obtain ⟨u1,u2⟩:=y4x q hv hl p;refine z1b u1 fun u v k=> ?_;have:=((u2 u v).1 k).1;rw [←y0q,←f2.pts] at this;exact z0p f2.val this
theorem x0n {r:R7} (hr:r∈Kq L): ∃q s p t,p∈plQ q L∧t∈fcF q s L p∧r=qd q s p t:=by
 obtain ⟨_,hv,_,hL⟩:=Wt h;have go: ∀q s,r∈dM q s L→ ∃q s p t,p∈plQ q L∧t∈fcF q s L p∧r=qd q s p t:=fun q s k=>by rw [w6e hv hl hL] at k;obtain ⟨p,hp,k⟩:=AO.1 k;obtain ⟨t,ht,rfl⟩:=AN.1 k;exact ⟨q,s,p,t,hp,ht,rfl⟩
 unfold Kq at hr;simp only [AC] at hr;rcases hr with ((((hr | hr) | hr) | hr) | hr) | hr
 ·exact go _ _ hr
 ·exact go _ _ hr
 ·exact go _ _ hr
 ·exact go _ _ hr
 ·exact go _ _ hr
 ·exact go _ _ hr
theorem z9c :z3k (Kq L)=0∧We (Kq L)=true:=by
 obtain ⟨_,hv,_,hL⟩:=Wt h;have hn:=(z7n hv hl hL).2;constructor
 ·unfold z3k;rw [Ay (by omega),As.2 fun r hr=> ?_];rfl;obtain ⟨q,s,p,t,hp,ht,rfl⟩:=x0n h hl hr;exact u4n q s (w9w hv hl hL q hp) (v2i h hl q s p t ht)
 ·refine As.2 fun r hr=> ?_;obtain ⟨q,s,p,t,hp,ht,rfl⟩:=x0n h hl hr;rw [u6s];cases q <;> cases s <;> rfl
theorem w2s :Chg (D6.inn L) (plZ (Kq L)) (-1000000):=by refine ⟨by unfold plZ;rw [Ja];exact (Wx _).1,fun z hz=> ?_,fun z hz=>(x6w h hl z).1 hz,fun x _ hn=>(x6w h hl x).2 hn⟩;refine AP fun hn=>(x6w h hl z).1 hz ?_;rw [far h hl (.inl (by omega)),far h hl (.inl (by omega))]
theorem u3u : ∀(r:List Int) (lo:Int) (bx:List R6),Chg (D6.inn L) r lo→goP (Kq L) r (D6.inn L (lo - 1)) bx=some (bx++bxs (D6.inn L) r)
 | [],lo,bx,_=>by simp [goP,bxs]
 | z::r,lo,bx,c=>by
  have hz:=c.low z (by simp);have hc:=(AR.1 c.asc).1;have e:D6.inn L (lo - 1)=D6.inn L (z - 1):=(c.flat (x:=z - 1) (by omega) fun y hy=>by
   rcases AB.1 hy with rfl | hy
   ·omega
   ·have:=hc y hy;omega).symm
  obtain ⟨s1,s2⟩:=step_z h hl (c.ne z (by simp));obtain ⟨q4,q5⟩:=y2x h hl z;have ih:=fun b=>u3u r (z+1) b c.tail;rw [show z+1 - 1=z by omega] at ih;rw [e];unfold goP;rw [q4,q5,s1,Aa,s2,ih,AL];rfl
theorem v9g :bxs (D6.inn L) (plZ (Kq L))=L:=by
 have c:=w2s h hl;have hS: ∀x,Xt.can (D6.inn L x):=fun x=>(u5g h hl x).1;have hf: ∀x,1000000≤x→D6.inn L x=[]:=fun x hx=>far h hl (.inr hx);have hg:=v1z (D6.inn L) hS _ _ c;rw [←w2k];refine x2e.uniq _ _ ⟨_,hg,rfl⟩ (x5u h) fun ⟨x,p⟩=> ?_;rw [show ptL x2e.inB (D6.flat (gbs (D6.inn L) (plZ (Kq L)))) (x,p)↔_ from Dim.flat_pt z3g Xt _ x p,show ptL x2e.inB L (x,p)↔_ from (Dim.pt_inn (D:=D6) Xt.inB L x p).symm];constructor
 ·rintro ⟨g,hg,g1,g2,g3⟩;obtain ⟨_,_,_,_,m⟩:=x0y (D6.inn L) _ _ c g hg;rw [m x g1 g2];exact g3
 ·intro k;have hx:D6.inn L x≠ []:=fun e=>by rw [e] at k;exact z4c _ _ k
  have hlo: -1000000≤x:=AP fun hn=>hx (far h hl (.inl (by omega)));obtain ⟨g,hg,g1,g2⟩:=v1y (D6.inn L) hf _ _ c (far h hl (.inl (by omega))) x hx hlo;obtain ⟨_,_,_,_,m⟩:=x0y (D6.inn L) _ _ c g hg;exact ⟨g,hg,g1,g2,by rw [←m x g1 g2];exact k⟩
theorem back :z5p (Kq L)=0∧z0f (Kq L)=L:=by
 obtain ⟨_,hv,_,hL⟩:=Wt h;have hc:=(z9c h hl).1;have hg:goP (Kq L) (plZ (Kq L)) [] []=some L:=by have:=u3u h hl (plZ (Kq L)) (-1000000) [] (w2s h hl);rw [far h hl (.inl (by omega)),v9g h hl] at this;exact this
 obtain ⟨m1,m0⟩:=y9p h;have hz:=(z7n hv hl hL).1;have e:u2y (Kq L)=0:=by unfold u2y;rw [hc,hg];show w6z (Kq L) L=0;unfold w6z Qa Ve;rw [m1,m0,hz,show y0e (x1a 0 (Kq L)) (Kq L)=true from Ah rfl];rfl
 refine ⟨e,?_⟩;unfold z0f msoL;rw [e,hg];show Yz L=L;exact m0
end
def two2 :List R6:=[⟨0,0,0,1,1,1⟩,⟨1,1,0,2,2,1⟩]
theorem srt01 :Xv [0,1]=[0,1]:=List.mergeSort_of_pairwise (by simp)
theorem u4e (a b:Int) (h:a<b):y3k.can [⟨a,b⟩]:=⟨by simpa using h,by simp⟩
theorem w8f :Xe two2=0:=by
 refine z4p (by decide) ?_ ⟨[⟨0,1,[⟨0,0,1,1⟩,⟨1,1,2,2⟩]⟩],.one _ ⟨by decide,⟨[⟨0,1,[⟨0,1⟩]⟩,⟨1,2,[⟨1,2⟩]⟩],?_,rfl⟩,by simp⟩,rfl⟩
 ·intro r hr;simp only [two2,AB,Bm,Ca] at hr;rcases hr with rfl | rfl <;> rfl
 ·exact .cons _ _ [] ⟨by decide,u4e 0 1 (by decide),by simp⟩ ⟨by decide,fun _=>by simp⟩ (.one _ ⟨by decide,u4e 1 2 (by decide),by simp⟩)
def one1 :List R6:=[⟨0,0,0,2,1,1⟩]
theorem y9t :Xe one1=0:=by refine z4p (by decide) ?_ ⟨[⟨0,1,[⟨0,0,2,1⟩]⟩],.one _ ⟨by decide,⟨[⟨0,2,[⟨0,1⟩]⟩],.one _ ⟨by decide,u4e 0 1 (by decide),by simp⟩,rfl⟩,by simp⟩,rfl⟩;intro r hr;obtain rfl:=AM.1 hr;rfl
theorem can2 (r:R4) (h1:r.a<r.c) (h2:r.b<r.d):Xt.can [r]:=⟨[⟨r.a,r.c,[⟨r.b,r.d⟩]⟩],.one _ ⟨h1,u4e _ _ h2,by simp⟩,rfl⟩
theorem Qw (q:Ax) {r:R6} (hr:Qu r=true) (p:Int):upF q [r] p=(if p=q.hi r then [q.rc r] else [])∧dnF q [r] p=(if p=q.lo r then [q.rc r] else []):=by
 have hv: ∀s∈ [r],Qu s=true:=fun s hs=>by rw [AM.1 hs];exact hr
 have hL: [r].Pairwise Ap6:=by simp
 have hlt: ∀s∈ [r],q.lo s<q.hi s:=fun s hs=>(q.val (hv s hs)).2.1;obtain ⟨u1,u2⟩:=y2y q hv (by simp) p;obtain ⟨d1,d2⟩:=y4x q hv (by simp) p;have hlo:=hlt r (by simp);have c:Xt.can [q.rc r]:=by have:=(q.val hr).1;simp only [Vp,Ac,Aq] at this;exact can2 _ this.1 this.2.1
 have ci: ∀P:Prop,∀i:Decidable P,Xt.can (@ite _ P i [q.rc r] []):=fun P i=>by
  by_cases h:P
  ·rw [Aw h];exact c
  ·rw [At h];exact Xt.nil
 constructor
 ·refine Xt.uniq _ _ u1 (ci _ _) fun ⟨u,v⟩=> ?_;rw [u2,y9l q hL hlt,v1t,v1g,v6o];by_cases e:p=q.hi r
  ·rw [Aw e];constructor
   ·rintro ⟨⟨s,hs,_,k⟩,_⟩;rw [AM.1 hs] at k;exact ⟨_,by simp,k⟩
   ·rintro ⟨s,hs,k⟩;rw [AM.1 hs] at k;refine ⟨⟨r,by simp,e.symm,k⟩,?_⟩;rintro ⟨s,hs,e2,_⟩;rw [AM.1 hs] at e2;omega
  ·rw [At e];constructor
   ·rintro ⟨⟨s,hs,e2,_⟩,_⟩;rw [AM.1 hs] at e2;exact (e e2.symm).elim
   ·rintro ⟨s,hs,_⟩;cases hs
 ·refine Xt.uniq _ _ d1 (ci _ _) fun ⟨u,v⟩=> ?_;rw [d2,z9o q hL hlt,v1t,v1g,v6o];by_cases e:p=q.lo r
  ·rw [Aw e];constructor
   ·rintro ⟨⟨s,hs,_,k⟩,_⟩;rw [AM.1 hs] at k;exact ⟨_,by simp,k⟩
   ·rintro ⟨s,hs,k⟩;rw [AM.1 hs] at k;refine ⟨⟨r,by simp,e.symm,k⟩,?_⟩;rintro ⟨s,hs,e2,_⟩;rw [AM.1 hs] at e2;omega
  ·rw [At e];constructor
   ·rintro ⟨⟨s,hs,e2,_⟩,_⟩;rw [AM.1 hs] at e2;exact (e e2.symm).elim
   ·rintro ⟨s,hs,_⟩;cases hs
theorem u2d (q:Ax) (r:R6) (h:q.lo r<q.hi r):plQ q [r]=[q.lo r,q.hi r]:=z2a _ _ (z2m q _) (by simp [h]) fun x=>by rw [z1h];simp
theorem v7h :Kq one1=[⟨0,2,0,0,2,1,1⟩,⟨1,0,0,0,0,1,1⟩,⟨2,0,1,0,2,1,1⟩,⟨3,0,0,0,2,0,1⟩,⟨4,0,0,1,2,1,1⟩,⟨5,0,0,0,2,1,0⟩]:=by
 obtain ⟨_,hv,_,hL⟩:=Wt y9t;have hr:=hv ⟨0,0,0,2,1,1⟩ (by simp [one1]);have up: ∀(q:Ax) (s:Bool),dM q s one1=[match s with | true=>qd q true (q.hi ⟨0,0,0,2,1,1⟩) (q.rc ⟨0,0,0,2,1,1⟩) | false=>qd q false (q.lo ⟨0,0,0,2,1,1⟩) (q.rc ⟨0,0,0,2,1,1⟩)]:=fun q s=>by
  have hlt:=(q.val hr).2.1;rw [w6e hv (by decide) hL,show plQ q one1=_ from u2d q _ hlt];cases s with
  | true=>show (upF q one1 _).map _++((upF q one1 _).map _++[])=_;rw [show∀p,upF q one1 p=_ from fun p=>(Qw q hr p).1,show∀p,upF q one1 p=_ from fun p=>(Qw q hr p).1,At (by omega),Aw rfl];rfl
  | false=>show (dnF q one1 _).map _++((dnF q one1 _).map _++[])=_;rw [show∀p,dnF q one1 p=_ from fun p=>(Qw q hr p).2,show∀p,dnF q one1 p=_ from fun p=>(Qw q hr p).2,Aw rfl,At (by omega)];rfl
 unfold Kq;rw [up,up,up,up,up,up];rfl
theorem w9x :z5q two2=1∧y0j two2=0:=by
 refine ⟨?_,w8f⟩;unfold z5q;rw [w8f];have ex:y6d .x two2 two2.length=0:=by kernel_rfl
 have ey:y6d .y two2 two2.length=0:=by kernel_rfl
 have ez:y6d .z two2 two2.length=1:=by
  show 0+v5m .z two2 0+v5m .z two2 1=1;have e0:v5m .z two2 0=0:=by kernel_rfl
  have e1:v5m .z two2 1=w4q .z two2 1 1 0 1 true+0:=by kernel_rfl
  rw [e0,e1,Bp];unfold w4q;rw [show ([0,1]++cutO .z 0 1 two2:List Int)=[0,1] by kernel_rfl,srt01];have e2:(0:Int)+0+(bif decide ((0:Int)≥1) then 0 else wrap .i64 (sgL (gO .z two2 1 1 0) [0,1]))=1:=by kernel_rfl
  exact e2
 rw [ex,ey,ez];rfl
theorem v9k : ∃N,Yj x1j N z8j=.ret [.bool true]:=by refine ⟨0,?_⟩;obtain ⟨o1,o0⟩:=x6y y9t (by decide);obtain ⟨b1,b0⟩:=back y9t (by decide);have w:=(z9c y9t (by decide)).2;rw [v7h] at o0 b1 b0 w;unfold z8j;have e1:([(R6.mk 0 0 0 2 1 1)]:List R6)=one1:=rfl;have e2:([(R6.mk 0 0 0 1 1 1),(R6.mk 1 1 0 2 2 1)]:List R6)=two2:=rfl;simp only [Za,e1,e2,o1,o0,b1,b0,show Kt one1=true from rfl,show z1t two2=true from rfl,w9x.1,w9x.2,w,show Vi one1 one1=true from rfl,show Kk one1 one1=true from Ah rfl];rfl
def fAl :List AVal→Option (AVal×Bool)
 | []=>some (.bool true,true)
 | _=>none
theorem fAl_ok {S:Specs} (hS:Zj prog S):Zj prog (S.with w1g fAl):=by
 refine z3m hS (by kernel_rfl) fun args v h=> ?_;unfold fAl at h;split at h
 ·simp only [Ae,Ad,Cp] at h;subst h;obtain ⟨N,hN⟩:=v9k;exact ⟨_,_,.nil,rfl,v3t N _ hN,3,rfl⟩
 ·cases h
def Ml :Specs:=(Nk.with w1g fAl)
theorem Ml_ok :Zj prog Ml:=(fAl_ok y1c)
def a7 (r:R7):Int:=w4z r.a r.b r.c r.d r.e r.f r.g
theorem v1c {r:R7} (h0:0≤r.a) (h:w0a r=true):Ux r.a r.b r.c r.d r.e r.f r.g=true:=by have:=w7i h;unfold Ux;rw [Ah h0,Ah this];rfl
theorem u2e {L:List R7} (h:We L=true) {r:R7} (hr:r∈L):0≤r.a:=by have:=As.1 h r hr;simp only [Ac,Aq] at this;exact this.1
def v1f (L:List R7):Int:=bif z3k L != 0 then 0 else wrap .i64 (sm L a7)
def z0x (L:List R7):Int:=z3k L
def z7p (L:List R7):Bool:=We L
theorem u3s (L:List R7) (hl:L.length≤3000) (ho: ∀r∈L,0≤r.a∧w0a r=true): ∀(k i:Nat) (S:Int),i+k=L.length→ ∃N,Yj (z9e L) N (.to (.h0 (wrap .i64 S) (i:Int)))=.ret [.int .i64 (wrap .i64 (S+sm (L.drop i) a7)),.int .i64 0]
 | 0,i,S,h=>by refine ⟨1,?_⟩;rw [Zv,Au (by omega),w7z,Bp];simp (disch:=omega) only [z9e,Yw,Aa,Zg]
 | k+1,i,S,h=>by
  have hi:i<L.length:=by omega
  obtain ⟨N,hN⟩:=u3s L hl ho k (i+1) (S+a7 (rd L i)) (by omega);refine ⟨N+1,?_⟩;have hm:rd L i∈L:=by rw [Xp hi];exact AS hi
  have o:=v1c (ho _ hm).1 (ho _ hm).2;have w:wrap .i64 (wrap .i64 S+w4z (rd L i).a (rd L i).b (rd L i).c (rd L i).d (rd L i).e (rd L i).f (rd L i).g)=wrap .i64 (S+a7 (rd L i)):=Cg.eq ((Cg.wrap S).add (Cg.refl _));rw [Zv,Ym hi,x5m,←Int.add_assoc,←hN]
  congr 1
  simp (disch:=omega) only [z9e,Zs,Zt,Zp,Zx,Zk,o,w,Ai,Ab]
theorem u7v (L:List R7) (h:z7p L=true): ∃N,Yj (z9e L) N (y2i L)=.ret [.int .i64 (v1f L),.int .i64 (z0x L)]:=by
 unfold y2i v1f z0x;simp only [Za,show We L=true from h,Ab];rcases Ye (z3k L != 0) with q1 | q1
 ·exact ⟨0,by simp only [q1,Ab];rfl⟩
 ·have e:z3k L=0:=by simpa using q1
  obtain ⟨hl,hv⟩:=y2f e;obtain ⟨N,hN⟩:=u3s L hl (fun r hr=>⟨u2e h hr,hv r hr⟩) L.length 0 0 (Ag _);refine ⟨N,?_⟩;simp only [q1,Aa];rw [e];rw [A2,Ce] at hN;exact hN
def cd7 (x:Int) (r:R7):Int:=if x=0 then r.b else if x=1 then r.c else r.d
def vol7 (x:Int) (r:R7):Int:=bif r.a == 2*x then a7 r*cd7 x r else bif r.a == 2*x+1 then -(a7 r*cd7 x r) else 0
def v1e (L:List R7) (x:Int):Int:=bif z3k L != 0 then 0 else bif decide (x<0) then 0 else bif decide (x>2) then 0 else wrap .i64 (sm L (vol7 x))
def y0l (L:List R7) (x:Int):Int:=bif z3k L != 0 then z3k L else bif decide (x<0) then 2 else bif decide (x>2) then 2 else 0
def z7o (L:List R7) (x:Int):Bool:=We L
theorem u3r (L:List R7) (x:Int) (hx:0≤x∧x≤2) (hl:L.length≤3000) (ho: ∀r∈L,0≤r.a∧w0a r=true): ∀(k i:Nat) (S:Int),i+k=L.length→ ∃N,Yj (z9d L x) N (.to (.h0 (wrap .i64 S) (i:Int)))=.ret [.int .i64 (wrap .i64 (S+sm (L.drop i) (vol7 x))),.int .i64 0]
 | 0,i,S,h=>by refine ⟨1,?_⟩;rw [Zv,Au (by omega),w7z,Bp];simp (disch:=omega) only [z9d,Yw,Aa,Zg]
 | k+1,i,S,h=>by
  have hi:i<L.length:=by omega
  obtain ⟨N,hN⟩:=u3r L x hx hl ho k (i+1) (S+vol7 x (rd L i)) (by omega);refine ⟨N+1,?_⟩;have hm:rd L i∈L:=by rw [Xp hi];exact AS hi
  have o:=v1c (ho _ hm).1 (ho _ hm).2;have ha:=w7i (ho _ hm).2;have ha0:=(ho _ hm).1;have em: ∀y,w4z (rd L i).a (rd L i).b (rd L i).c (rd L i).d (rd L i).e (rd L i).f (rd L i).g *y=a7 (rd L i)*y:=fun y=>rfl;have wp: ∀y,wrap .i64 (wrap .i64 S+wrap .i64 y)=wrap .i64 (S+y):=fun y=>Cg.eq ((Cg.wrap S).add (Cg.wrap _));have wm: ∀y,wrap .i64 (wrap .i64 S - wrap .i64 y)=wrap .i64 (S - y):=fun y=>Cg.eq ((Cg.wrap S).sub (Cg.wrap _));have wa:wrap .i64 (rd L i).a =(rd L i).a :=Zp (by omega);rw [Zv,Ym hi,x5m,←Int.add_assoc,←hN]
  congr 1
  have h0:decide ((i:Int)<(L.length:Int))=true:=Ah (by omega);have h1:decide (0≤(i:Int)∧(i:Int)<(L.length:Int))=true:=Ah (by omega);have w3:wrap .i64 ((i:Int)+1)=((i+1:Nat):Int):=by rw [Zp (by omega)];rfl
  have w2:wrap .i64 (2*x)=2*x:=Zp (by omega);have w21:wrap .i64 (2*x+1)=2*x+1:=Zp (by omega);have:x=0∨x=1∨x=2:=by omega
  have key: ∀(c1 c2:Bool) (A B C:Int),(bif c1 then wrap .i64 (S+A) else bif c2 then wrap .i64 (S - A) else wrap .i64 S)=wrap .i64 (S+(bif c1 then A else bif c2 then -A else 0)):=fun c1 c2 A B C=>by
   cases c1
   ·cases c2
    ·show _=wrap .i64 (S+0);rw [Bp];rfl
    ·rfl
   ·rfl
  unfold vol7;rw [←key _ _ _ 0 0];rcases this with rfl | rfl | rfl <;> simp only [z9d,h0,h1,w3,Zk,o,em,wp,wm,wa,w2,w21,Ai,Ab]
  ·cases (rd L i).a == 2*0 <;> cases (rd L i).a == 2*0+1 <;> rfl
  ·cases (rd L i).a == 2*1 <;> cases (rd L i).a == 2*1+1 <;> rfl
  ·cases (rd L i).a == 2*2 <;> cases (rd L i).a == 2*2+1 <;> rfl
theorem u7u (L:List R7) (x:Int) (h:z7o L x=true): ∃N,Yj (z9d L x) N (y2h L x)=.ret [.int .i64 (v1e L x),.int .i64 (y0l L x)]:=by
 unfold y2h v1e y0l;simp only [Za,show We L=true from h,Ab];rcases Ye (z3k L != 0) with q1 | q1
 ·exact ⟨0,by simp only [q1,Ab];rfl⟩
 rcases Ye (decide (x<0)) with q2 | q2
 ·exact ⟨0,by simp only [q1,q2,Ab,Aa];rfl⟩
 rcases Ye (decide (x>2)) with q3 | q3
 ·exact ⟨0,by simp only [q1,q2,q3,Ab,Aa];rfl⟩
 have e:z3k L=0:=by simpa using q1
 obtain ⟨hl,hv⟩:=y2f e;have hx:0≤x∧x≤2:=by have h2:=Cc q2;have h3:=Cc q3;omega
 obtain ⟨N,hN⟩:=u3r L x hx hl (fun r hr=>⟨u2e h hr,hv r hr⟩) L.length 0 0 (Ag _);refine ⟨N,?_⟩;simp only [q1,q2,q3,Aa];rw [A2,Ce] at hN;exact hN
def fMAr :List AVal→Option (AVal×Bool)
 | [a0]=>match asL R7 a0 with
  | some (L0,g0,n0)=>some (.tup [.int .i64 (v1f L0),.int .i64 (z0x L0)],isT R7 n0 g0&&(z7p L0))
  | _=>none
 | _=>none
theorem u9k {S:Specs} (hS:Zj prog S):Zj prog (S.with u2o fMAr):=by
 refine z3m hS (by kernel_rfl) fun args v h=> ?_;unfold fMAr at h;split at h
 ·rename_i a0;split at h
  ·rename_i L0 g0 n0 e0;simp only [Ae,Ad,Ac] at h;obtain ⟨rfl,ho0,hw⟩:=h;obtain ⟨N,hN⟩:=u7v L0 hw;exact ⟨_,_,(.cons (Yr e0 ho0) .nil),rfl,v7v L0 N _ hN,3,rfl⟩
  ·cases h
 ·cases h
def fMVo :List AVal→Option (AVal×Bool)
 | [a0,.int .i64 x1]=>match asL R7 a0 with
  | some (L0,g0,n0)=>some (.tup [.int .i64 (v1e L0 x1),.int .i64 (y0l L0 x1)],isT R7 n0 g0&&(z7o L0 x1))
  | _=>none
 | _=>none
theorem u9j {S:Specs} (hS:Zj prog S):Zj prog (S.with nMVol fMVo):=by
 refine z3m hS (by kernel_rfl) fun args v h=> ?_;unfold fMVo at h;split at h
 ·rename_i a0 x1;split at h
  ·rename_i L0 g0 n0 e0;simp only [Ae,Ad,Ac] at h;obtain ⟨rfl,ho0,hw⟩:=h;obtain ⟨N,hN⟩:=u7u L0 x1 hw;exact ⟨_,_,(.cons (Yr e0 ho0) (.cons (.refl _) .nil)),rfl,v7u L0 x1 N _ hN,3,rfl⟩
  ·cases h
 ·cases h
def y0w (P:Prop):Nat:= @ite _ P (Classical.propDecidable P) 1 0
theorem Us {P:Prop} (h:P):y0w P=1:= @Aw _ (Classical.propDecidable P) h _ _ _
theorem Vv {P:Prop} (h: ¬P):y0w P=0:= @At _ (Classical.propDecidable P) h _ _ _
theorem y9b (w:Int): ∀s:List R2,Can s→(s.filter fun t=>decide (t.a≤w)&&decide (w<t.b)).length =y0w (pt s w)
 | [],_=>(Vv fun ⟨_,h,_⟩=>by cases h).symm
 | t::s,h=>by
  have ih:=y9b w s h.tail;have hd:=h.head;rw [A9];by_cases q:t.a≤w∧w<t.b
  ·rw [Aw (by simp [q.1,q.2])];have e:(s.filter fun t=>decide (t.a≤w)&&decide (w<t.b))=[]:=BG.2 fun r hr k=>by have:=hd r hr;simp only [Ac,Aq] at k;omega
   rw [e,Us ⟨t,by simp,q⟩];rfl
  ·rw [At (by simpa using q),ih];by_cases g:pt s w
   ·rw [Us g];obtain ⟨r,hr,k⟩:=g;rw [Us ⟨r,by simp [hr],k⟩]
   ·rw [Vv g,Vv];rintro ⟨r,hr,k⟩;rcases AB.1 hr with rfl | hr
    ·exact q k
    ·exact g ⟨r,hr,k⟩
def w5n (u w:Int) (t:R4):Bool:=(decide (t.a≤u)&&decide (u<t.c))&&(decide (t.b≤w)&&decide (w<t.d))
theorem v3o {l:List R4} (hc:Xt.can l) (u w:Int):(l.filter (w5n u w)).length =y0w (ptL Xt.inB l (u,w)):=by
 have h1:=y9b w (D4.inn l u) (z7u hc u);have e:((D4.inn l u).filter fun t=>decide (t.a≤w)&&decide (w<t.b)).length =(l.filter (w5n u w)).length :=by
  show (((l.filter fun r=>decide (r.a≤u)&&decide (u<r.c)).map fun r=>(⟨r.b,r.d⟩:R2)).filter _).length =_;rw [List.filter_map,A3,List.filter_filter]
  congr 1
  refine List.filter_congr fun r _=> ?_;unfold w5n;simp only [Function.comp];exact Bool.and_comm _ _
 rw [←e,h1];have:pt (D4.inn l u) w↔ptL Xt.inB l (u,w):=z4d l u w;by_cases g:pt (D4.inn l u) w
 ·rw [Us g,Us (this.1 g)]
 ·rw [Vv g,Vv fun k=>g (this.2 k)]
theorem x1b {E:Int→Int}: ∀{l:List Int},w2m E l=0→ ∀p∈l,E p=0
 | [],_,p,hp=>by cases hp
 | x::l,h,p,hp=>by
  unfold w2m at h;cases g:(E x != 0) with
  | true=>rw [g,Ab] at h;rw [h] at g;cases g
  | false=>
   rw [g,Aa] at h;rcases AB.1 hp with rfl | hp
   ·simpa using g
   ·exact x1b h p hp
theorem z1d {e x:Int} (h:(bif e != 0 then e else x)=0):e=0∧x=0:=by
 cases g:(e != 0) with
 | true=>rw [g,Ab] at h;rw [h] at g;cases g
 | false=>rw [g,Aa] at h;exact ⟨by simpa using g,h⟩
theorem w2p {L:List R6} (h:y8f L=0) (q:Ax) (s:Bool):z6p q s L=0:=by unfold y8f at h;obtain ⟨h1,h⟩:=z1d h;obtain ⟨h2,h⟩:=z1d h;obtain ⟨h3,h⟩:=z1d h;obtain ⟨h4,h⟩:=z1d h;obtain ⟨h5,h⟩:=z1d h;obtain ⟨h6,_⟩:=z1d h;cases q <;> cases s <;> assumption
theorem w9v {L:List R6} (hv: ∀r∈L,Qu r=true) (q:Ax) {p:Int} (h:p∈plQ q L): -1000000≤p∧p≤1000000:=by obtain ⟨r,hr,h⟩:=(z1h q L p).1 h;obtain ⟨_,h1,h2,h3⟩:=q.val (hv r hr);rcases h with rfl | rfl <;> omega
theorem v1b {L:List R6} (hv: ∀r∈L,Qu r=true) (q:Ax) (s:Bool) (p:Int) (hp: -1000000≤p∧p≤1000000) (h:Vb q L p s=0):
  Xt.can (Vw q L p s)∧ ∀u w,ptL Xt.inB (Vw q L p s) (u,w)↔(match s with
   | true=>q.inL L (p - 1) u w∧ ¬q.inL L p u w
   | false=>q.inL L p u w∧ ¬q.inL L (p - 1) u w):=by
 have w:wrap .i64 (p - 1)=p - 1:=Zp (by omega);unfold Vb at h;obtain ⟨hE,h⟩:=z1d h;have hE':=hE;unfold w1r at hE';obtain ⟨e1,e2⟩:=z1d hE';rw [w] at e1 h;unfold Vw;rw [hE,w];have one: ∀x,Ug q L x=0→Xt.can (Yg q L x)∧(∀u w,ptL Xt.inB (Yg q L x) (u,w)↔q.inL L x u w)∧ ∀r∈Yg q L x,Vp r=true:=fun x hx=>by obtain ⟨m1,m2,m3⟩:=y3m (l:=z1k q L x) hx;obtain ⟨c,pt⟩:=Km m2 m1;unfold Yg;rw [m3];exact ⟨c,fun u w=>by rw [pt,y0q],z1b c fun u v k=>z0p m2 ((pt _).1 k)⟩
 obtain ⟨a1,a2,a3⟩:=one _ e1;obtain ⟨b1,b2,b3⟩:=one _ e2;cases s with
 | true=>have h:rgE .d (Yg q L (p - 1)) (Yg q L p)=0:=h;show Xt.can (Wo .d (Yg q L (p - 1)) (Yg q L p))∧ ∀u w,ptL Xt.inB (Wo .d (Yg q L (p - 1)) (Yg q L p)) (u,w)↔_;rw [w0s .d h];obtain ⟨j1,j2,_⟩:=Kg 2 a3 b3;exact ⟨j1,fun u w=>by rw [show ptL Xt.inB (rgJ Op.d.k _ _) (u,w)↔_ from j2 (u,w),v0c,a2,b2]⟩
 | false=>have h:rgE .d (Yg q L p) (Yg q L (p - 1))=0:=h;show Xt.can (Wo .d (Yg q L p) (Yg q L (p - 1)))∧ ∀u w,ptL Xt.inB (Wo .d (Yg q L p) (Yg q L (p - 1))) (u,w)↔_;rw [w0s .d h];obtain ⟨j1,j2,_⟩:=Kg 2 b3 a3;exact ⟨j1,fun u w=>by rw [show ptL Xt.inB (rgJ Op.d.k _ _) (u,w)↔_ from j2 (u,w),v0c,a2,b2]⟩
def sgn (q:Ax) (u w:Int) (r:R7):Int:=if w5n u w (q.rc ⟨r.b,r.c,r.d,r.e,r.f,r.g⟩)=true then (if r.a=2*q.ix then 1 else if r.a=2*q.ix+1 then -1 else 0) else 0
def y6a (q:Ax) (u w:Int) (l:List R7):Int:=(l.map (sgn q u w)).sum
theorem Uf (q:Ax) (u w:Int) (l m:List R7):y6a q u w (l++m)=y6a q u w l+y6a q u w m:=by unfold y6a;rw [Bq,BW]
theorem u0j (q:Ax) (s:Bool) (p u w:Int) (t:R4):sgn q u w (qd q s p t)=if w5n u w t=true then (match s with | true=>1 | false=> -1) else 0:=by cases q <;> cases s <;> rfl
theorem w8e {q q':Ax} (h:q'≠q) (s:Bool) (p u w:Int) (t:R4):sgn q u w (qd q' s p t)=0:=by
 have:(qd q' s p t).a ≠2*q.ix∧(qd q' s p t).a ≠2*q.ix+1:=by
  rw [u6s];cases q <;> cases q' <;> cases s <;> first | exact absurd rfl h | exact ⟨by decide,by decide⟩
 unfold sgn;rw [At this.1,At this.2];split <;> rfl
theorem w0d (q:Ax) (s:Bool) (p u w:Int): ∀l:List R4,y6a q u w (l.map (qd q s p))=(match s with | true=>1 | false=> -1)*((l.filter (w5n u w)).length :Int)
 | []=>by cases s <;> rfl
 | t::l=>by
  have ih:=w0d q s p u w l;unfold y6a at ih ⊢;rw [AW,AW,Bf,ih,u0j,A9];by_cases g:w5n u w t=true
  ·rw [Aw g,Aw g,AV];cases s <;> simp <;> omega
  ·rw [At g,At g];omega
theorem x2a (q:Ax) (u w:Int): ∀l:List R7,(∀r∈l,sgn q u w r=0)→y6a q u w l=0
 | [],_=>rfl
 | r::l,h=>by have ih:=x2a q u w l fun x hx=>h x (by simp [hx]);unfold y6a at ih ⊢;rw [AW,Bf,ih,h r (by simp)];rfl
def inI (q:Ax) (L:List R6) (u w p:Int):Int:=(y0w (q.inL L p u w):Int)
theorem w4m (A B:Prop):(y0w (A∧ ¬B):Int) - (y0w (B∧ ¬A):Int)=(y0w A:Int) - (y0w B:Int):=by
 by_cases a:A <;> by_cases b:B
 ·rw [Vv fun k=>k.2 b,Vv fun k=>k.2 a,Us a,Us b];rfl
 ·rw [Us ⟨a,b⟩,Vv fun k=>b k.1,Us a,Vv b]
 ·rw [Vv fun k=>a k.1,Us ⟨b,a⟩,Vv a,Us b]
 ·rw [Vv fun k=>a k.1,Vv fun k=>b k.1,Vv a,Vv b]
theorem tele (f:Int→Int): ∀(P:List Int) (lo:Int),P.Pairwise (· < ·)→(∀p∈P,lo≤p)→(∀x,lo≤x→f (x - 1)≠f x→x∈P)→ ∀hi,(∀p∈P,p≤hi)→lo - 1≤hi→(P.map fun p=>f (p - 1) - f p).sum =f (lo - 1) - f hi
 | [],lo,_,_,hc,hi,_,hlo=>by
  have: ∀n:Nat,f (lo - 1+n)=f (lo - 1):=fun n=>by
   induction n with
   | zero=>simp
   | succ n ih=>
    rw [←ih];refine AP fun hn=> ?_;have:=hc (lo - 1+(n+1:Nat)) (by omega) (by
     rw [show lo - 1+((n+1:Nat):Int) - 1=lo - 1+(n:Int) by omega];exact fun e=>hn e.symm)
    cases this
  have k:=this (hi - (lo - 1)).toNat;rw [show lo - 1+((hi - (lo - 1)).toNat :Int)=hi by omega] at k;rw [k];simp
 | p ::P,lo,hP,hl,hc,hi,hh,hlo=>by
  obtain ⟨h1,h2⟩:=AR.1 hP;have ih:=tele f P (p+1) h2 (fun x hx=>by have:=h1 x hx;omega) (fun x hx hn=>by
   have:=hl p (by simp);rcases AB.1 (hc x (by omega) hn) with e | e
   ·omega
   ·exact e) hi (fun x hx=>hh x (by simp [hx])) (by have:=hh p (by simp);omega)
  have hlp:=hl p (by simp);have e:f (p - 1)=f (lo - 1):=by
   have: ∀n:Nat,lo - 1+n≤p - 1→f (lo - 1+n)=f (lo - 1):=fun n=>by
    induction n with
    | zero=>intro _;simp
    | succ n ih=>
     intro hn;rw [←ih (by omega)];refine AP fun hne=> ?_;have:=hc (lo - 1+(n+1:Nat)) (by omega) (by
      rw [show lo - 1+((n+1:Nat):Int) - 1=lo - 1+(n:Int) by omega];exact fun e=>hne e.symm)
     rcases AB.1 this with e | e
     ·omega
     ·have:=h1 _ e;omega
   have k:=this (p - 1 - (lo - 1)).toNat (by omega);rwa [show lo - 1+((p - 1 - (lo - 1)).toNat :Int)=p - 1 by omega] at k
  rw [AW,Bf,ih,e,show p+1 - 1=p by omega];omega
theorem x3k {L:List R6} (hv: ∀r∈L,Qu r=true) (hz:y8f L=0) (q:Ax) (u w:Int):y6a q u w (Kq L)=0:=by
 have hm: ∀q s p,p∈plQ q L→Vb q L p s=0:=fun q s p hp=>x1b (w2p hz q s) p hp;have other: ∀q',q'≠q→ ∀s,y6a q u w (dM q' s L)=0:=fun q' hq s=>x2a q u w _ fun r hr=>by obtain ⟨p,_,hr⟩:=AO.1 hr;obtain ⟨t,_,rfl⟩:=AN.1 hr;exact w8e hq s p u w t
 have dirS: ∀(s:Bool) (P:List Int),(∀p∈P,p∈plQ q L)→y6a q u w (w7b q s L P)=(P.map fun p=>(match s with | true=>(1:Int) | false=> -1)*(y0w (match s with | true=>q.inL L (p - 1) u w∧ ¬q.inL L p u w | false=>q.inL L p u w∧ ¬q.inL L (p - 1) u w):Int)).sum :=fun s P=>by
  induction P with
  | nil=>intro _;rfl
  | cons p P ih=>
   intro hP;obtain ⟨c,pts⟩:=v1b hv q s p (w9v hv q (hP p (by simp))) (hm q s p (hP p (by simp)));show y6a q u w ((Vw q L p s).map (qd q s p)++w7b q s L P)=_;rw [Uf,ih fun x hx=>hP x (by simp [hx]),w0d,v3o c,AW,Bf]
   congr 3
   cases s with
   | true=>
    by_cases g:ptL Xt.inB (Vw q L p true) (u,w)
    ·rw [Us g];exact (Us ((pts u w).1 g)).symm
    ·rw [Vv g];exact (Vv fun k=>g ((pts u w).2 k)).symm
   | false=>
    by_cases g:ptL Xt.inB (Vw q L p false) (u,w)
    ·rw [Us g];exact (Us ((pts u w).1 g)).symm
    ·rw [Vv g];exact (Vv fun k=>g ((pts u w).2 k)).symm
 have own:y6a q u w (dM q true L)+y6a q u w (dM q false L)=0:=by
  unfold dM;rw [dirS true _ fun _ h=>h,dirS false _ fun _ h=>h];have add: ∀P:List Int,(P.map fun p=>(1:Int)*(y0w (q.inL L (p - 1) u w∧ ¬q.inL L p u w):Int)).sum +(P.map fun p=>(-1:Int)*(y0w (q.inL L p u w∧ ¬q.inL L (p - 1) u w):Int)).sum =(P.map fun p=>inI q L u w (p - 1) - inI q L u w p).sum :=fun P=>by
   induction P with
   | nil=>rfl
   | cons p P ih=>simp only [AW,Bf] at ih ⊢;have:=w4m (q.inL L (p - 1) u w) (q.inL L p u w);unfold inI at ih ⊢;omega
  rw [add];have far: ∀x,(x< -1000000∨1000000≤x)→inI q L u w x=0:=fun x hx=>by unfold inI;rw [Vv];rfl;rintro ⟨r,hr,⟨h1,h2⟩,_⟩;obtain ⟨_,_,h3,h4⟩:=q.val (hv r hr);omega
  rw [tele (inI q L u w) (plQ q L) (-1000000) (z2m q L) (fun p hp=>(w9v hv q hp).1) (fun x _ hn=>AP fun hx=>hn ?_) 1000000 (fun p hp=>(w9v hv q hp).2) (by decide),far _ (.inl (by decide)),far _ (.inr (by decide))]
  ·rfl
  ·unfold inI;have:q.inL L (x - 1) u w↔q.inL L x u w:=by
    constructor
    ·rintro ⟨r,hr,⟨h1,h2⟩,k⟩;exact ⟨r,hr,⟨by omega,AP fun hn=>hx ((z1h q L x).2 ⟨r,hr,.inr (by omega)⟩)⟩,k⟩
    ·rintro ⟨r,hr,⟨h1,h2⟩,k⟩;exact ⟨r,hr,⟨AP fun hn=>hx ((z1h q L x).2 ⟨r,hr,.inl (by omega)⟩),by omega⟩,k⟩
   by_cases g:q.inL L x u w
   ·rw [Us g,Us (this.2 g)]
   ·rw [Vv g,Vv fun k=>g (this.1 k)]
 unfold Kq;rw [Uf,Uf,Uf,Uf,Uf];cases q
 ·rw [other .y (by simp),other .y (by simp),other .z (by simp),other .z (by simp)];omega
 ·rw [other .x (by simp),other .x (by simp),other .z (by simp),other .z (by simp)];omega
 ·rw [other .x (by simp),other .x (by simp),other .y (by simp),other .y (by simp)];omega
theorem v4o {bx:List R6} (h:Vg bx=0): ∀r∈Yz bx,Qu r=true:=by obtain ⟨hl,hv,_,_⟩:=w0g h;obtain ⟨c,pts⟩:=w8b h;refine j0n c fun x y z k=> ?_;obtain ⟨r,hr,h1,h2,h3⟩:=(pts x y z).1 k;have:=z6u (hv r hr);omega
section
variable {L:List R6} (h:Xe L=0) (hl:L.length≤20)
include h hl
theorem v1h (A B:List R7) (x:R7) (e:Kq L=A++x::B):z5p (A++B)=28∧z4f (A++B)=true:=by
 obtain ⟨_,hv,_,hL⟩:=Wt h;obtain ⟨hz,hn⟩:=z7n hv hl hL;obtain ⟨c0,co⟩:=z9c h hl;obtain ⟨_,cv⟩:=y2f c0;have sub: ∀r∈A++B,r∈Kq L:=fun r hr=>by
  rw [e];rcases AC.1 hr with k | k
  ·exact AC.2 (.inl k)
  ·exact AC.2 (.inr (List.mem_cons_of_mem _ k))
 have cX:(A++B).length ≤3000:=by
  have:(Kq L).length =(A++B).length +1:=by rw [e];simp only [Az,AV];omega
  omega
 have hc:z3k (A++B)=0:=by unfold z3k;rw [Ay (by omega),As.2 fun r hr=>cv r (sub r hr)];rfl
 refine ⟨?_,As.2 fun r hr=>As.1 co r (sub r hr)⟩;unfold z5p u2y;rw [hc];show (match goP (A++B) (plZ (A++B)) [] [] with | none=>(28:Int) | some bx=>w6z (A++B) bx)=28;cases goP (A++B) (plZ (A++B)) [] [] with
 | none=>rfl
 | some bx=>
  show w6z (A++B) bx=28;unfold w6z;cases g1:(Vg bx != 0) with
  | true=>rfl
  | false=>
   cases g2:(Qa (Yz bx) != 0) with
   | true=>rfl
   | false=>
    have s1:Vg bx=0:=(by simpa using g1);have s2:y8f (Yz bx)=0:=(by simpa [Qa] using g2);have ne:Ve (Yz bx)≠A++B:=fun q=>by
     have q:Kq (Yz bx)=A++B:=by rw [←q];unfold Ve;rw [s2];rfl
     obtain ⟨k,s,p,t,hp,ht,ex⟩:=x0n h hl (r:=x) (by rw [e];simp);have z1:=x3k hv hz k t.a t.b;have z2:=x3k (v4o s1) s2 k t.a t.b;rw [q,Uf] at z2;rw [e,Uf] at z1;have tv:=v2i h hl k s p t ht;simp only [Vp,Ac,Aq] at tv;have one:y6a k t.a t.b (x::B)=sgn k t.a t.b x+y6a k t.a t.b B:=by unfold y6a;rw [AW,Bf]
     have hin:w5n t.a t.b t=true:=by unfold w5n;rw [Ac,Ac,Ac,Aq,Aq,Aq,Aq];omega
     rw [one,ex,u0j,Aw hin] at z1;cases s with
     | true=>have z1:y6a k t.a t.b A+(1+y6a k t.a t.b B)=0:=z1;omega
     | false=>have z1:y6a k t.a t.b A+(-1+y6a k t.a t.b B)=0:=z1;omega
    rw [show y0e (Ve (Yz bx)) (A++B)=false from Ay ne];rfl
end
def keyQ (r:R7):Int:=crdV r.b r.c r.d (wrap .i64 (Int.tdiv (wrap .i64 r.a) 2))
theorem w1z (q:Ax) (s:Bool) (p:Int) (t:R4):keyQ (qd q s p t)=p:=by cases q <;> cases s <;> rfl
def ordQ (a b:R7):Prop:=a.a<b.a∨(a.a=b.a∧keyQ a≤keyQ b)
theorem u3z {L:List R6} (q:Ax) (s:Bool) (F:Int→List R4): ∀P:List Int,P.Pairwise (· < ·)→(P.flatMap fun p=>(F p).map (qd q s p)).Pairwise ordQ
 | [],_=>.nil
 | p::P,hP=>by
  obtain ⟨h1,h2⟩:=AR.1 hP;rw [BT];refine Bv.2 ⟨?_,u3z (L:=L) q s F P h2,fun a ha b hb=> ?_⟩
  ·refine Ci.2 ?_;have: ∀l:List R4,l.Pairwise fun a b=>ordQ (qd q s p a) (qd q s p b):=fun l=>by
    induction l with
    | nil=>exact .nil
    | cons t l ih=>exact AR.2 ⟨fun b _=>.inr ⟨by rw [u6s,u6s],by rw [w1z,w1z];exact A1 _⟩,ih⟩
   exact this _
  ·obtain ⟨t,_,rfl⟩:=AN.1 ha;obtain ⟨p',hp',hb⟩:=AO.1 hb;obtain ⟨t',_,rfl⟩:=AN.1 hb;have:=h1 p' hp';exact .inr ⟨by rw [u6s,u6s],by rw [w1z,w1z];omega⟩
theorem v7g (L:List R6):(Kq L).Pairwise ordQ:=by
 have own: ∀q s,(dM q s L).Pairwise ordQ:=fun q s=>u3z (L:=L) q s (fun p=>Vw q L p s) (plQ q L) (z2m q L);have two: ∀(l:List R7) (d:Int) (q:Ax) (s:Bool),l.Pairwise ordQ→(∀r∈l,r.a<d)→d=2*q.ix+sdI s→(l++dM q s L).Pairwise ordQ∧ ∀r∈l++dM q s L,r.a<d+1:=fun l d q s hl hd e=>
  ⟨Bv.2 ⟨hl,own q s,fun a ha b hb=>.inl (by rw [dM_a hb,←e];exact hd a ha)⟩,fun r hr=>by
   rcases AC.1 hr with k | k
   ·have:=hd r k;omega
   ·rw [dM_a k,←e];omega⟩
 unfold Kq;have a1:=own .x true;have b1: ∀r∈dM .x true L,r.a<1:=fun r hr=>by rw [dM_a hr];decide
 obtain ⟨a2,b2⟩:=two _ 1 .x false a1 b1 rfl;obtain ⟨a3,b3⟩:=two _ 2 .y true a2 b2 rfl;obtain ⟨a4,b4⟩:=two _ 3 .y false a3 b3 rfl;obtain ⟨a5,b5⟩:=two _ 4 .z true a4 b4 rfl;exact (two _ 5 .z false a5 b5 rfl).1
def y0i (L:List R7):List R6:=z0f L
def Wr (L:List R7):Int:=z5p L
def z0e (L:List R7):Bool:=z4f L
def fMsn :List AVal→Option (AVal×Bool)
 | [a0]=>match asL R7 a0 with
  | some (L0,g0,n0)=>some (.tup [match a0 with
   | .nils =>.dat (y0i L0).length (Zz (y0i L0))
   | _=>.undef,.int .i64 (Wr L0)],isT R7 n0 g0&&(z0e L0))
  | _=>none
 | _=>none
theorem u8z {S:Specs} (hS:Zj prog S):Zj prog (S.with x0h fMsn):=by
 refine w7a hS (by kernel_rfl) fun args v h=> ?_;unfold fMsn at h;split at h
 ·rename_i a0;split at h
  ·rename_i L0 g0 n0 e0;simp only [Ae,Ad,Ac] at h;obtain ⟨rfl,ho0,hw⟩:=h;obtain ⟨N,hN⟩:=v0r L0 hw;refine ⟨_,_,(.cons (Yr e0 ho0) .nil),?_,w1i L0 N _ hN,3,z6d _ _⟩;split
   ·exact z0r _ _
   ·exact fun ρ u hu=>z3s (.cons (.undef _) (.cons (.refl _) .nil)) ρ u (z0r _ _ ρ u hu)
  ·cases h
 ·cases h
def Nq :Specs:=(((Ml.with u2o fMAr).with nMVol fMVo).with x0h fMsn)
theorem Qq :Zj prog Nq:=u8z (u9j (u9k Ml_ok))
theorem u7x (M:List R7) (a:Nat) (r:R7):isT R7 ((0+a)+1) (fun k=>(Xk (fun k=>(Xk (fun k=>(([]:List AVal).drop (k*7)).take 7) 0 (fun k=>(Zz M) (1+k))) (0+k)) (0+a) (fun k=>([(.int .u8 r.a),(.int .i64 r.b),(.int .i64 r.c),(.int .i64 r.d),(.int .i64 r.e),(.int .i64 r.f),(.int .i64 r.g)].drop (k*7)).take 7)) (0+k))=true:=Yh fun i hi=>by
 have c: ∀j,Zz M j=Ys.cells (Ys.of (Zz M j):R7):=fun j=>by show Ys.cells (rd M j)=Ys.cells (Ys.of (Ys.cells (rd M j)));rw [Ys.back]
 show Xk _ _ _ (0+i)=Ys.cells (Ys.of (Xk _ _ _ (0+i)));unfold Xk;by_cases e:0+a≤0+i
 ·rw [w6k e,Ab,show 0+i - (0+a)=0 by omega];rfl
 ·rw [show Nat.ble (0+a) (0+i)=false from A7.2 fun k=>e (Ak k),Aa];exact c _
theorem v2x (r:R7):y5a 7 1 (fun k=>([(.int .u8 r.a),(.int .i64 r.b),(.int .i64 r.c),(.int .i64 r.d),(.int .i64 r.e),(.int .i64 r.f),(.int .i64 r.g)].drop (k*7)).take 7)=true:=Yh fun i hi=>by
 obtain rfl:i=0:=by omega
 exact ⟨rfl,rfl⟩
inductive mnaS where
def mnaC :mnaS→Cfg
 :=nofun
def x7f :mnaS→Xf mnaS
 :=nofun
def y2d :Xf mnaS:=(bif (Kt (cvT ([(R6.mk 0 0 0 1 1 1)]:List R6))) then (bif ((Jv (cvT ([(R6.mk 0 0 0 1 1 1)]:List R6))) != 0) then (.ret [(.bool false)]) else (bif ((((Zu (cvT ([(R6.mk 0 0 0 1 1 1)]:List R6))).length :Nat):Int) != 6) then (.ret [(.bool false)]) else (bif (decide (0≤5)) then (bif (decide (5≤(Zu (cvT ([(R6.mk 0 0 0 1 1 1)]:List R6))).length)) then (bif (z0e (lst R7 5 (fun k=>(Zz (Zu (cvT ([(R6.mk 0 0 0 1 1 1)]:List R6)))) (0+k)))) then (bif (decide (1≤(Zu (cvT ([(R6.mk 0 0 0 1 1 1)]:List R6))).length)) then (bif (decide ((Zu (cvT ([(R6.mk 0 0 0 1 1 1)]:List R6))).length ≤(Zu (cvT ([(R6.mk 0 0 0 1 1 1)]:List R6))).length)) then (bif (decide ((0+((Zu (cvT ([(R6.mk 0 0 0 1 1 1)]:List R6))).length - 1)+1)*(56+1)≤Ju)) then (bif ((decide ((0:Int)≤0∧0<(((Zu (cvT ([(R6.mk 0 0 0 1 1 1)]:List R6))).length :Nat):Int)))&&true) then (bif (decide (((0+((Zu (cvT ([(R6.mk 0 0 0 1 1 1)]:List R6))).length - 1))+1+1)*(56+1)≤Ju)) then (bif (Nat.beq 7 7&&(Nat.beq 7 7&&decide (0+(0+((Zu (cvT ([(R6.mk 0 0 0 1 1 1)]:List R6))).length - 1))≤(0+((Zu (cvT ([(R6.mk 0 0 0 1 1 1)]:List R6))).length - 1))))) then (bif (Nat.beq 7 7&&(decide (0+((0+((Zu (cvT ([(R6.mk 0 0 0 1 1 1)]:List R6))).length - 1))+1)≤((0+((Zu (cvT ([(R6.mk 0 0 0 1 1 1)]:List R6))).length - 1))+1))&&Ka (Xk (fun k=>(Xk (fun k=>(([]:List AVal).drop (k*7)).take 7) 0 (fun k=>(Zz (Zu (cvT ([(R6.mk 0 0 0 1 1 1)]:List R6)))) (1+k))) (0+k)) (0+((Zu (cvT ([(R6.mk 0 0 0 1 1 1)]:List R6))).length - 1)) (fun k=>([(.int .u8 (rd (Zu (cvT ([(R6.mk 0 0 0 1 1 1)]:List R6))) 0).a),(.int .i64 (rd (Zu (cvT ([(R6.mk 0 0 0 1 1 1)]:List R6))) 0).b),(.int .i64 (rd (Zu (cvT ([(R6.mk 0 0 0 1 1 1)]:List R6))) 0).c),(.int .i64 (rd (Zu (cvT ([(R6.mk 0 0 0 1 1 1)]:List R6))) 0).d),(.int .i64 (rd (Zu (cvT ([(R6.mk 0 0 0 1 1 1)]:List R6))) 0).e),(.int .i64 (rd (Zu (cvT ([(R6.mk 0 0 0 1 1 1)]:List R6))) 0).f),(.int .i64 (rd (Zu (cvT ([(R6.mk 0 0 0 1 1 1)]:List R6))) 0).g)].drop (k*7)).take 7)))) then (bif (z0e (lst R7 ((0+((Zu (cvT ([(R6.mk 0 0 0 1 1 1)]:List R6))).length - 1))+1) (fun k=>(Xk (fun k=>(Xk (fun k=>(([]:List AVal).drop (k*7)).take 7) 0 (fun k=>(Zz (Zu (cvT ([(R6.mk 0 0 0 1 1 1)]:List R6)))) (1+k))) (0+k)) (0+((Zu (cvT ([(R6.mk 0 0 0 1 1 1)]:List R6))).length - 1)) (fun k=>([(.int .u8 (rd (Zu (cvT ([(R6.mk 0 0 0 1 1 1)]:List R6))) 0).a),(.int .i64 (rd (Zu (cvT ([(R6.mk 0 0 0 1 1 1)]:List R6))) 0).b),(.int .i64 (rd (Zu (cvT ([(R6.mk 0 0 0 1 1 1)]:List R6))) 0).c),(.int .i64 (rd (Zu (cvT ([(R6.mk 0 0 0 1 1 1)]:List R6))) 0).d),(.int .i64 (rd (Zu (cvT ([(R6.mk 0 0 0 1 1 1)]:List R6))) 0).e),(.int .i64 (rd (Zu (cvT ([(R6.mk 0 0 0 1 1 1)]:List R6))) 0).f),(.int .i64 (rd (Zu (cvT ([(R6.mk 0 0 0 1 1 1)]:List R6))) 0).g)].drop (k*7)).take 7)) (0+k)))) then (bif (z0e (cvT ([(R7.mk 6 0 0 0 1 1 0)]:List R7))) then (bif (z7p (cvT ([(R7.mk 4 0 0 0 1 1 1)]:List R7))) then (bif (z7p (cvT ([(R7.mk 0 0 0 0 0 1 0)]:List R7))) then (bif (z7o (cvT (Zu (cvT ([(R6.mk 0 0 0 1 1 1)]:List R6)))) 3) then (bif (Nat.beq 7 7&&(decide (0+3001≤3001)&&Ka (fun _=>[(.int .u8 0),(.int .i64 0),(.int .i64 0),(.int .i64 0),(.int .i64 0),(.int .i64 0),(.int .i64 0)]))) then (bif (We (lst R7 3001 (fun k=>(fun _=>[(.int .u8 0),(.int .i64 0),(.int .i64 0),(.int .i64 0),(.int .i64 0),(.int .i64 0),(.int .i64 0)]) (0+k)))) then (bif (Kt (cvT ([(R6.mk 0 0 0 0 0 0)]:List R6))) then (bif (z0e ([]:List R7)) then (bif (Kt ([]:List R6)) then (bif (z1t (cvT ([(R6.mk 0 0 0 1 2 3),(R6.mk 1 2 0 3 3 3)]:List R6))) then (bif (z1m (cvT ([(R6.mk 0 0 0 1 60 1),(R6.mk 0 0 1 60 1 2),(R6.mk 2 0 0 3 60 1),(R6.mk 0 2 1 60 3 2),(R6.mk 4 0 0 5 60 1),(R6.mk 0 4 1 60 5 2),(R6.mk 6 0 0 7 60 1),(R6.mk 0 6 1 60 7 2),(R6.mk 8 0 0 9 60 1),(R6.mk 0 8 1 60 9 2),(R6.mk 10 0 0 11 60 1),(R6.mk 0 10 1 60 11 2),(R6.mk 12 0 0 13 60 1),(R6.mk 0 12 1 60 13 2),(R6.mk 14 0 0 15 60 1),(R6.mk 0 14 1 60 15 2),(R6.mk 16 0 0 17 60 1),(R6.mk 0 16 1 60 17 2),(R6.mk 18 0 0 19 60 1),(R6.mk 0 18 1 60 19 2),(R6.mk 20 0 0 21 60 1),(R6.mk 0 20 1 60 21 2),(R6.mk 22 0 0 23 60 1),(R6.mk 0 22 1 60 23 2),(R6.mk 24 0 0 25 60 1),(R6.mk 0 24 1 60 25 2),(R6.mk 26 0 0 27 60 1),(R6.mk 0 26 1 60 27 2),(R6.mk 28 0 0 29 60 1),(R6.mk 0 28 1 60 29 2),(R6.mk 30 0 0 31 60 1),(R6.mk 0 30 1 60 31 2),(R6.mk 32 0 0 33 60 1),(R6.mk 0 32 1 60 33 2),(R6.mk 34 0 0 35 60 1),(R6.mk 0 34 1 60 35 2),(R6.mk 36 0 0 37 60 1),(R6.mk 0 36 1 60 37 2),(R6.mk 38 0 0 39 60 1),(R6.mk 0 38 1 60 39 2),(R6.mk 40 0 0 41 60 1),(R6.mk 0 40 1 60 41 2)]:List R6))) then (bif (Kt (cvT (Yz (cvT ([(R6.mk 0 0 0 1 60 1),(R6.mk 0 0 1 60 1 2),(R6.mk 2 0 0 3 60 1),(R6.mk 0 2 1 60 3 2),(R6.mk 4 0 0 5 60 1),(R6.mk 0 4 1 60 5 2),(R6.mk 6 0 0 7 60 1),(R6.mk 0 6 1 60 7 2),(R6.mk 8 0 0 9 60 1),(R6.mk 0 8 1 60 9 2),(R6.mk 10 0 0 11 60 1),(R6.mk 0 10 1 60 11 2),(R6.mk 12 0 0 13 60 1),(R6.mk 0 12 1 60 13 2),(R6.mk 14 0 0 15 60 1),(R6.mk 0 14 1 60 15 2),(R6.mk 16 0 0 17 60 1),(R6.mk 0 16 1 60 17 2),(R6.mk 18 0 0 19 60 1),(R6.mk 0 18 1 60 19 2),(R6.mk 20 0 0 21 60 1),(R6.mk 0 20 1 60 21 2),(R6.mk 22 0 0 23 60 1),(R6.mk 0 22 1 60 23 2),(R6.mk 24 0 0 25 60 1),(R6.mk 0 24 1 60 25 2),(R6.mk 26 0 0 27 60 1),(R6.mk 0 26 1 60 27 2),(R6.mk 28 0 0 29 60 1),(R6.mk 0 28 1 60 29 2),(R6.mk 30 0 0 31 60 1),(R6.mk 0 30 1 60 31 2),(R6.mk 32 0 0 33 60 1),(R6.mk 0 32 1 60 33 2),(R6.mk 34 0 0 35 60 1),(R6.mk 0 34 1 60 35 2),(R6.mk 36 0 0 37 60 1),(R6.mk 0 36 1 60 37 2),(R6.mk 38 0 0 39 60 1),(R6.mk 0 38 1 60 39 2),(R6.mk 40 0 0 41 60 1),(R6.mk 0 40 1 60 41 2)]:List R6))))) then (bif ((Wr (lst R7 5 (fun k=>(Zz (Zu (cvT ([(R6.mk 0 0 0 1 1 1)]:List R6)))) (0+k)))) == 28) then (bif ((Wr (lst R7 ((0+((Zu (cvT ([(R6.mk 0 0 0 1 1 1)]:List R6))).length - 1))+1) (fun k=>(Xk (fun k=>(Xk (fun k=>(([]:List AVal).drop (k*7)).take 7) 0 (fun k=>(Zz (Zu (cvT ([(R6.mk 0 0 0 1 1 1)]:List R6)))) (1+k))) (0+k)) (0+((Zu (cvT ([(R6.mk 0 0 0 1 1 1)]:List R6))).length - 1)) (fun k=>([(.int .u8 (rd (Zu (cvT ([(R6.mk 0 0 0 1 1 1)]:List R6))) 0).a),(.int .i64 (rd (Zu (cvT ([(R6.mk 0 0 0 1 1 1)]:List R6))) 0).b),(.int .i64 (rd (Zu (cvT ([(R6.mk 0 0 0 1 1 1)]:List R6))) 0).c),(.int .i64 (rd (Zu (cvT ([(R6.mk 0 0 0 1 1 1)]:List R6))) 0).d),(.int .i64 (rd (Zu (cvT ([(R6.mk 0 0 0 1 1 1)]:List R6))) 0).e),(.int .i64 (rd (Zu (cvT ([(R6.mk 0 0 0 1 1 1)]:List R6))) 0).f),(.int .i64 (rd (Zu (cvT ([(R6.mk 0 0 0 1 1 1)]:List R6))) 0).g)].drop (k*7)).take 7)) (0+k)))) == 28) then (bif ((Wr (cvT ([(R7.mk 6 0 0 0 1 1 0)]:List R7))) == 8) then (bif ((z0x (cvT ([(R7.mk 4 0 0 0 1 1 1)]:List R7))) == 8) then (bif ((z0x (cvT ([(R7.mk 0 0 0 0 0 1 0)]:List R7))) == 8) then (bif ((y0l (cvT (Zu (cvT ([(R6.mk 0 0 0 1 1 1)]:List R6)))) 3) == 2) then (bif ((z3k (lst R7 3001 (fun k=>(fun _=>[(.int .u8 0),(.int .i64 0),(.int .i64 0),(.int .i64 0),(.int .i64 0),(.int .i64 0),(.int .i64 0)]) (0+k)))) == 4) then (bif ((Jv (cvT ([(R6.mk 0 0 0 0 0 0)]:List R6))) == 8) then (bif ((Wr ([]:List R7)) == 0) then (bif ((((y0i ([]:List R7)).length :Nat):Int) == 0) then (bif ((Jv ([]:List R6)) == 0) then (bif ((((Zu ([]:List R6)).length :Nat):Int) == 0) then (bif ((y0j (cvT ([(R6.mk 0 0 0 1 2 3),(R6.mk 1 2 0 3 3 3)]:List R6))) == 0) then (bif ((z5q (cvT ([(R6.mk 0 0 0 1 2 3),(R6.mk 1 2 0 3 3 3)]:List R6))) == 3) then (bif ((Vg (cvT ([(R6.mk 0 0 0 1 60 1),(R6.mk 0 0 1 60 1 2),(R6.mk 2 0 0 3 60 1),(R6.mk 0 2 1 60 3 2),(R6.mk 4 0 0 5 60 1),(R6.mk 0 4 1 60 5 2),(R6.mk 6 0 0 7 60 1),(R6.mk 0 6 1 60 7 2),(R6.mk 8 0 0 9 60 1),(R6.mk 0 8 1 60 9 2),(R6.mk 10 0 0 11 60 1),(R6.mk 0 10 1 60 11 2),(R6.mk 12 0 0 13 60 1),(R6.mk 0 12 1 60 13 2),(R6.mk 14 0 0 15 60 1),(R6.mk 0 14 1 60 15 2),(R6.mk 16 0 0 17 60 1),(R6.mk 0 16 1 60 17 2),(R6.mk 18 0 0 19 60 1),(R6.mk 0 18 1 60 19 2),(R6.mk 20 0 0 21 60 1),(R6.mk 0 20 1 60 21 2),(R6.mk 22 0 0 23 60 1),(R6.mk 0 22 1 60 23 2),(R6.mk 24 0 0 25 60 1),(R6.mk 0 24 1 60 25 2),(R6.mk 26 0 0 27 60 1),(R6.mk 0 26 1 60 27 2),(R6.mk 28 0 0 29 60 1),(R6.mk 0 28 1 60 29 2),(R6.mk 30 0 0 31 60 1),(R6.mk 0 30 1 60 31 2),(R6.mk 32 0 0 33 60 1),(R6.mk 0 32 1 60 33 2),(R6.mk 34 0 0 35 60 1),(R6.mk 0 34 1 60 35 2),(R6.mk 36 0 0 37 60 1),(R6.mk 0 36 1 60 37 2),(R6.mk 38 0 0 39 60 1),(R6.mk 0 38 1 60 39 2),(R6.mk 40 0 0 41 60 1),(R6.mk 0 40 1 60 41 2)]:List R6))) == 0) then (.ret [(.bool ((Jv (cvT (Yz (cvT ([(R6.mk 0 0 0 1 60 1),(R6.mk 0 0 1 60 1 2),(R6.mk 2 0 0 3 60 1),(R6.mk 0 2 1 60 3 2),(R6.mk 4 0 0 5 60 1),(R6.mk 0 4 1 60 5 2),(R6.mk 6 0 0 7 60 1),(R6.mk 0 6 1 60 7 2),(R6.mk 8 0 0 9 60 1),(R6.mk 0 8 1 60 9 2),(R6.mk 10 0 0 11 60 1),(R6.mk 0 10 1 60 11 2),(R6.mk 12 0 0 13 60 1),(R6.mk 0 12 1 60 13 2),(R6.mk 14 0 0 15 60 1),(R6.mk 0 14 1 60 15 2),(R6.mk 16 0 0 17 60 1),(R6.mk 0 16 1 60 17 2),(R6.mk 18 0 0 19 60 1),(R6.mk 0 18 1 60 19 2),(R6.mk 20 0 0 21 60 1),(R6.mk 0 20 1 60 21 2),(R6.mk 22 0 0 23 60 1),(R6.mk 0 22 1 60 23 2),(R6.mk 24 0 0 25 60 1),(R6.mk 0 24 1 60 25 2),(R6.mk 26 0 0 27 60 1),(R6.mk 0 26 1 60 27 2),(R6.mk 28 0 0 29 60 1),(R6.mk 0 28 1 60 29 2),(R6.mk 30 0 0 31 60 1),(R6.mk 0 30 1 60 31 2),(R6.mk 32 0 0 33 60 1),(R6.mk 0 32 1 60 33 2),(R6.mk 34 0 0 35 60 1),(R6.mk 0 34 1 60 35 2),(R6.mk 36 0 0 37 60 1),(R6.mk 0 36 1 60 37 2),(R6.mk 38 0 0 39 60 1),(R6.mk 0 38 1 60 39 2),(R6.mk 40 0 0 41 60 1),(R6.mk 0 40 1 60 41 2)]:List R6))))) == 4))]) else (.ret [(.bool false)])) else (.ret [(.bool false)])) else (.ret [(.bool false)])) else (.ret [(.bool false)])) else (.ret [(.bool false)])) else (.ret [(.bool false)])) else (.ret [(.bool false)])) else (.ret [(.bool false)])) else (.ret [(.bool false)])) else (.ret [(.bool false)])) else (.ret [(.bool false)])) else (.ret [(.bool false)])) else (.ret [(.bool false)])) else (.ret [(.bool false)])) else (.ret [(.bool false)])) else .stuck) else .stuck) else .stuck) else .stuck) else .stuck) else .stuck) else .stuck) else .stuck) else .stuck) else .stuck) else .stuck) else .stuck) else .stuck) else .stuck) else .stuck) else .stuck) else .stuck) else .stuck) else .stuck) else .stuck) else .stuck) else .stuck) else .stuck))) else .stuck)
theorem w4t : ∀s,Xq prog (Zy prog 10) (mnaC) (mnaC s) (x7f s)
 :=nofun
theorem x7g :Xq prog (Zy prog 10) (mnaC) (Zc prog 10 [] true []) (y2d):=(Xa (sl Qq (C':=⟨⟨209,0,true⟩,(Up prog 10 [1,0] 2),(Zd prog 10 [1,0] 1),none,(Zy prog 10),⟨Yd [(32,(.dat ([(R6.mk 0 0 0 1 1 1)]:List R6).length (Zz ([(R6.mk 0 0 0 1 1 1)]:List R6))))],Uy [] 0,0,[],true⟩,[],.leaf⟩) 26 [] ⟨[],[1],[some [32]],[]⟩ ⟨[(32,.frz 1 ([(R6.mk 0 0 0 1 1 1)]:List R6).length (Vx [(ii 0),(ii 0),(ii 0),(ii 1),(ii 1),(ii 1)] 0 6) (Zz ([(R6.mk 0 0 0 1 1 1)]:List R6)))],[],[]⟩ [] (pp (xZ (.dat 1 (Vx [(ii 0),(ii 0),(ii 0),(ii 1),(ii 1),(ii 1)] 0 6)) 1 (Vx [(ii 0),(ii 0),(ii 0),(ii 1),(ii 1),(ii 1)] 0 6)) (pp (xL 1 ([(R6.mk 0 0 0 1 1 1)]:List R6).length) (pp (xS 1 (Vx [(ii 0),(ii 0),(ii 0),(ii 1),(ii 1),(ii 1)] 0 6) (Zz ([(R6.mk 0 0 0 1 1 1)]:List R6))) nn)))) (lo fun bU=>(lb (fun k0=>(lr 209 10 [1,1,0,1,0,0] 1 10 [(0,(.bool false))] (sl Qq 23 [] ⟨[],[],[some [0]],[]⟩ ⟨[],[],[]⟩ (trs 4 []) (tt k0 (pp (pp (xI R6 ([(R6.mk 0 0 0 1 1 1)]:List R6).length (Zz ([(R6.mk 0 0 0 1 1 1)]:List R6))) (xw bU)) nn))))) (fun k0=>(lb (fun k1=>(lr 209 10 [1,1,0,1,0,0] 1 10 [(0,(.bool false))] (sl Qq 23 [] ⟨[],[],[some [0]],[]⟩ ⟨[],[],[]⟩ [false,false,false,true] (tt k1 (tt k0 (pp (pp (xI R6 ([(R6.mk 0 0 0 1 1 1)]:List R6).length (Zz ([(R6.mk 0 0 0 1 1 1)]:List R6))) (xw bU)) nn)))))) (fun k1=>(lo fun q2_0=>(lo fun q2_1=>(lo fun q2_2=>(lo fun q2_3=>(lo fun q2_4=>(lo fun q2_5=>(lo fun q2_6=>(lo fun q2_7=>(lo fun q2_8=>(lo fun q2_9=>(lo fun q2_10=>(Xa (sl Qq (C':=⟨⟨209,0,true⟩,(Up prog 10 [1,1,1,1,1,0] 3),(Zd prog 10 [1,1,1,1,1,0] 1),none,(Zy prog 10),⟨Yd [(1,(.dat (Zu (cvT ([(R6.mk 0 0 0 1 1 1)]:List R6))).length (Zz (Zu (cvT ([(R6.mk 0 0 0 1 1 1)]:List R6)))))),(4,(ii (Wr (lst R7 5 (fun k=>(Zz (Zu (cvT ([(R6.mk 0 0 0 1 1 1)]:List R6)))) (0+k)))))),(6,(ii (Wr (lst R7 ((0+((Zu (cvT ([(R6.mk 0 0 0 1 1 1)]:List R6))).length - 1))+1) (fun k=>(Xk (fun k=>(Xk (fun k=>(([]:List AVal).drop (k*7)).take 7) 0 (fun k=>(Zz (Zu (cvT ([(R6.mk 0 0 0 1 1 1)]:List R6)))) (1+k))) (0+k)) (0+((Zu (cvT ([(R6.mk 0 0 0 1 1 1)]:List R6))).length - 1)) (fun k=>([(.int .u8 (rd (Zu (cvT ([(R6.mk 0 0 0 1 1 1)]:List R6))) 0).a),(ii (rd (Zu (cvT ([(R6.mk 0 0 0 1 1 1)]:List R6))) 0).b),(ii (rd (Zu (cvT ([(R6.mk 0 0 0 1 1 1)]:List R6))) 0).c),(ii (rd (Zu (cvT ([(R6.mk 0 0 0 1 1 1)]:List R6))) 0).d),(ii (rd (Zu (cvT ([(R6.mk 0 0 0 1 1 1)]:List R6))) 0).e),(ii (rd (Zu (cvT ([(R6.mk 0 0 0 1 1 1)]:List R6))) 0).f),(ii (rd (Zu (cvT ([(R6.mk 0 0 0 1 1 1)]:List R6))) 0).g)].drop (k*7)).take 7)) (0+k)))))),(65,(.dat ([(R7.mk 6 0 0 0 1 1 0)]:List R7).length (Zz ([(R7.mk 6 0 0 0 1 1 0)]:List R7))))],Uy [] 0,0,[],true⟩,[],.leaf⟩) 38 [] ⟨[],[3],[some [1,4,6,65]],[]⟩ ⟨[(65,.frz 1 ([(R7.mk 6 0 0 0 1 1 0)]:List R7).length (Vx [(.int .u8 6),(ii 0),(ii 0),(ii 0),(ii 1),(ii 1),(ii 0)] 0 7) (Zz ([(R7.mk 6 0 0 0 1 1 0)]:List R7)))],[],[]⟩ [false,false,false,false] (pp (xZ (.dat 1 (Vx [(.int .u8 6),(ii 0),(ii 0),(ii 0),(ii 1),(ii 1),(ii 0)] 0 7)) 1 (Vx [(.int .u8 6),(ii 0),(ii 0),(ii 0),(ii 1),(ii 1),(ii 0)] 0 7)) (pp (xL 1 ([(R7.mk 6 0 0 0 1 1 0)]:List R7).length) (pp (xS 1 (Vx [(.int .u8 6),(ii 0),(ii 0),(ii 0),(ii 1),(ii 1),(ii 0)] 0 7) (Zz ([(R7.mk 6 0 0 0 1 1 0)]:List R7))) (pp (pp (pp (xw q2_9) nn) (pp (xI R7 ((0+((Zu (cvT ([(R6.mk 0 0 0 1 1 1)]:List R6))).length - 1))+1) (fun k=>(Xk (fun k=>(Xk (fun k=>(([]:List AVal).drop (k*7)).take 7) 0 (fun k=>(Zz (Zu (cvT ([(R6.mk 0 0 0 1 1 1)]:List R6)))) (1+k))) (0+k)) (0+((Zu (cvT ([(R6.mk 0 0 0 1 1 1)]:List R6))).length - 1)) (fun k=>([(.int .u8 (rd (Zu (cvT ([(R6.mk 0 0 0 1 1 1)]:List R6))) 0).a),(ii (rd (Zu (cvT ([(R6.mk 0 0 0 1 1 1)]:List R6))) 0).b),(ii (rd (Zu (cvT ([(R6.mk 0 0 0 1 1 1)]:List R6))) 0).c),(ii (rd (Zu (cvT ([(R6.mk 0 0 0 1 1 1)]:List R6))) 0).d),(ii (rd (Zu (cvT ([(R6.mk 0 0 0 1 1 1)]:List R6))) 0).e),(ii (rd (Zu (cvT ([(R6.mk 0 0 0 1 1 1)]:List R6))) 0).f),(ii (rd (Zu (cvT ([(R6.mk 0 0 0 1 1 1)]:List R6))) 0).g)].drop (k*7)).take 7)) (0+k)) (u7x _ _ _)) (xw q2_10))) (pp (pp (xw q2_8) (pp (xG (y5a 7 1 (fun k=>([(.int .u8 (rd (Zu (cvT ([(R6.mk 0 0 0 1 1 1)]:List R6))) 0).a),(ii (rd (Zu (cvT ([(R6.mk 0 0 0 1 1 1)]:List R6))) 0).b),(ii (rd (Zu (cvT ([(R6.mk 0 0 0 1 1 1)]:List R6))) 0).c),(ii (rd (Zu (cvT ([(R6.mk 0 0 0 1 1 1)]:List R6))) 0).d),(ii (rd (Zu (cvT ([(R6.mk 0 0 0 1 1 1)]:List R6))) 0).e),(ii (rd (Zu (cvT ([(R6.mk 0 0 0 1 1 1)]:List R6))) 0).f),(ii (rd (Zu (cvT ([(R6.mk 0 0 0 1 1 1)]:List R6))) 0).g)].drop (k*7)).take 7)) (v2x _)) (xw q2_7))) (ww q2_6 (pp (pp nn (pp (xG (y5a 7 ((Zu (cvT ([(R6.mk 0 0 0 1 1 1)]:List R6))).length - 1) (fun k=>(Zz (Zu (cvT ([(R6.mk 0 0 0 1 1 1)]:List R6)))) (1+k)))) (xw q2_5))) (pp (pp nn (pp nn (pp (xG (decide ((Zu (cvT ([(R6.mk 0 0 0 1 1 1)]:List R6))).length ≤(Zu (cvT ([(R6.mk 0 0 0 1 1 1)]:List R6))).length))) (pp (xG (decide (1≤(Zu (cvT ([(R6.mk 0 0 0 1 1 1)]:List R6))).length))) (xG (lenR (Zu (cvT ([(R6.mk 0 0 0 1 1 1)]:List R6))).length (Zz (Zu (cvT ([(R6.mk 0 0 0 1 1 1)]:List R6)))) 7)))))) (pp (pp (xI R7 5 (fun k=>(Zz (Zu (cvT ([(R6.mk 0 0 0 1 1 1)]:List R6)))) (0+k))) (xw q2_2)) (pp (pp nn (pp nn (pp (xG (decide (5≤(Zu (cvT ([(R6.mk 0 0 0 1 1 1)]:List R6))).length))) (pp (xG (decide (0≤5))) (xG (lenR (Zu (cvT ([(R6.mk 0 0 0 1 1 1)]:List R6))).length (Zz (Zu (cvT ([(R6.mk 0 0 0 1 1 1)]:List R6)))) 7)))))) (tt k1 (tt k0 (pp (pp (xI R6 ([(R6.mk 0 0 0 1 1 1)]:List R6).length (Zz ([(R6.mk 0 0 0 1 1 1)]:List R6))) (xw bU)) nn)))))))))))))) (lo fun q2_0=>(Xa (sl Qq (C':=⟨⟨209,0,true⟩,(Up prog 10 [1,1,1,1,1,1,0] 3),(Zd prog 10 [1,1,1,1,1,1,0] 1),none,(Zy prog 10),⟨Yd [(1,(.dat (Zu (cvT ([(R6.mk 0 0 0 1 1 1)]:List R6))).length (Zz (Zu (cvT ([(R6.mk 0 0 0 1 1 1)]:List R6)))))),(4,(ii (Wr (lst R7 5 (fun k=>(Zz (Zu (cvT ([(R6.mk 0 0 0 1 1 1)]:List R6)))) (0+k)))))),(6,(ii (Wr (lst R7 ((0+((Zu (cvT ([(R6.mk 0 0 0 1 1 1)]:List R6))).length - 1))+1) (fun k=>(Xk (fun k=>(Xk (fun k=>(([]:List AVal).drop (k*7)).take 7) 0 (fun k=>(Zz (Zu (cvT ([(R6.mk 0 0 0 1 1 1)]:List R6)))) (1+k))) (0+k)) (0+((Zu (cvT ([(R6.mk 0 0 0 1 1 1)]:List R6))).length - 1)) (fun k=>([(.int .u8 (rd (Zu (cvT ([(R6.mk 0 0 0 1 1 1)]:List R6))) 0).a),(ii (rd (Zu (cvT ([(R6.mk 0 0 0 1 1 1)]:List R6))) 0).b),(ii (rd (Zu (cvT ([(R6.mk 0 0 0 1 1 1)]:List R6))) 0).c),(ii (rd (Zu (cvT ([(R6.mk 0 0 0 1 1 1)]:List R6))) 0).d),(ii (rd (Zu (cvT ([(R6.mk 0 0 0 1 1 1)]:List R6))) 0).e),(ii (rd (Zu (cvT ([(R6.mk 0 0 0 1 1 1)]:List R6))) 0).f),(ii (rd (Zu (cvT ([(R6.mk 0 0 0 1 1 1)]:List R6))) 0).g)].drop (k*7)).take 7)) (0+k)))))),(8,(ii (Wr (cvT ([(R7.mk 6 0 0 0 1 1 0)]:List R7))))),(72,(.dat ([(R7.mk 4 0 0 0 1 1 1)]:List R7).length (Zz ([(R7.mk 4 0 0 0 1 1 1)]:List R7))))],Uy [] 0,0,[],true⟩,[],.leaf⟩) 12 [] ⟨[],[0],[some [1,4,6,8,72]],[]⟩ ⟨[(72,.frz 1 ([(R7.mk 4 0 0 0 1 1 1)]:List R7).length (Vx [(.int .u8 4),(ii 0),(ii 0),(ii 0),(ii 1),(ii 1),(ii 1)] 0 7) (Zz ([(R7.mk 4 0 0 0 1 1 1)]:List R7)))],[],[]⟩ [] (pp (xZ (.dat 1 (Vx [(.int .u8 4),(ii 0),(ii 0),(ii 0),(ii 1),(ii 1),(ii 1)] 0 7)) 1 (Vx [(.int .u8 4),(ii 0),(ii 0),(ii 0),(ii 1),(ii 1),(ii 1)] 0 7)) (pp (xL 1 ([(R7.mk 4 0 0 0 1 1 1)]:List R7).length) (pp (xS 1 (Vx [(.int .u8 4),(ii 0),(ii 0),(ii 0),(ii 1),(ii 1),(ii 1)] 0 7) (Zz ([(R7.mk 4 0 0 0 1 1 1)]:List R7))) (pp (pp (xI R7 ([(R7.mk 6 0 0 0 1 1 0)]:List R7).length (Zz ([(R7.mk 6 0 0 0 1 1 0)]:List R7))) (xw q2_0)) nn))))) (lo fun q2_0=>(Xa (sl Qq (C':=⟨⟨209,0,true⟩,(Up prog 10 [1,1,1,1,1,1,1,0] 3),(Zd prog 10 [1,1,1,1,1,1,1,0] 1),none,(Zy prog 10),⟨Yd [(1,(.dat (Zu (cvT ([(R6.mk 0 0 0 1 1 1)]:List R6))).length (Zz (Zu (cvT ([(R6.mk 0 0 0 1 1 1)]:List R6)))))),(4,(ii (Wr (lst R7 5 (fun k=>(Zz (Zu (cvT ([(R6.mk 0 0 0 1 1 1)]:List R6)))) (0+k)))))),(6,(ii (Wr (lst R7 ((0+((Zu (cvT ([(R6.mk 0 0 0 1 1 1)]:List R6))).length - 1))+1) (fun k=>(Xk (fun k=>(Xk (fun k=>(([]:List AVal).drop (k*7)).take 7) 0 (fun k=>(Zz (Zu (cvT ([(R6.mk 0 0 0 1 1 1)]:List R6)))) (1+k))) (0+k)) (0+((Zu (cvT ([(R6.mk 0 0 0 1 1 1)]:List R6))).length - 1)) (fun k=>([(.int .u8 (rd (Zu (cvT ([(R6.mk 0 0 0 1 1 1)]:List R6))) 0).a),(ii (rd (Zu (cvT ([(R6.mk 0 0 0 1 1 1)]:List R6))) 0).b),(ii (rd (Zu (cvT ([(R6.mk 0 0 0 1 1 1)]:List R6))) 0).c),(ii (rd (Zu (cvT ([(R6.mk 0 0 0 1 1 1)]:List R6))) 0).d),(ii (rd (Zu (cvT ([(R6.mk 0 0 0 1 1 1)]:List R6))) 0).e),(ii (rd (Zu (cvT ([(R6.mk 0 0 0 1 1 1)]:List R6))) 0).f),(ii (rd (Zu (cvT ([(R6.mk 0 0 0 1 1 1)]:List R6))) 0).g)].drop (k*7)).take 7)) (0+k)))))),(8,(ii (Wr (cvT ([(R7.mk 6 0 0 0 1 1 0)]:List R7))))),(10,(ii (z0x (cvT ([(R7.mk 4 0 0 0 1 1 1)]:List R7))))),(79,(.dat ([(R7.mk 0 0 0 0 0 1 0)]:List R7).length (Zz ([(R7.mk 0 0 0 0 0 1 0)]:List R7))))],Uy [] 0,0,[],true⟩,[],.leaf⟩) 12 [] ⟨[],[0],[some [1,4,6,8,10,79]],[]⟩ ⟨[(79,.frz 1 ([(R7.mk 0 0 0 0 0 1 0)]:List R7).length (Vx [(.int .u8 0),(ii 0),(ii 0),(ii 0),(ii 0),(ii 1),(ii 0)] 0 7) (Zz ([(R7.mk 0 0 0 0 0 1 0)]:List R7)))],[],[]⟩ [] (pp (xZ (.dat 1 (Vx [(.int .u8 0),(ii 0),(ii 0),(ii 0),(ii 0),(ii 1),(ii 0)] 0 7)) 1 (Vx [(.int .u8 0),(ii 0),(ii 0),(ii 0),(ii 0),(ii 1),(ii 0)] 0 7)) (pp (xL 1 ([(R7.mk 0 0 0 0 0 1 0)]:List R7).length) (pp (xS 1 (Vx [(.int .u8 0),(ii 0),(ii 0),(ii 0),(ii 0),(ii 1),(ii 0)] 0 7) (Zz ([(R7.mk 0 0 0 0 0 1 0)]:List R7))) (pp (pp (xI R7 ([(R7.mk 4 0 0 0 1 1 1)]:List R7).length (Zz ([(R7.mk 4 0 0 0 1 1 1)]:List R7))) (xw q2_0)) nn))))) (lo fun q2_0=>(lo fun q2_1=>(lo fun q2_2=>(lo fun q2_3=>(Xa (sl Qq (C':=⟨⟨209,0,true⟩,(Up prog 10 [1,1,1,1,1,1,1,1,1,1,0] 2),(Zd prog 10 [1,1,1,1,1,1,1,1,1,1,0] 1),none,(Zy prog 10),⟨Yd [(4,(ii (Wr (lst R7 5 (fun k=>(Zz (Zu (cvT ([(R6.mk 0 0 0 1 1 1)]:List R6)))) (0+k)))))),(6,(ii (Wr (lst R7 ((0+((Zu (cvT ([(R6.mk 0 0 0 1 1 1)]:List R6))).length - 1))+1) (fun k=>(Xk (fun k=>(Xk (fun k=>(([]:List AVal).drop (k*7)).take 7) 0 (fun k=>(Zz (Zu (cvT ([(R6.mk 0 0 0 1 1 1)]:List R6)))) (1+k))) (0+k)) (0+((Zu (cvT ([(R6.mk 0 0 0 1 1 1)]:List R6))).length - 1)) (fun k=>([(.int .u8 (rd (Zu (cvT ([(R6.mk 0 0 0 1 1 1)]:List R6))) 0).a),(ii (rd (Zu (cvT ([(R6.mk 0 0 0 1 1 1)]:List R6))) 0).b),(ii (rd (Zu (cvT ([(R6.mk 0 0 0 1 1 1)]:List R6))) 0).c),(ii (rd (Zu (cvT ([(R6.mk 0 0 0 1 1 1)]:List R6))) 0).d),(ii (rd (Zu (cvT ([(R6.mk 0 0 0 1 1 1)]:List R6))) 0).e),(ii (rd (Zu (cvT ([(R6.mk 0 0 0 1 1 1)]:List R6))) 0).f),(ii (rd (Zu (cvT ([(R6.mk 0 0 0 1 1 1)]:List R6))) 0).g)].drop (k*7)).take 7)) (0+k)))))),(8,(ii (Wr (cvT ([(R7.mk 6 0 0 0 1 1 0)]:List R7))))),(10,(ii (z0x (cvT ([(R7.mk 4 0 0 0 1 1 1)]:List R7))))),(12,(ii (z0x (cvT ([(R7.mk 0 0 0 0 0 1 0)]:List R7))))),(14,(ii (y0l (cvT (Zu (cvT ([(R6.mk 0 0 0 1 1 1)]:List R6)))) 3))),(15,(ii (z3k (lst R7 3001 (fun k=>(fun _=>[(.int .u8 0),(ii 0),(ii 0),(ii 0),(ii 0),(ii 0),(ii 0)]) (0+k)))))),(92,(.dat ([(R6.mk 0 0 0 0 0 0)]:List R6).length (Zz ([(R6.mk 0 0 0 0 0 0)]:List R6))))],Uy [] 0,0,[],true⟩,[],.leaf⟩) 27 [] ⟨[],[1],[some [4,6,8,10,12,14,15,92]],[]⟩ ⟨[(92,.frz 1 ([(R6.mk 0 0 0 0 0 0)]:List R6).length (Vx [(ii 0),(ii 0),(ii 0),(ii 0),(ii 0),(ii 0)] 0 6) (Zz ([(R6.mk 0 0 0 0 0 0)]:List R6)))],[],[]⟩ [false] (pp (xZ (.dat 1 (Vx [(ii 0),(ii 0),(ii 0),(ii 0),(ii 0),(ii 0)] 0 6)) 1 (Vx [(ii 0),(ii 0),(ii 0),(ii 0),(ii 0),(ii 0)] 0 6)) (pp (xL 1 ([(R6.mk 0 0 0 0 0 0)]:List R6).length) (pp (xS 1 (Vx [(ii 0),(ii 0),(ii 0),(ii 0),(ii 0),(ii 0)] 0 6) (Zz ([(R6.mk 0 0 0 0 0 0)]:List R6))) (pp (pp (pp (xw q2_2) nn) (pp (xI R7 3001 (fun k=>(fun _=>[(.int .u8 0),(ii 0),(ii 0),(ii 0),(ii 0),(ii 0),(ii 0)]) (0+k)) (Yh fun _ _=>rfl)) (xw q2_3))) (pp (pp (xI R7 (Zu (cvT ([(R6.mk 0 0 0 1 1 1)]:List R6))).length (Zz (Zu (cvT ([(R6.mk 0 0 0 1 1 1)]:List R6))))) (xw q2_1)) (pp (pp (xI R7 ([(R7.mk 0 0 0 0 0 1 0)]:List R7).length (Zz ([(R7.mk 0 0 0 0 0 1 0)]:List R7))) (xw q2_0)) nn))))))) (lo fun q2_0=>(lo fun q2_1=>(lo fun q2_2=>(Xa (sl Qq (C':=⟨⟨209,0,true⟩,(Up prog 10 [1,1,1,1,1,1,1,1,1,1,1,1,1,0] 3),(Zd prog 10 [1,1,1,1,1,1,1,1,1,1,1,1,1,0] 1),none,(Zy prog 10),⟨Yd [(4,(ii (Wr (lst R7 5 (fun k=>(Zz (Zu (cvT ([(R6.mk 0 0 0 1 1 1)]:List R6)))) (0+k)))))),(6,(ii (Wr (lst R7 ((0+((Zu (cvT ([(R6.mk 0 0 0 1 1 1)]:List R6))).length - 1))+1) (fun k=>(Xk (fun k=>(Xk (fun k=>(([]:List AVal).drop (k*7)).take 7) 0 (fun k=>(Zz (Zu (cvT ([(R6.mk 0 0 0 1 1 1)]:List R6)))) (1+k))) (0+k)) (0+((Zu (cvT ([(R6.mk 0 0 0 1 1 1)]:List R6))).length - 1)) (fun k=>([(.int .u8 (rd (Zu (cvT ([(R6.mk 0 0 0 1 1 1)]:List R6))) 0).a),(ii (rd (Zu (cvT ([(R6.mk 0 0 0 1 1 1)]:List R6))) 0).b),(ii (rd (Zu (cvT ([(R6.mk 0 0 0 1 1 1)]:List R6))) 0).c),(ii (rd (Zu (cvT ([(R6.mk 0 0 0 1 1 1)]:List R6))) 0).d),(ii (rd (Zu (cvT ([(R6.mk 0 0 0 1 1 1)]:List R6))) 0).e),(ii (rd (Zu (cvT ([(R6.mk 0 0 0 1 1 1)]:List R6))) 0).f),(ii (rd (Zu (cvT ([(R6.mk 0 0 0 1 1 1)]:List R6))) 0).g)].drop (k*7)).take 7)) (0+k)))))),(8,(ii (Wr (cvT ([(R7.mk 6 0 0 0 1 1 0)]:List R7))))),(10,(ii (z0x (cvT ([(R7.mk 4 0 0 0 1 1 1)]:List R7))))),(12,(ii (z0x (cvT ([(R7.mk 0 0 0 0 0 1 0)]:List R7))))),(14,(ii (y0l (cvT (Zu (cvT ([(R6.mk 0 0 0 1 1 1)]:List R6)))) 3))),(15,(ii (z3k (lst R7 3001 (fun k=>(fun _=>[(.int .u8 0),(ii 0),(ii 0),(ii 0),(ii 0),(ii 0),(ii 0)]) (0+k)))))),(17,(ii (Jv (cvT ([(R6.mk 0 0 0 0 0 0)]:List R6))))),(18,(.dat (y0i ([]:List R7)).length (Zz (y0i ([]:List R7))))),(19,(ii (Wr ([]:List R7)))),(20,(.dat (Zu ([]:List R6)).length (Zz (Zu ([]:List R6))))),(21,(ii (Jv ([]:List R6)))),(107,(.dat ([(R6.mk 0 0 0 1 2 3),(R6.mk 1 2 0 3 3 3)]:List R6).length (Zz ([(R6.mk 0 0 0 1 2 3),(R6.mk 1 2 0 3 3 3)]:List R6))))],Uy [] 0,0,[],true⟩,[],.leaf⟩) 66 [] ⟨[],[2],[some [4,6,8,10,12,14,15,17,18,19,20,21,107]],[]⟩ ⟨[(107,.frz 2 ([(R6.mk 0 0 0 1 2 3),(R6.mk 1 2 0 3 3 3)]:List R6).length (Vx [(ii 0),(ii 0),(ii 0),(ii 1),(ii 2),(ii 3),(ii 1),(ii 2),(ii 0),(ii 3),(ii 3),(ii 3)] 0 6) (Zz ([(R6.mk 0 0 0 1 2 3),(R6.mk 1 2 0 3 3 3)]:List R6)))],[],[]⟩ [] (pp (xZ (.dat 2 (Vx [(ii 0),(ii 0),(ii 0),(ii 1),(ii 2),(ii 3),(ii 1),(ii 2),(ii 0),(ii 3),(ii 3),(ii 3)] 0 6)) 2 (Vx [(ii 0),(ii 0),(ii 0),(ii 1),(ii 2),(ii 3),(ii 1),(ii 2),(ii 0),(ii 3),(ii 3),(ii 3)] 0 6)) (pp (xL 2 ([(R6.mk 0 0 0 1 2 3),(R6.mk 1 2 0 3 3 3)]:List R6).length) (pp (xS 2 (Vx [(ii 0),(ii 0),(ii 0),(ii 1),(ii 2),(ii 3),(ii 1),(ii 2),(ii 0),(ii 3),(ii 3),(ii 3)] 0 6) (Zz ([(R6.mk 0 0 0 1 2 3),(R6.mk 1 2 0 3 3 3)]:List R6))) (pp (pp (xI R6 0 (fun _=>[])) (xw q2_2)) (pp (pp (xI R7 0 (fun _=>[])) (xw q2_1)) (pp (pp (xI R6 ([(R6.mk 0 0 0 0 0 0)]:List R6).length (Zz ([(R6.mk 0 0 0 0 0 0)]:List R6))) (xw q2_0)) nn))))))) (lo fun q2_0=>(Xa (sl Qq (C':=⟨⟨209,0,true⟩,(Up prog 10 [1,1,1,1,1,1,1,1,1,1,1,1,1,1,1,1,0] 1),(Zd prog 10 [1,1,1,1,1,1,1,1,1,1,1,1,1,1,1,1,0] 1),none,(Zy prog 10),⟨Yd [(4,(ii (Wr (lst R7 5 (fun k=>(Zz (Zu (cvT ([(R6.mk 0 0 0 1 1 1)]:List R6)))) (0+k)))))),(6,(ii (Wr (lst R7 ((0+((Zu (cvT ([(R6.mk 0 0 0 1 1 1)]:List R6))).length - 1))+1) (fun k=>(Xk (fun k=>(Xk (fun k=>(([]:List AVal).drop (k*7)).take 7) 0 (fun k=>(Zz (Zu (cvT ([(R6.mk 0 0 0 1 1 1)]:List R6)))) (1+k))) (0+k)) (0+((Zu (cvT ([(R6.mk 0 0 0 1 1 1)]:List R6))).length - 1)) (fun k=>([(.int .u8 (rd (Zu (cvT ([(R6.mk 0 0 0 1 1 1)]:List R6))) 0).a),(ii (rd (Zu (cvT ([(R6.mk 0 0 0 1 1 1)]:List R6))) 0).b),(ii (rd (Zu (cvT ([(R6.mk 0 0 0 1 1 1)]:List R6))) 0).c),(ii (rd (Zu (cvT ([(R6.mk 0 0 0 1 1 1)]:List R6))) 0).d),(ii (rd (Zu (cvT ([(R6.mk 0 0 0 1 1 1)]:List R6))) 0).e),(ii (rd (Zu (cvT ([(R6.mk 0 0 0 1 1 1)]:List R6))) 0).f),(ii (rd (Zu (cvT ([(R6.mk 0 0 0 1 1 1)]:List R6))) 0).g)].drop (k*7)).take 7)) (0+k)))))),(8,(ii (Wr (cvT ([(R7.mk 6 0 0 0 1 1 0)]:List R7))))),(10,(ii (z0x (cvT ([(R7.mk 4 0 0 0 1 1 1)]:List R7))))),(12,(ii (z0x (cvT ([(R7.mk 0 0 0 0 0 1 0)]:List R7))))),(14,(ii (y0l (cvT (Zu (cvT ([(R6.mk 0 0 0 1 1 1)]:List R6)))) 3))),(15,(ii (z3k (lst R7 3001 (fun k=>(fun _=>[(.int .u8 0),(ii 0),(ii 0),(ii 0),(ii 0),(ii 0),(ii 0)]) (0+k)))))),(17,(ii (Jv (cvT ([(R6.mk 0 0 0 0 0 0)]:List R6))))),(18,(.dat (y0i ([]:List R7)).length (Zz (y0i ([]:List R7))))),(19,(ii (Wr ([]:List R7)))),(20,(.dat (Zu ([]:List R6)).length (Zz (Zu ([]:List R6))))),(21,(ii (Jv ([]:List R6)))),(22,(ii (z5q (cvT ([(R6.mk 0 0 0 1 2 3),(R6.mk 1 2 0 3 3 3)]:List R6))))),(23,(ii (y0j (cvT ([(R6.mk 0 0 0 1 2 3),(R6.mk 1 2 0 3 3 3)]:List R6))))),(131,(.dat ([(R6.mk 0 0 0 1 60 1),(R6.mk 0 0 1 60 1 2),(R6.mk 2 0 0 3 60 1),(R6.mk 0 2 1 60 3 2),(R6.mk 4 0 0 5 60 1),(R6.mk 0 4 1 60 5 2),(R6.mk 6 0 0 7 60 1),(R6.mk 0 6 1 60 7 2),(R6.mk 8 0 0 9 60 1),(R6.mk 0 8 1 60 9 2),(R6.mk 10 0 0 11 60 1),(R6.mk 0 10 1 60 11 2),(R6.mk 12 0 0 13 60 1),(R6.mk 0 12 1 60 13 2),(R6.mk 14 0 0 15 60 1),(R6.mk 0 14 1 60 15 2),(R6.mk 16 0 0 17 60 1),(R6.mk 0 16 1 60 17 2),(R6.mk 18 0 0 19 60 1),(R6.mk 0 18 1 60 19 2),(R6.mk 20 0 0 21 60 1),(R6.mk 0 20 1 60 21 2),(R6.mk 22 0 0 23 60 1),(R6.mk 0 22 1 60 23 2),(R6.mk 24 0 0 25 60 1),(R6.mk 0 24 1 60 25 2),(R6.mk 26 0 0 27 60 1),(R6.mk 0 26 1 60 27 2),(R6.mk 28 0 0 29 60 1),(R6.mk 0 28 1 60 29 2),(R6.mk 30 0 0 31 60 1),(R6.mk 0 30 1 60 31 2),(R6.mk 32 0 0 33 60 1),(R6.mk 0 32 1 60 33 2),(R6.mk 34 0 0 35 60 1),(R6.mk 0 34 1 60 35 2),(R6.mk 36 0 0 37 60 1),(R6.mk 0 36 1 60 37 2),(R6.mk 38 0 0 39 60 1),(R6.mk 0 38 1 60 39 2),(R6.mk 40 0 0 41 60 1),(R6.mk 0 40 1 60 41 2)]:List R6).length (Zz ([(R6.mk 0 0 0 1 60 1),(R6.mk 0 0 1 60 1 2),(R6.mk 2 0 0 3 60 1),(R6.mk 0 2 1 60 3 2),(R6.mk 4 0 0 5 60 1),(R6.mk 0 4 1 60 5 2),(R6.mk 6 0 0 7 60 1),(R6.mk 0 6 1 60 7 2),(R6.mk 8 0 0 9 60 1),(R6.mk 0 8 1 60 9 2),(R6.mk 10 0 0 11 60 1),(R6.mk 0 10 1 60 11 2),(R6.mk 12 0 0 13 60 1),(R6.mk 0 12 1 60 13 2),(R6.mk 14 0 0 15 60 1),(R6.mk 0 14 1 60 15 2),(R6.mk 16 0 0 17 60 1),(R6.mk 0 16 1 60 17 2),(R6.mk 18 0 0 19 60 1),(R6.mk 0 18 1 60 19 2),(R6.mk 20 0 0 21 60 1),(R6.mk 0 20 1 60 21 2),(R6.mk 22 0 0 23 60 1),(R6.mk 0 22 1 60 23 2),(R6.mk 24 0 0 25 60 1),(R6.mk 0 24 1 60 25 2),(R6.mk 26 0 0 27 60 1),(R6.mk 0 26 1 60 27 2),(R6.mk 28 0 0 29 60 1),(R6.mk 0 28 1 60 29 2),(R6.mk 30 0 0 31 60 1),(R6.mk 0 30 1 60 31 2),(R6.mk 32 0 0 33 60 1),(R6.mk 0 32 1 60 33 2),(R6.mk 34 0 0 35 60 1),(R6.mk 0 34 1 60 35 2),(R6.mk 36 0 0 37 60 1),(R6.mk 0 36 1 60 37 2),(R6.mk 38 0 0 39 60 1),(R6.mk 0 38 1 60 39 2),(R6.mk 40 0 0 41 60 1),(R6.mk 0 40 1 60 41 2)]:List R6))))],Uy [] 0,0,[],true⟩,[],.leaf⟩) 1520 [] ⟨[],[83],[some [4,6,8,10,12,14,15,17,18,19,20,21,22,23,131]],[]⟩ ⟨[(131,.frz 42 ([(R6.mk 0 0 0 1 60 1),(R6.mk 0 0 1 60 1 2),(R6.mk 2 0 0 3 60 1),(R6.mk 0 2 1 60 3 2),(R6.mk 4 0 0 5 60 1),(R6.mk 0 4 1 60 5 2),(R6.mk 6 0 0 7 60 1),(R6.mk 0 6 1 60 7 2),(R6.mk 8 0 0 9 60 1),(R6.mk 0 8 1 60 9 2),(R6.mk 10 0 0 11 60 1),(R6.mk 0 10 1 60 11 2),(R6.mk 12 0 0 13 60 1),(R6.mk 0 12 1 60 13 2),(R6.mk 14 0 0 15 60 1),(R6.mk 0 14 1 60 15 2),(R6.mk 16 0 0 17 60 1),(R6.mk 0 16 1 60 17 2),(R6.mk 18 0 0 19 60 1),(R6.mk 0 18 1 60 19 2),(R6.mk 20 0 0 21 60 1),(R6.mk 0 20 1 60 21 2),(R6.mk 22 0 0 23 60 1),(R6.mk 0 22 1 60 23 2),(R6.mk 24 0 0 25 60 1),(R6.mk 0 24 1 60 25 2),(R6.mk 26 0 0 27 60 1),(R6.mk 0 26 1 60 27 2),(R6.mk 28 0 0 29 60 1),(R6.mk 0 28 1 60 29 2),(R6.mk 30 0 0 31 60 1),(R6.mk 0 30 1 60 31 2),(R6.mk 32 0 0 33 60 1),(R6.mk 0 32 1 60 33 2),(R6.mk 34 0 0 35 60 1),(R6.mk 0 34 1 60 35 2),(R6.mk 36 0 0 37 60 1),(R6.mk 0 36 1 60 37 2),(R6.mk 38 0 0 39 60 1),(R6.mk 0 38 1 60 39 2),(R6.mk 40 0 0 41 60 1),(R6.mk 0 40 1 60 41 2)]:List R6).length (Vx [(ii 0),(ii 0),(ii 0),(ii 1),(ii 60),(ii 1),(ii 0),(ii 0),(ii 1),(ii 60),(ii 1),(ii 2),(ii 2),(ii 0),(ii 0),(ii 3),(ii 60),(ii 1),(ii 0),(ii 2),(ii 1),(ii 60),(ii 3),(ii 2),(ii 4),(ii 0),(ii 0),(ii 5),(ii 60),(ii 1),(ii 0),(ii 4),(ii 1),(ii 60),(ii 5),(ii 2),(ii 6),(ii 0),(ii 0),(ii 7),(ii 60),(ii 1),(ii 0),(ii 6),(ii 1),(ii 60),(ii 7),(ii 2),(ii 8),(ii 0),(ii 0),(ii 9),(ii 60),(ii 1),(ii 0),(ii 8),(ii 1),(ii 60),(ii 9),(ii 2),(ii 10),(ii 0),(ii 0),(ii 11),(ii 60),(ii 1),(ii 0),(ii 10),(ii 1),(ii 60),(ii 11),(ii 2),(ii 12),(ii 0),(ii 0),(ii 13),(ii 60),(ii 1),(ii 0),(ii 12),(ii 1),(ii 60),(ii 13),(ii 2),(ii 14),(ii 0),(ii 0),(ii 15),(ii 60),(ii 1),(ii 0),(ii 14),(ii 1),(ii 60),(ii 15),(ii 2),(ii 16),(ii 0),(ii 0),(ii 17),(ii 60),(ii 1),(ii 0),(ii 16),(ii 1),(ii 60),(ii 17),(ii 2),(ii 18),(ii 0),(ii 0),(ii 19),(ii 60),(ii 1),(ii 0),(ii 18),(ii 1),(ii 60),(ii 19),(ii 2),(ii 20),(ii 0),(ii 0),(ii 21),(ii 60),(ii 1),(ii 0),(ii 20),(ii 1),(ii 60),(ii 21),(ii 2),(ii 22),(ii 0),(ii 0),(ii 23),(ii 60),(ii 1),(ii 0),(ii 22),(ii 1),(ii 60),(ii 23),(ii 2),(ii 24),(ii 0),(ii 0),(ii 25),(ii 60),(ii 1),(ii 0),(ii 24),(ii 1),(ii 60),(ii 25),(ii 2),(ii 26),(ii 0),(ii 0),(ii 27),(ii 60),(ii 1),(ii 0),(ii 26),(ii 1),(ii 60),(ii 27),(ii 2),(ii 28),(ii 0),(ii 0),(ii 29),(ii 60),(ii 1),(ii 0),(ii 28),(ii 1),(ii 60),(ii 29),(ii 2),(ii 30),(ii 0),(ii 0),(ii 31),(ii 60),(ii 1),(ii 0),(ii 30),(ii 1),(ii 60),(ii 31),(ii 2),(ii 32),(ii 0),(ii 0),(ii 33),(ii 60),(ii 1),(ii 0),(ii 32),(ii 1),(ii 60),(ii 33),(ii 2),(ii 34),(ii 0),(ii 0),(ii 35),(ii 60),(ii 1),(ii 0),(ii 34),(ii 1),(ii 60),(ii 35),(ii 2),(ii 36),(ii 0),(ii 0),(ii 37),(ii 60),(ii 1),(ii 0),(ii 36),(ii 1),(ii 60),(ii 37),(ii 2),(ii 38),(ii 0),(ii 0),(ii 39),(ii 60),(ii 1),(ii 0),(ii 38),(ii 1),(ii 60),(ii 39),(ii 2),(ii 40),(ii 0),(ii 0),(ii 41),(ii 60),(ii 1),(ii 0),(ii 40),(ii 1),(ii 60),(ii 41),(ii 2)] 0 6) (Zz ([(R6.mk 0 0 0 1 60 1),(R6.mk 0 0 1 60 1 2),(R6.mk 2 0 0 3 60 1),(R6.mk 0 2 1 60 3 2),(R6.mk 4 0 0 5 60 1),(R6.mk 0 4 1 60 5 2),(R6.mk 6 0 0 7 60 1),(R6.mk 0 6 1 60 7 2),(R6.mk 8 0 0 9 60 1),(R6.mk 0 8 1 60 9 2),(R6.mk 10 0 0 11 60 1),(R6.mk 0 10 1 60 11 2),(R6.mk 12 0 0 13 60 1),(R6.mk 0 12 1 60 13 2),(R6.mk 14 0 0 15 60 1),(R6.mk 0 14 1 60 15 2),(R6.mk 16 0 0 17 60 1),(R6.mk 0 16 1 60 17 2),(R6.mk 18 0 0 19 60 1),(R6.mk 0 18 1 60 19 2),(R6.mk 20 0 0 21 60 1),(R6.mk 0 20 1 60 21 2),(R6.mk 22 0 0 23 60 1),(R6.mk 0 22 1 60 23 2),(R6.mk 24 0 0 25 60 1),(R6.mk 0 24 1 60 25 2),(R6.mk 26 0 0 27 60 1),(R6.mk 0 26 1 60 27 2),(R6.mk 28 0 0 29 60 1),(R6.mk 0 28 1 60 29 2),(R6.mk 30 0 0 31 60 1),(R6.mk 0 30 1 60 31 2),(R6.mk 32 0 0 33 60 1),(R6.mk 0 32 1 60 33 2),(R6.mk 34 0 0 35 60 1),(R6.mk 0 34 1 60 35 2),(R6.mk 36 0 0 37 60 1),(R6.mk 0 36 1 60 37 2),(R6.mk 38 0 0 39 60 1),(R6.mk 0 38 1 60 39 2),(R6.mk 40 0 0 41 60 1),(R6.mk 0 40 1 60 41 2)]:List R6)))],[],[]⟩ (trs 21 [false]) (pp (xZ (.dat 42 (Vx [(ii 0),(ii 0),(ii 0),(ii 1),(ii 60),(ii 1),(ii 0),(ii 0),(ii 1),(ii 60),(ii 1),(ii 2),(ii 2),(ii 0),(ii 0),(ii 3),(ii 60),(ii 1),(ii 0),(ii 2),(ii 1),(ii 60),(ii 3),(ii 2),(ii 4),(ii 0),(ii 0),(ii 5),(ii 60),(ii 1),(ii 0),(ii 4),(ii 1),(ii 60),(ii 5),(ii 2),(ii 6),(ii 0),(ii 0),(ii 7),(ii 60),(ii 1),(ii 0),(ii 6),(ii 1),(ii 60),(ii 7),(ii 2),(ii 8),(ii 0),(ii 0),(ii 9),(ii 60),(ii 1),(ii 0),(ii 8),(ii 1),(ii 60),(ii 9),(ii 2),(ii 10),(ii 0),(ii 0),(ii 11),(ii 60),(ii 1),(ii 0),(ii 10),(ii 1),(ii 60),(ii 11),(ii 2),(ii 12),(ii 0),(ii 0),(ii 13),(ii 60),(ii 1),(ii 0),(ii 12),(ii 1),(ii 60),(ii 13),(ii 2),(ii 14),(ii 0),(ii 0),(ii 15),(ii 60),(ii 1),(ii 0),(ii 14),(ii 1),(ii 60),(ii 15),(ii 2),(ii 16),(ii 0),(ii 0),(ii 17),(ii 60),(ii 1),(ii 0),(ii 16),(ii 1),(ii 60),(ii 17),(ii 2),(ii 18),(ii 0),(ii 0),(ii 19),(ii 60),(ii 1),(ii 0),(ii 18),(ii 1),(ii 60),(ii 19),(ii 2),(ii 20),(ii 0),(ii 0),(ii 21),(ii 60),(ii 1),(ii 0),(ii 20),(ii 1),(ii 60),(ii 21),(ii 2),(ii 22),(ii 0),(ii 0),(ii 23),(ii 60),(ii 1),(ii 0),(ii 22),(ii 1),(ii 60),(ii 23),(ii 2),(ii 24),(ii 0),(ii 0),(ii 25),(ii 60),(ii 1),(ii 0),(ii 24),(ii 1),(ii 60),(ii 25),(ii 2),(ii 26),(ii 0),(ii 0),(ii 27),(ii 60),(ii 1),(ii 0),(ii 26),(ii 1),(ii 60),(ii 27),(ii 2),(ii 28),(ii 0),(ii 0),(ii 29),(ii 60),(ii 1),(ii 0),(ii 28),(ii 1),(ii 60),(ii 29),(ii 2),(ii 30),(ii 0),(ii 0),(ii 31),(ii 60),(ii 1),(ii 0),(ii 30),(ii 1),(ii 60),(ii 31),(ii 2),(ii 32),(ii 0),(ii 0),(ii 33),(ii 60),(ii 1),(ii 0),(ii 32),(ii 1),(ii 60),(ii 33),(ii 2),(ii 34),(ii 0),(ii 0),(ii 35),(ii 60),(ii 1),(ii 0),(ii 34),(ii 1),(ii 60),(ii 35),(ii 2),(ii 36),(ii 0),(ii 0),(ii 37),(ii 60),(ii 1),(ii 0),(ii 36),(ii 1),(ii 60),(ii 37),(ii 2),(ii 38),(ii 0),(ii 0),(ii 39),(ii 60),(ii 1),(ii 0),(ii 38),(ii 1),(ii 60),(ii 39),(ii 2),(ii 40),(ii 0),(ii 0),(ii 41),(ii 60),(ii 1),(ii 0),(ii 40),(ii 1),(ii 60),(ii 41),(ii 2)] 0 6)) 42 (Vx [(ii 0),(ii 0),(ii 0),(ii 1),(ii 60),(ii 1),(ii 0),(ii 0),(ii 1),(ii 60),(ii 1),(ii 2),(ii 2),(ii 0),(ii 0),(ii 3),(ii 60),(ii 1),(ii 0),(ii 2),(ii 1),(ii 60),(ii 3),(ii 2),(ii 4),(ii 0),(ii 0),(ii 5),(ii 60),(ii 1),(ii 0),(ii 4),(ii 1),(ii 60),(ii 5),(ii 2),(ii 6),(ii 0),(ii 0),(ii 7),(ii 60),(ii 1),(ii 0),(ii 6),(ii 1),(ii 60),(ii 7),(ii 2),(ii 8),(ii 0),(ii 0),(ii 9),(ii 60),(ii 1),(ii 0),(ii 8),(ii 1),(ii 60),(ii 9),(ii 2),(ii 10),(ii 0),(ii 0),(ii 11),(ii 60),(ii 1),(ii 0),(ii 10),(ii 1),(ii 60),(ii 11),(ii 2),(ii 12),(ii 0),(ii 0),(ii 13),(ii 60),(ii 1),(ii 0),(ii 12),(ii 1),(ii 60),(ii 13),(ii 2),(ii 14),(ii 0),(ii 0),(ii 15),(ii 60),(ii 1),(ii 0),(ii 14),(ii 1),(ii 60),(ii 15),(ii 2),(ii 16),(ii 0),(ii 0),(ii 17),(ii 60),(ii 1),(ii 0),(ii 16),(ii 1),(ii 60),(ii 17),(ii 2),(ii 18),(ii 0),(ii 0),(ii 19),(ii 60),(ii 1),(ii 0),(ii 18),(ii 1),(ii 60),(ii 19),(ii 2),(ii 20),(ii 0),(ii 0),(ii 21),(ii 60),(ii 1),(ii 0),(ii 20),(ii 1),(ii 60),(ii 21),(ii 2),(ii 22),(ii 0),(ii 0),(ii 23),(ii 60),(ii 1),(ii 0),(ii 22),(ii 1),(ii 60),(ii 23),(ii 2),(ii 24),(ii 0),(ii 0),(ii 25),(ii 60),(ii 1),(ii 0),(ii 24),(ii 1),(ii 60),(ii 25),(ii 2),(ii 26),(ii 0),(ii 0),(ii 27),(ii 60),(ii 1),(ii 0),(ii 26),(ii 1),(ii 60),(ii 27),(ii 2),(ii 28),(ii 0),(ii 0),(ii 29),(ii 60),(ii 1),(ii 0),(ii 28),(ii 1),(ii 60),(ii 29),(ii 2),(ii 30),(ii 0),(ii 0),(ii 31),(ii 60),(ii 1),(ii 0),(ii 30),(ii 1),(ii 60),(ii 31),(ii 2),(ii 32),(ii 0),(ii 0),(ii 33),(ii 60),(ii 1),(ii 0),(ii 32),(ii 1),(ii 60),(ii 33),(ii 2),(ii 34),(ii 0),(ii 0),(ii 35),(ii 60),(ii 1),(ii 0),(ii 34),(ii 1),(ii 60),(ii 35),(ii 2),(ii 36),(ii 0),(ii 0),(ii 37),(ii 60),(ii 1),(ii 0),(ii 36),(ii 1),(ii 60),(ii 37),(ii 2),(ii 38),(ii 0),(ii 0),(ii 39),(ii 60),(ii 1),(ii 0),(ii 38),(ii 1),(ii 60),(ii 39),(ii 2),(ii 40),(ii 0),(ii 0),(ii 41),(ii 60),(ii 1),(ii 0),(ii 40),(ii 1),(ii 60),(ii 41),(ii 2)] 0 6)) (pp (xL 42 ([(R6.mk 0 0 0 1 60 1),(R6.mk 0 0 1 60 1 2),(R6.mk 2 0 0 3 60 1),(R6.mk 0 2 1 60 3 2),(R6.mk 4 0 0 5 60 1),(R6.mk 0 4 1 60 5 2),(R6.mk 6 0 0 7 60 1),(R6.mk 0 6 1 60 7 2),(R6.mk 8 0 0 9 60 1),(R6.mk 0 8 1 60 9 2),(R6.mk 10 0 0 11 60 1),(R6.mk 0 10 1 60 11 2),(R6.mk 12 0 0 13 60 1),(R6.mk 0 12 1 60 13 2),(R6.mk 14 0 0 15 60 1),(R6.mk 0 14 1 60 15 2),(R6.mk 16 0 0 17 60 1),(R6.mk 0 16 1 60 17 2),(R6.mk 18 0 0 19 60 1),(R6.mk 0 18 1 60 19 2),(R6.mk 20 0 0 21 60 1),(R6.mk 0 20 1 60 21 2),(R6.mk 22 0 0 23 60 1),(R6.mk 0 22 1 60 23 2),(R6.mk 24 0 0 25 60 1),(R6.mk 0 24 1 60 25 2),(R6.mk 26 0 0 27 60 1),(R6.mk 0 26 1 60 27 2),(R6.mk 28 0 0 29 60 1),(R6.mk 0 28 1 60 29 2),(R6.mk 30 0 0 31 60 1),(R6.mk 0 30 1 60 31 2),(R6.mk 32 0 0 33 60 1),(R6.mk 0 32 1 60 33 2),(R6.mk 34 0 0 35 60 1),(R6.mk 0 34 1 60 35 2),(R6.mk 36 0 0 37 60 1),(R6.mk 0 36 1 60 37 2),(R6.mk 38 0 0 39 60 1),(R6.mk 0 38 1 60 39 2),(R6.mk 40 0 0 41 60 1),(R6.mk 0 40 1 60 41 2)]:List R6).length) (pp (xS 42 (Vx [(ii 0),(ii 0),(ii 0),(ii 1),(ii 60),(ii 1),(ii 0),(ii 0),(ii 1),(ii 60),(ii 1),(ii 2),(ii 2),(ii 0),(ii 0),(ii 3),(ii 60),(ii 1),(ii 0),(ii 2),(ii 1),(ii 60),(ii 3),(ii 2),(ii 4),(ii 0),(ii 0),(ii 5),(ii 60),(ii 1),(ii 0),(ii 4),(ii 1),(ii 60),(ii 5),(ii 2),(ii 6),(ii 0),(ii 0),(ii 7),(ii 60),(ii 1),(ii 0),(ii 6),(ii 1),(ii 60),(ii 7),(ii 2),(ii 8),(ii 0),(ii 0),(ii 9),(ii 60),(ii 1),(ii 0),(ii 8),(ii 1),(ii 60),(ii 9),(ii 2),(ii 10),(ii 0),(ii 0),(ii 11),(ii 60),(ii 1),(ii 0),(ii 10),(ii 1),(ii 60),(ii 11),(ii 2),(ii 12),(ii 0),(ii 0),(ii 13),(ii 60),(ii 1),(ii 0),(ii 12),(ii 1),(ii 60),(ii 13),(ii 2),(ii 14),(ii 0),(ii 0),(ii 15),(ii 60),(ii 1),(ii 0),(ii 14),(ii 1),(ii 60),(ii 15),(ii 2),(ii 16),(ii 0),(ii 0),(ii 17),(ii 60),(ii 1),(ii 0),(ii 16),(ii 1),(ii 60),(ii 17),(ii 2),(ii 18),(ii 0),(ii 0),(ii 19),(ii 60),(ii 1),(ii 0),(ii 18),(ii 1),(ii 60),(ii 19),(ii 2),(ii 20),(ii 0),(ii 0),(ii 21),(ii 60),(ii 1),(ii 0),(ii 20),(ii 1),(ii 60),(ii 21),(ii 2),(ii 22),(ii 0),(ii 0),(ii 23),(ii 60),(ii 1),(ii 0),(ii 22),(ii 1),(ii 60),(ii 23),(ii 2),(ii 24),(ii 0),(ii 0),(ii 25),(ii 60),(ii 1),(ii 0),(ii 24),(ii 1),(ii 60),(ii 25),(ii 2),(ii 26),(ii 0),(ii 0),(ii 27),(ii 60),(ii 1),(ii 0),(ii 26),(ii 1),(ii 60),(ii 27),(ii 2),(ii 28),(ii 0),(ii 0),(ii 29),(ii 60),(ii 1),(ii 0),(ii 28),(ii 1),(ii 60),(ii 29),(ii 2),(ii 30),(ii 0),(ii 0),(ii 31),(ii 60),(ii 1),(ii 0),(ii 30),(ii 1),(ii 60),(ii 31),(ii 2),(ii 32),(ii 0),(ii 0),(ii 33),(ii 60),(ii 1),(ii 0),(ii 32),(ii 1),(ii 60),(ii 33),(ii 2),(ii 34),(ii 0),(ii 0),(ii 35),(ii 60),(ii 1),(ii 0),(ii 34),(ii 1),(ii 60),(ii 35),(ii 2),(ii 36),(ii 0),(ii 0),(ii 37),(ii 60),(ii 1),(ii 0),(ii 36),(ii 1),(ii 60),(ii 37),(ii 2),(ii 38),(ii 0),(ii 0),(ii 39),(ii 60),(ii 1),(ii 0),(ii 38),(ii 1),(ii 60),(ii 39),(ii 2),(ii 40),(ii 0),(ii 0),(ii 41),(ii 60),(ii 1),(ii 0),(ii 40),(ii 1),(ii 60),(ii 41),(ii 2)] 0 6) (Zz ([(R6.mk 0 0 0 1 60 1),(R6.mk 0 0 1 60 1 2),(R6.mk 2 0 0 3 60 1),(R6.mk 0 2 1 60 3 2),(R6.mk 4 0 0 5 60 1),(R6.mk 0 4 1 60 5 2),(R6.mk 6 0 0 7 60 1),(R6.mk 0 6 1 60 7 2),(R6.mk 8 0 0 9 60 1),(R6.mk 0 8 1 60 9 2),(R6.mk 10 0 0 11 60 1),(R6.mk 0 10 1 60 11 2),(R6.mk 12 0 0 13 60 1),(R6.mk 0 12 1 60 13 2),(R6.mk 14 0 0 15 60 1),(R6.mk 0 14 1 60 15 2),(R6.mk 16 0 0 17 60 1),(R6.mk 0 16 1 60 17 2),(R6.mk 18 0 0 19 60 1),(R6.mk 0 18 1 60 19 2),(R6.mk 20 0 0 21 60 1),(R6.mk 0 20 1 60 21 2),(R6.mk 22 0 0 23 60 1),(R6.mk 0 22 1 60 23 2),(R6.mk 24 0 0 25 60 1),(R6.mk 0 24 1 60 25 2),(R6.mk 26 0 0 27 60 1),(R6.mk 0 26 1 60 27 2),(R6.mk 28 0 0 29 60 1),(R6.mk 0 28 1 60 29 2),(R6.mk 30 0 0 31 60 1),(R6.mk 0 30 1 60 31 2),(R6.mk 32 0 0 33 60 1),(R6.mk 0 32 1 60 33 2),(R6.mk 34 0 0 35 60 1),(R6.mk 0 34 1 60 35 2),(R6.mk 36 0 0 37 60 1),(R6.mk 0 36 1 60 37 2),(R6.mk 38 0 0 39 60 1),(R6.mk 0 38 1 60 39 2),(R6.mk 40 0 0 41 60 1),(R6.mk 0 40 1 60 41 2)]:List R6))) (pp (pp (xI R6 ([(R6.mk 0 0 0 1 2 3),(R6.mk 1 2 0 3 3 3)]:List R6).length (Zz ([(R6.mk 0 0 0 1 2 3),(R6.mk 1 2 0 3 3 3)]:List R6))) (xw q2_0)) nn))))) (lo fun bT=>(lo fun cJ=>(lb (fun k2=>(lb (fun k3=>(lb (fun k4=>(lb (fun k5=>(lb (fun k6=>(lb (fun k7=>(lb (fun k8=>(lb (fun k9=>(lb (fun k10=>(lb (fun k11=>(lb (fun k12=>(lb (fun k13=>(lb (fun k14=>(lb (fun k15=>(lb (fun k16=>(lr 209 3 [1,1,1,1,1,1,1,0] 1 10 [(0,(.bool ((Jv (cvT (Yz (cvT ([(R6.mk 0 0 0 1 60 1),(R6.mk 0 0 1 60 1 2),(R6.mk 2 0 0 3 60 1),(R6.mk 0 2 1 60 3 2),(R6.mk 4 0 0 5 60 1),(R6.mk 0 4 1 60 5 2),(R6.mk 6 0 0 7 60 1),(R6.mk 0 6 1 60 7 2),(R6.mk 8 0 0 9 60 1),(R6.mk 0 8 1 60 9 2),(R6.mk 10 0 0 11 60 1),(R6.mk 0 10 1 60 11 2),(R6.mk 12 0 0 13 60 1),(R6.mk 0 12 1 60 13 2),(R6.mk 14 0 0 15 60 1),(R6.mk 0 14 1 60 15 2),(R6.mk 16 0 0 17 60 1),(R6.mk 0 16 1 60 17 2),(R6.mk 18 0 0 19 60 1),(R6.mk 0 18 1 60 19 2),(R6.mk 20 0 0 21 60 1),(R6.mk 0 20 1 60 21 2),(R6.mk 22 0 0 23 60 1),(R6.mk 0 22 1 60 23 2),(R6.mk 24 0 0 25 60 1),(R6.mk 0 24 1 60 25 2),(R6.mk 26 0 0 27 60 1),(R6.mk 0 26 1 60 27 2),(R6.mk 28 0 0 29 60 1),(R6.mk 0 28 1 60 29 2),(R6.mk 30 0 0 31 60 1),(R6.mk 0 30 1 60 31 2),(R6.mk 32 0 0 33 60 1),(R6.mk 0 32 1 60 33 2),(R6.mk 34 0 0 35 60 1),(R6.mk 0 34 1 60 35 2),(R6.mk 36 0 0 37 60 1),(R6.mk 0 36 1 60 37 2),(R6.mk 38 0 0 39 60 1),(R6.mk 0 38 1 60 39 2),(R6.mk 40 0 0 41 60 1),(R6.mk 0 40 1 60 41 2)]:List R6))))) == 4)))] (sl Qq 90 [] ⟨[],[],[some [0]],[]⟩ ⟨[],[],[]⟩ (trs 35 []) (tt k16 (tt k15 (tt k14 (tt k13 (tt k12 (tt k11 (tt k10 (tt k9 (tt k8 (tt k7 (tt k6 (tt k5 (tt k4 (tt k3 (tt k2 (pp (pp (xI R6 (Yz (cvT ([(R6.mk 0 0 0 1 60 1),(R6.mk 0 0 1 60 1 2),(R6.mk 2 0 0 3 60 1),(R6.mk 0 2 1 60 3 2),(R6.mk 4 0 0 5 60 1),(R6.mk 0 4 1 60 5 2),(R6.mk 6 0 0 7 60 1),(R6.mk 0 6 1 60 7 2),(R6.mk 8 0 0 9 60 1),(R6.mk 0 8 1 60 9 2),(R6.mk 10 0 0 11 60 1),(R6.mk 0 10 1 60 11 2),(R6.mk 12 0 0 13 60 1),(R6.mk 0 12 1 60 13 2),(R6.mk 14 0 0 15 60 1),(R6.mk 0 14 1 60 15 2),(R6.mk 16 0 0 17 60 1),(R6.mk 0 16 1 60 17 2),(R6.mk 18 0 0 19 60 1),(R6.mk 0 18 1 60 19 2),(R6.mk 20 0 0 21 60 1),(R6.mk 0 20 1 60 21 2),(R6.mk 22 0 0 23 60 1),(R6.mk 0 22 1 60 23 2),(R6.mk 24 0 0 25 60 1),(R6.mk 0 24 1 60 25 2),(R6.mk 26 0 0 27 60 1),(R6.mk 0 26 1 60 27 2),(R6.mk 28 0 0 29 60 1),(R6.mk 0 28 1 60 29 2),(R6.mk 30 0 0 31 60 1),(R6.mk 0 30 1 60 31 2),(R6.mk 32 0 0 33 60 1),(R6.mk 0 32 1 60 33 2),(R6.mk 34 0 0 35 60 1),(R6.mk 0 34 1 60 35 2),(R6.mk 36 0 0 37 60 1),(R6.mk 0 36 1 60 37 2),(R6.mk 38 0 0 39 60 1),(R6.mk 0 38 1 60 39 2),(R6.mk 40 0 0 41 60 1),(R6.mk 0 40 1 60 41 2)]:List R6))).length (Zz (Yz (cvT ([(R6.mk 0 0 0 1 60 1),(R6.mk 0 0 1 60 1 2),(R6.mk 2 0 0 3 60 1),(R6.mk 0 2 1 60 3 2),(R6.mk 4 0 0 5 60 1),(R6.mk 0 4 1 60 5 2),(R6.mk 6 0 0 7 60 1),(R6.mk 0 6 1 60 7 2),(R6.mk 8 0 0 9 60 1),(R6.mk 0 8 1 60 9 2),(R6.mk 10 0 0 11 60 1),(R6.mk 0 10 1 60 11 2),(R6.mk 12 0 0 13 60 1),(R6.mk 0 12 1 60 13 2),(R6.mk 14 0 0 15 60 1),(R6.mk 0 14 1 60 15 2),(R6.mk 16 0 0 17 60 1),(R6.mk 0 16 1 60 17 2),(R6.mk 18 0 0 19 60 1),(R6.mk 0 18 1 60 19 2),(R6.mk 20 0 0 21 60 1),(R6.mk 0 20 1 60 21 2),(R6.mk 22 0 0 23 60 1),(R6.mk 0 22 1 60 23 2),(R6.mk 24 0 0 25 60 1),(R6.mk 0 24 1 60 25 2),(R6.mk 26 0 0 27 60 1),(R6.mk 0 26 1 60 27 2),(R6.mk 28 0 0 29 60 1),(R6.mk 0 28 1 60 29 2),(R6.mk 30 0 0 31 60 1),(R6.mk 0 30 1 60 31 2),(R6.mk 32 0 0 33 60 1),(R6.mk 0 32 1 60 33 2),(R6.mk 34 0 0 35 60 1),(R6.mk 0 34 1 60 35 2),(R6.mk 36 0 0 37 60 1),(R6.mk 0 36 1 60 37 2),(R6.mk 38 0 0 39 60 1),(R6.mk 0 38 1 60 39 2),(R6.mk 40 0 0 41 60 1),(R6.mk 0 40 1 60 41 2)]:List R6))))) (xw cJ)) (pp (pp (xI R6 ([(R6.mk 0 0 0 1 60 1),(R6.mk 0 0 1 60 1 2),(R6.mk 2 0 0 3 60 1),(R6.mk 0 2 1 60 3 2),(R6.mk 4 0 0 5 60 1),(R6.mk 0 4 1 60 5 2),(R6.mk 6 0 0 7 60 1),(R6.mk 0 6 1 60 7 2),(R6.mk 8 0 0 9 60 1),(R6.mk 0 8 1 60 9 2),(R6.mk 10 0 0 11 60 1),(R6.mk 0 10 1 60 11 2),(R6.mk 12 0 0 13 60 1),(R6.mk 0 12 1 60 13 2),(R6.mk 14 0 0 15 60 1),(R6.mk 0 14 1 60 15 2),(R6.mk 16 0 0 17 60 1),(R6.mk 0 16 1 60 17 2),(R6.mk 18 0 0 19 60 1),(R6.mk 0 18 1 60 19 2),(R6.mk 20 0 0 21 60 1),(R6.mk 0 20 1 60 21 2),(R6.mk 22 0 0 23 60 1),(R6.mk 0 22 1 60 23 2),(R6.mk 24 0 0 25 60 1),(R6.mk 0 24 1 60 25 2),(R6.mk 26 0 0 27 60 1),(R6.mk 0 26 1 60 27 2),(R6.mk 28 0 0 29 60 1),(R6.mk 0 28 1 60 29 2),(R6.mk 30 0 0 31 60 1),(R6.mk 0 30 1 60 31 2),(R6.mk 32 0 0 33 60 1),(R6.mk 0 32 1 60 33 2),(R6.mk 34 0 0 35 60 1),(R6.mk 0 34 1 60 35 2),(R6.mk 36 0 0 37 60 1),(R6.mk 0 36 1 60 37 2),(R6.mk 38 0 0 39 60 1),(R6.mk 0 38 1 60 39 2),(R6.mk 40 0 0 41 60 1),(R6.mk 0 40 1 60 41 2)]:List R6).length (Zz ([(R6.mk 0 0 0 1 60 1),(R6.mk 0 0 1 60 1 2),(R6.mk 2 0 0 3 60 1),(R6.mk 0 2 1 60 3 2),(R6.mk 4 0 0 5 60 1),(R6.mk 0 4 1 60 5 2),(R6.mk 6 0 0 7 60 1),(R6.mk 0 6 1 60 7 2),(R6.mk 8 0 0 9 60 1),(R6.mk 0 8 1 60 9 2),(R6.mk 10 0 0 11 60 1),(R6.mk 0 10 1 60 11 2),(R6.mk 12 0 0 13 60 1),(R6.mk 0 12 1 60 13 2),(R6.mk 14 0 0 15 60 1),(R6.mk 0 14 1 60 15 2),(R6.mk 16 0 0 17 60 1),(R6.mk 0 16 1 60 17 2),(R6.mk 18 0 0 19 60 1),(R6.mk 0 18 1 60 19 2),(R6.mk 20 0 0 21 60 1),(R6.mk 0 20 1 60 21 2),(R6.mk 22 0 0 23 60 1),(R6.mk 0 22 1 60 23 2),(R6.mk 24 0 0 25 60 1),(R6.mk 0 24 1 60 25 2),(R6.mk 26 0 0 27 60 1),(R6.mk 0 26 1 60 27 2),(R6.mk 28 0 0 29 60 1),(R6.mk 0 28 1 60 29 2),(R6.mk 30 0 0 31 60 1),(R6.mk 0 30 1 60 31 2),(R6.mk 32 0 0 33 60 1),(R6.mk 0 32 1 60 33 2),(R6.mk 34 0 0 35 60 1),(R6.mk 0 34 1 60 35 2),(R6.mk 36 0 0 37 60 1),(R6.mk 0 36 1 60 37 2),(R6.mk 38 0 0 39 60 1),(R6.mk 0 38 1 60 39 2),(R6.mk 40 0 0 41 60 1),(R6.mk 0 40 1 60 41 2)]:List R6))) (xw bT)) nn)))))))))))))))))))) (fun k16=>(lr 209 3 [1,1,1,1,1,1,1,0] 1 10 [(0,(.bool false))] (sl Qq 90 [] ⟨[],[],[some [0]],[]⟩ ⟨[],[],[]⟩ (trs 33 [false,false]) (tt k16 (tt k15 (tt k14 (tt k13 (tt k12 (tt k11 (tt k10 (tt k9 (tt k8 (tt k7 (tt k6 (tt k5 (tt k4 (tt k3 (tt k2 (pp (pp (xI R6 (Yz (cvT ([(R6.mk 0 0 0 1 60 1),(R6.mk 0 0 1 60 1 2),(R6.mk 2 0 0 3 60 1),(R6.mk 0 2 1 60 3 2),(R6.mk 4 0 0 5 60 1),(R6.mk 0 4 1 60 5 2),(R6.mk 6 0 0 7 60 1),(R6.mk 0 6 1 60 7 2),(R6.mk 8 0 0 9 60 1),(R6.mk 0 8 1 60 9 2),(R6.mk 10 0 0 11 60 1),(R6.mk 0 10 1 60 11 2),(R6.mk 12 0 0 13 60 1),(R6.mk 0 12 1 60 13 2),(R6.mk 14 0 0 15 60 1),(R6.mk 0 14 1 60 15 2),(R6.mk 16 0 0 17 60 1),(R6.mk 0 16 1 60 17 2),(R6.mk 18 0 0 19 60 1),(R6.mk 0 18 1 60 19 2),(R6.mk 20 0 0 21 60 1),(R6.mk 0 20 1 60 21 2),(R6.mk 22 0 0 23 60 1),(R6.mk 0 22 1 60 23 2),(R6.mk 24 0 0 25 60 1),(R6.mk 0 24 1 60 25 2),(R6.mk 26 0 0 27 60 1),(R6.mk 0 26 1 60 27 2),(R6.mk 28 0 0 29 60 1),(R6.mk 0 28 1 60 29 2),(R6.mk 30 0 0 31 60 1),(R6.mk 0 30 1 60 31 2),(R6.mk 32 0 0 33 60 1),(R6.mk 0 32 1 60 33 2),(R6.mk 34 0 0 35 60 1),(R6.mk 0 34 1 60 35 2),(R6.mk 36 0 0 37 60 1),(R6.mk 0 36 1 60 37 2),(R6.mk 38 0 0 39 60 1),(R6.mk 0 38 1 60 39 2),(R6.mk 40 0 0 41 60 1),(R6.mk 0 40 1 60 41 2)]:List R6))).length (Zz (Yz (cvT ([(R6.mk 0 0 0 1 60 1),(R6.mk 0 0 1 60 1 2),(R6.mk 2 0 0 3 60 1),(R6.mk 0 2 1 60 3 2),(R6.mk 4 0 0 5 60 1),(R6.mk 0 4 1 60 5 2),(R6.mk 6 0 0 7 60 1),(R6.mk 0 6 1 60 7 2),(R6.mk 8 0 0 9 60 1),(R6.mk 0 8 1 60 9 2),(R6.mk 10 0 0 11 60 1),(R6.mk 0 10 1 60 11 2),(R6.mk 12 0 0 13 60 1),(R6.mk 0 12 1 60 13 2),(R6.mk 14 0 0 15 60 1),(R6.mk 0 14 1 60 15 2),(R6.mk 16 0 0 17 60 1),(R6.mk 0 16 1 60 17 2),(R6.mk 18 0 0 19 60 1),(R6.mk 0 18 1 60 19 2),(R6.mk 20 0 0 21 60 1),(R6.mk 0 20 1 60 21 2),(R6.mk 22 0 0 23 60 1),(R6.mk 0 22 1 60 23 2),(R6.mk 24 0 0 25 60 1),(R6.mk 0 24 1 60 25 2),(R6.mk 26 0 0 27 60 1),(R6.mk 0 26 1 60 27 2),(R6.mk 28 0 0 29 60 1),(R6.mk 0 28 1 60 29 2),(R6.mk 30 0 0 31 60 1),(R6.mk 0 30 1 60 31 2),(R6.mk 32 0 0 33 60 1),(R6.mk 0 32 1 60 33 2),(R6.mk 34 0 0 35 60 1),(R6.mk 0 34 1 60 35 2),(R6.mk 36 0 0 37 60 1),(R6.mk 0 36 1 60 37 2),(R6.mk 38 0 0 39 60 1),(R6.mk 0 38 1 60 39 2),(R6.mk 40 0 0 41 60 1),(R6.mk 0 40 1 60 41 2)]:List R6))))) (xw cJ)) (pp (pp (xI R6 ([(R6.mk 0 0 0 1 60 1),(R6.mk 0 0 1 60 1 2),(R6.mk 2 0 0 3 60 1),(R6.mk 0 2 1 60 3 2),(R6.mk 4 0 0 5 60 1),(R6.mk 0 4 1 60 5 2),(R6.mk 6 0 0 7 60 1),(R6.mk 0 6 1 60 7 2),(R6.mk 8 0 0 9 60 1),(R6.mk 0 8 1 60 9 2),(R6.mk 10 0 0 11 60 1),(R6.mk 0 10 1 60 11 2),(R6.mk 12 0 0 13 60 1),(R6.mk 0 12 1 60 13 2),(R6.mk 14 0 0 15 60 1),(R6.mk 0 14 1 60 15 2),(R6.mk 16 0 0 17 60 1),(R6.mk 0 16 1 60 17 2),(R6.mk 18 0 0 19 60 1),(R6.mk 0 18 1 60 19 2),(R6.mk 20 0 0 21 60 1),(R6.mk 0 20 1 60 21 2),(R6.mk 22 0 0 23 60 1),(R6.mk 0 22 1 60 23 2),(R6.mk 24 0 0 25 60 1),(R6.mk 0 24 1 60 25 2),(R6.mk 26 0 0 27 60 1),(R6.mk 0 26 1 60 27 2),(R6.mk 28 0 0 29 60 1),(R6.mk 0 28 1 60 29 2),(R6.mk 30 0 0 31 60 1),(R6.mk 0 30 1 60 31 2),(R6.mk 32 0 0 33 60 1),(R6.mk 0 32 1 60 33 2),(R6.mk 34 0 0 35 60 1),(R6.mk 0 34 1 60 35 2),(R6.mk 36 0 0 37 60 1),(R6.mk 0 36 1 60 37 2),(R6.mk 38 0 0 39 60 1),(R6.mk 0 38 1 60 39 2),(R6.mk 40 0 0 41 60 1),(R6.mk 0 40 1 60 41 2)]:List R6).length (Zz ([(R6.mk 0 0 0 1 60 1),(R6.mk 0 0 1 60 1 2),(R6.mk 2 0 0 3 60 1),(R6.mk 0 2 1 60 3 2),(R6.mk 4 0 0 5 60 1),(R6.mk 0 4 1 60 5 2),(R6.mk 6 0 0 7 60 1),(R6.mk 0 6 1 60 7 2),(R6.mk 8 0 0 9 60 1),(R6.mk 0 8 1 60 9 2),(R6.mk 10 0 0 11 60 1),(R6.mk 0 10 1 60 11 2),(R6.mk 12 0 0 13 60 1),(R6.mk 0 12 1 60 13 2),(R6.mk 14 0 0 15 60 1),(R6.mk 0 14 1 60 15 2),(R6.mk 16 0 0 17 60 1),(R6.mk 0 16 1 60 17 2),(R6.mk 18 0 0 19 60 1),(R6.mk 0 18 1 60 19 2),(R6.mk 20 0 0 21 60 1),(R6.mk 0 20 1 60 21 2),(R6.mk 22 0 0 23 60 1),(R6.mk 0 22 1 60 23 2),(R6.mk 24 0 0 25 60 1),(R6.mk 0 24 1 60 25 2),(R6.mk 26 0 0 27 60 1),(R6.mk 0 26 1 60 27 2),(R6.mk 28 0 0 29 60 1),(R6.mk 0 28 1 60 29 2),(R6.mk 30 0 0 31 60 1),(R6.mk 0 30 1 60 31 2),(R6.mk 32 0 0 33 60 1),(R6.mk 0 32 1 60 33 2),(R6.mk 34 0 0 35 60 1),(R6.mk 0 34 1 60 35 2),(R6.mk 36 0 0 37 60 1),(R6.mk 0 36 1 60 37 2),(R6.mk 38 0 0 39 60 1),(R6.mk 0 38 1 60 39 2),(R6.mk 40 0 0 41 60 1),(R6.mk 0 40 1 60 41 2)]:List R6))) (xw bT)) nn)))))))))))))))))))))) (fun k15=>(lr 209 3 [1,1,1,1,1,1,1,0] 1 10 [(0,(.bool false))] (sl Qq 90 [] ⟨[],[],[some [0]],[]⟩ ⟨[],[],[]⟩ (trs 31 [false,false,false,false]) (tt k15 (tt k14 (tt k13 (tt k12 (tt k11 (tt k10 (tt k9 (tt k8 (tt k7 (tt k6 (tt k5 (tt k4 (tt k3 (tt k2 (pp (pp (xI R6 (Yz (cvT ([(R6.mk 0 0 0 1 60 1),(R6.mk 0 0 1 60 1 2),(R6.mk 2 0 0 3 60 1),(R6.mk 0 2 1 60 3 2),(R6.mk 4 0 0 5 60 1),(R6.mk 0 4 1 60 5 2),(R6.mk 6 0 0 7 60 1),(R6.mk 0 6 1 60 7 2),(R6.mk 8 0 0 9 60 1),(R6.mk 0 8 1 60 9 2),(R6.mk 10 0 0 11 60 1),(R6.mk 0 10 1 60 11 2),(R6.mk 12 0 0 13 60 1),(R6.mk 0 12 1 60 13 2),(R6.mk 14 0 0 15 60 1),(R6.mk 0 14 1 60 15 2),(R6.mk 16 0 0 17 60 1),(R6.mk 0 16 1 60 17 2),(R6.mk 18 0 0 19 60 1),(R6.mk 0 18 1 60 19 2),(R6.mk 20 0 0 21 60 1),(R6.mk 0 20 1 60 21 2),(R6.mk 22 0 0 23 60 1),(R6.mk 0 22 1 60 23 2),(R6.mk 24 0 0 25 60 1),(R6.mk 0 24 1 60 25 2),(R6.mk 26 0 0 27 60 1),(R6.mk 0 26 1 60 27 2),(R6.mk 28 0 0 29 60 1),(R6.mk 0 28 1 60 29 2),(R6.mk 30 0 0 31 60 1),(R6.mk 0 30 1 60 31 2),(R6.mk 32 0 0 33 60 1),(R6.mk 0 32 1 60 33 2),(R6.mk 34 0 0 35 60 1),(R6.mk 0 34 1 60 35 2),(R6.mk 36 0 0 37 60 1),(R6.mk 0 36 1 60 37 2),(R6.mk 38 0 0 39 60 1),(R6.mk 0 38 1 60 39 2),(R6.mk 40 0 0 41 60 1),(R6.mk 0 40 1 60 41 2)]:List R6))).length (Zz (Yz (cvT ([(R6.mk 0 0 0 1 60 1),(R6.mk 0 0 1 60 1 2),(R6.mk 2 0 0 3 60 1),(R6.mk 0 2 1 60 3 2),(R6.mk 4 0 0 5 60 1),(R6.mk 0 4 1 60 5 2),(R6.mk 6 0 0 7 60 1),(R6.mk 0 6 1 60 7 2),(R6.mk 8 0 0 9 60 1),(R6.mk 0 8 1 60 9 2),(R6.mk 10 0 0 11 60 1),(R6.mk 0 10 1 60 11 2),(R6.mk 12 0 0 13 60 1),(R6.mk 0 12 1 60 13 2),(R6.mk 14 0 0 15 60 1),(R6.mk 0 14 1 60 15 2),(R6.mk 16 0 0 17 60 1),(R6.mk 0 16 1 60 17 2),(R6.mk 18 0 0 19 60 1),(R6.mk 0 18 1 60 19 2),(R6.mk 20 0 0 21 60 1),(R6.mk 0 20 1 60 21 2),(R6.mk 22 0 0 23 60 1),(R6.mk 0 22 1 60 23 2),(R6.mk 24 0 0 25 60 1),(R6.mk 0 24 1 60 25 2),(R6.mk 26 0 0 27 60 1),(R6.mk 0 26 1 60 27 2),(R6.mk 28 0 0 29 60 1),(R6.mk 0 28 1 60 29 2),(R6.mk 30 0 0 31 60 1),(R6.mk 0 30 1 60 31 2),(R6.mk 32 0 0 33 60 1),(R6.mk 0 32 1 60 33 2),(R6.mk 34 0 0 35 60 1),(R6.mk 0 34 1 60 35 2),(R6.mk 36 0 0 37 60 1),(R6.mk 0 36 1 60 37 2),(R6.mk 38 0 0 39 60 1),(R6.mk 0 38 1 60 39 2),(R6.mk 40 0 0 41 60 1),(R6.mk 0 40 1 60 41 2)]:List R6))))) (xw cJ)) (pp (pp (xI R6 ([(R6.mk 0 0 0 1 60 1),(R6.mk 0 0 1 60 1 2),(R6.mk 2 0 0 3 60 1),(R6.mk 0 2 1 60 3 2),(R6.mk 4 0 0 5 60 1),(R6.mk 0 4 1 60 5 2),(R6.mk 6 0 0 7 60 1),(R6.mk 0 6 1 60 7 2),(R6.mk 8 0 0 9 60 1),(R6.mk 0 8 1 60 9 2),(R6.mk 10 0 0 11 60 1),(R6.mk 0 10 1 60 11 2),(R6.mk 12 0 0 13 60 1),(R6.mk 0 12 1 60 13 2),(R6.mk 14 0 0 15 60 1),(R6.mk 0 14 1 60 15 2),(R6.mk 16 0 0 17 60 1),(R6.mk 0 16 1 60 17 2),(R6.mk 18 0 0 19 60 1),(R6.mk 0 18 1 60 19 2),(R6.mk 20 0 0 21 60 1),(R6.mk 0 20 1 60 21 2),(R6.mk 22 0 0 23 60 1),(R6.mk 0 22 1 60 23 2),(R6.mk 24 0 0 25 60 1),(R6.mk 0 24 1 60 25 2),(R6.mk 26 0 0 27 60 1),(R6.mk 0 26 1 60 27 2),(R6.mk 28 0 0 29 60 1),(R6.mk 0 28 1 60 29 2),(R6.mk 30 0 0 31 60 1),(R6.mk 0 30 1 60 31 2),(R6.mk 32 0 0 33 60 1),(R6.mk 0 32 1 60 33 2),(R6.mk 34 0 0 35 60 1),(R6.mk 0 34 1 60 35 2),(R6.mk 36 0 0 37 60 1),(R6.mk 0 36 1 60 37 2),(R6.mk 38 0 0 39 60 1),(R6.mk 0 38 1 60 39 2),(R6.mk 40 0 0 41 60 1),(R6.mk 0 40 1 60 41 2)]:List R6).length (Zz ([(R6.mk 0 0 0 1 60 1),(R6.mk 0 0 1 60 1 2),(R6.mk 2 0 0 3 60 1),(R6.mk 0 2 1 60 3 2),(R6.mk 4 0 0 5 60 1),(R6.mk 0 4 1 60 5 2),(R6.mk 6 0 0 7 60 1),(R6.mk 0 6 1 60 7 2),(R6.mk 8 0 0 9 60 1),(R6.mk 0 8 1 60 9 2),(R6.mk 10 0 0 11 60 1),(R6.mk 0 10 1 60 11 2),(R6.mk 12 0 0 13 60 1),(R6.mk 0 12 1 60 13 2),(R6.mk 14 0 0 15 60 1),(R6.mk 0 14 1 60 15 2),(R6.mk 16 0 0 17 60 1),(R6.mk 0 16 1 60 17 2),(R6.mk 18 0 0 19 60 1),(R6.mk 0 18 1 60 19 2),(R6.mk 20 0 0 21 60 1),(R6.mk 0 20 1 60 21 2),(R6.mk 22 0 0 23 60 1),(R6.mk 0 22 1 60 23 2),(R6.mk 24 0 0 25 60 1),(R6.mk 0 24 1 60 25 2),(R6.mk 26 0 0 27 60 1),(R6.mk 0 26 1 60 27 2),(R6.mk 28 0 0 29 60 1),(R6.mk 0 28 1 60 29 2),(R6.mk 30 0 0 31 60 1),(R6.mk 0 30 1 60 31 2),(R6.mk 32 0 0 33 60 1),(R6.mk 0 32 1 60 33 2),(R6.mk 34 0 0 35 60 1),(R6.mk 0 34 1 60 35 2),(R6.mk 36 0 0 37 60 1),(R6.mk 0 36 1 60 37 2),(R6.mk 38 0 0 39 60 1),(R6.mk 0 38 1 60 39 2),(R6.mk 40 0 0 41 60 1),(R6.mk 0 40 1 60 41 2)]:List R6))) (xw bT)) nn))))))))))))))))))))) (fun k14=>(lr 209 3 [1,1,1,1,1,1,1,0] 1 10 [(0,(.bool false))] (sl Qq 90 [] ⟨[],[],[some [0]],[]⟩ ⟨[],[],[]⟩ (trs 29 [false,false,false,false,false,false]) (tt k14 (tt k13 (tt k12 (tt k11 (tt k10 (tt k9 (tt k8 (tt k7 (tt k6 (tt k5 (tt k4 (tt k3 (tt k2 (pp (pp (xI R6 (Yz (cvT ([(R6.mk 0 0 0 1 60 1),(R6.mk 0 0 1 60 1 2),(R6.mk 2 0 0 3 60 1),(R6.mk 0 2 1 60 3 2),(R6.mk 4 0 0 5 60 1),(R6.mk 0 4 1 60 5 2),(R6.mk 6 0 0 7 60 1),(R6.mk 0 6 1 60 7 2),(R6.mk 8 0 0 9 60 1),(R6.mk 0 8 1 60 9 2),(R6.mk 10 0 0 11 60 1),(R6.mk 0 10 1 60 11 2),(R6.mk 12 0 0 13 60 1),(R6.mk 0 12 1 60 13 2),(R6.mk 14 0 0 15 60 1),(R6.mk 0 14 1 60 15 2),(R6.mk 16 0 0 17 60 1),(R6.mk 0 16 1 60 17 2),(R6.mk 18 0 0 19 60 1),(R6.mk 0 18 1 60 19 2),(R6.mk 20 0 0 21 60 1),(R6.mk 0 20 1 60 21 2),(R6.mk 22 0 0 23 60 1),(R6.mk 0 22 1 60 23 2),(R6.mk 24 0 0 25 60 1),(R6.mk 0 24 1 60 25 2),(R6.mk 26 0 0 27 60 1),(R6.mk 0 26 1 60 27 2),(R6.mk 28 0 0 29 60 1),(R6.mk 0 28 1 60 29 2),(R6.mk 30 0 0 31 60 1),(R6.mk 0 30 1 60 31 2),(R6.mk 32 0 0 33 60 1),(R6.mk 0 32 1 60 33 2),(R6.mk 34 0 0 35 60 1),(R6.mk 0 34 1 60 35 2),(R6.mk 36 0 0 37 60 1),(R6.mk 0 36 1 60 37 2),(R6.mk 38 0 0 39 60 1),(R6.mk 0 38 1 60 39 2),(R6.mk 40 0 0 41 60 1),(R6.mk 0 40 1 60 41 2)]:List R6))).length (Zz (Yz (cvT ([(R6.mk 0 0 0 1 60 1),(R6.mk 0 0 1 60 1 2),(R6.mk 2 0 0 3 60 1),(R6.mk 0 2 1 60 3 2),(R6.mk 4 0 0 5 60 1),(R6.mk 0 4 1 60 5 2),(R6.mk 6 0 0 7 60 1),(R6.mk 0 6 1 60 7 2),(R6.mk 8 0 0 9 60 1),(R6.mk 0 8 1 60 9 2),(R6.mk 10 0 0 11 60 1),(R6.mk 0 10 1 60 11 2),(R6.mk 12 0 0 13 60 1),(R6.mk 0 12 1 60 13 2),(R6.mk 14 0 0 15 60 1),(R6.mk 0 14 1 60 15 2),(R6.mk 16 0 0 17 60 1),(R6.mk 0 16 1 60 17 2),(R6.mk 18 0 0 19 60 1),(R6.mk 0 18 1 60 19 2),(R6.mk 20 0 0 21 60 1),(R6.mk 0 20 1 60 21 2),(R6.mk 22 0 0 23 60 1),(R6.mk 0 22 1 60 23 2),(R6.mk 24 0 0 25 60 1),(R6.mk 0 24 1 60 25 2),(R6.mk 26 0 0 27 60 1),(R6.mk 0 26 1 60 27 2),(R6.mk 28 0 0 29 60 1),(R6.mk 0 28 1 60 29 2),(R6.mk 30 0 0 31 60 1),(R6.mk 0 30 1 60 31 2),(R6.mk 32 0 0 33 60 1),(R6.mk 0 32 1 60 33 2),(R6.mk 34 0 0 35 60 1),(R6.mk 0 34 1 60 35 2),(R6.mk 36 0 0 37 60 1),(R6.mk 0 36 1 60 37 2),(R6.mk 38 0 0 39 60 1),(R6.mk 0 38 1 60 39 2),(R6.mk 40 0 0 41 60 1),(R6.mk 0 40 1 60 41 2)]:List R6))))) (xw cJ)) (pp (pp (xI R6 ([(R6.mk 0 0 0 1 60 1),(R6.mk 0 0 1 60 1 2),(R6.mk 2 0 0 3 60 1),(R6.mk 0 2 1 60 3 2),(R6.mk 4 0 0 5 60 1),(R6.mk 0 4 1 60 5 2),(R6.mk 6 0 0 7 60 1),(R6.mk 0 6 1 60 7 2),(R6.mk 8 0 0 9 60 1),(R6.mk 0 8 1 60 9 2),(R6.mk 10 0 0 11 60 1),(R6.mk 0 10 1 60 11 2),(R6.mk 12 0 0 13 60 1),(R6.mk 0 12 1 60 13 2),(R6.mk 14 0 0 15 60 1),(R6.mk 0 14 1 60 15 2),(R6.mk 16 0 0 17 60 1),(R6.mk 0 16 1 60 17 2),(R6.mk 18 0 0 19 60 1),(R6.mk 0 18 1 60 19 2),(R6.mk 20 0 0 21 60 1),(R6.mk 0 20 1 60 21 2),(R6.mk 22 0 0 23 60 1),(R6.mk 0 22 1 60 23 2),(R6.mk 24 0 0 25 60 1),(R6.mk 0 24 1 60 25 2),(R6.mk 26 0 0 27 60 1),(R6.mk 0 26 1 60 27 2),(R6.mk 28 0 0 29 60 1),(R6.mk 0 28 1 60 29 2),(R6.mk 30 0 0 31 60 1),(R6.mk 0 30 1 60 31 2),(R6.mk 32 0 0 33 60 1),(R6.mk 0 32 1 60 33 2),(R6.mk 34 0 0 35 60 1),(R6.mk 0 34 1 60 35 2),(R6.mk 36 0 0 37 60 1),(R6.mk 0 36 1 60 37 2),(R6.mk 38 0 0 39 60 1),(R6.mk 0 38 1 60 39 2),(R6.mk 40 0 0 41 60 1),(R6.mk 0 40 1 60 41 2)]:List R6).length (Zz ([(R6.mk 0 0 0 1 60 1),(R6.mk 0 0 1 60 1 2),(R6.mk 2 0 0 3 60 1),(R6.mk 0 2 1 60 3 2),(R6.mk 4 0 0 5 60 1),(R6.mk 0 4 1 60 5 2),(R6.mk 6 0 0 7 60 1),(R6.mk 0 6 1 60 7 2),(R6.mk 8 0 0 9 60 1),(R6.mk 0 8 1 60 9 2),(R6.mk 10 0 0 11 60 1),(R6.mk 0 10 1 60 11 2),(R6.mk 12 0 0 13 60 1),(R6.mk 0 12 1 60 13 2),(R6.mk 14 0 0 15 60 1),(R6.mk 0 14 1 60 15 2),(R6.mk 16 0 0 17 60 1),(R6.mk 0 16 1 60 17 2),(R6.mk 18 0 0 19 60 1),(R6.mk 0 18 1 60 19 2),(R6.mk 20 0 0 21 60 1),(R6.mk 0 20 1 60 21 2),(R6.mk 22 0 0 23 60 1),(R6.mk 0 22 1 60 23 2),(R6.mk 24 0 0 25 60 1),(R6.mk 0 24 1 60 25 2),(R6.mk 26 0 0 27 60 1),(R6.mk 0 26 1 60 27 2),(R6.mk 28 0 0 29 60 1),(R6.mk 0 28 1 60 29 2),(R6.mk 30 0 0 31 60 1),(R6.mk 0 30 1 60 31 2),(R6.mk 32 0 0 33 60 1),(R6.mk 0 32 1 60 33 2),(R6.mk 34 0 0 35 60 1),(R6.mk 0 34 1 60 35 2),(R6.mk 36 0 0 37 60 1),(R6.mk 0 36 1 60 37 2),(R6.mk 38 0 0 39 60 1),(R6.mk 0 38 1 60 39 2),(R6.mk 40 0 0 41 60 1),(R6.mk 0 40 1 60 41 2)]:List R6))) (xw bT)) nn)))))))))))))))))))) (fun k13=>(lr 209 3 [1,1,1,1,1,1,1,0] 1 10 [(0,(.bool false))] (sl Qq 90 [] ⟨[],[],[some [0]],[]⟩ ⟨[],[],[]⟩ (trs 27 [false,false,false,false,false,false,false,false]) (tt k13 (tt k12 (tt k11 (tt k10 (tt k9 (tt k8 (tt k7 (tt k6 (tt k5 (tt k4 (tt k3 (tt k2 (pp (pp (xI R6 (Yz (cvT ([(R6.mk 0 0 0 1 60 1),(R6.mk 0 0 1 60 1 2),(R6.mk 2 0 0 3 60 1),(R6.mk 0 2 1 60 3 2),(R6.mk 4 0 0 5 60 1),(R6.mk 0 4 1 60 5 2),(R6.mk 6 0 0 7 60 1),(R6.mk 0 6 1 60 7 2),(R6.mk 8 0 0 9 60 1),(R6.mk 0 8 1 60 9 2),(R6.mk 10 0 0 11 60 1),(R6.mk 0 10 1 60 11 2),(R6.mk 12 0 0 13 60 1),(R6.mk 0 12 1 60 13 2),(R6.mk 14 0 0 15 60 1),(R6.mk 0 14 1 60 15 2),(R6.mk 16 0 0 17 60 1),(R6.mk 0 16 1 60 17 2),(R6.mk 18 0 0 19 60 1),(R6.mk 0 18 1 60 19 2),(R6.mk 20 0 0 21 60 1),(R6.mk 0 20 1 60 21 2),(R6.mk 22 0 0 23 60 1),(R6.mk 0 22 1 60 23 2),(R6.mk 24 0 0 25 60 1),(R6.mk 0 24 1 60 25 2),(R6.mk 26 0 0 27 60 1),(R6.mk 0 26 1 60 27 2),(R6.mk 28 0 0 29 60 1),(R6.mk 0 28 1 60 29 2),(R6.mk 30 0 0 31 60 1),(R6.mk 0 30 1 60 31 2),(R6.mk 32 0 0 33 60 1),(R6.mk 0 32 1 60 33 2),(R6.mk 34 0 0 35 60 1),(R6.mk 0 34 1 60 35 2),(R6.mk 36 0 0 37 60 1),(R6.mk 0 36 1 60 37 2),(R6.mk 38 0 0 39 60 1),(R6.mk 0 38 1 60 39 2),(R6.mk 40 0 0 41 60 1),(R6.mk 0 40 1 60 41 2)]:List R6))).length (Zz (Yz (cvT ([(R6.mk 0 0 0 1 60 1),(R6.mk 0 0 1 60 1 2),(R6.mk 2 0 0 3 60 1),(R6.mk 0 2 1 60 3 2),(R6.mk 4 0 0 5 60 1),(R6.mk 0 4 1 60 5 2),(R6.mk 6 0 0 7 60 1),(R6.mk 0 6 1 60 7 2),(R6.mk 8 0 0 9 60 1),(R6.mk 0 8 1 60 9 2),(R6.mk 10 0 0 11 60 1),(R6.mk 0 10 1 60 11 2),(R6.mk 12 0 0 13 60 1),(R6.mk 0 12 1 60 13 2),(R6.mk 14 0 0 15 60 1),(R6.mk 0 14 1 60 15 2),(R6.mk 16 0 0 17 60 1),(R6.mk 0 16 1 60 17 2),(R6.mk 18 0 0 19 60 1),(R6.mk 0 18 1 60 19 2),(R6.mk 20 0 0 21 60 1),(R6.mk 0 20 1 60 21 2),(R6.mk 22 0 0 23 60 1),(R6.mk 0 22 1 60 23 2),(R6.mk 24 0 0 25 60 1),(R6.mk 0 24 1 60 25 2),(R6.mk 26 0 0 27 60 1),(R6.mk 0 26 1 60 27 2),(R6.mk 28 0 0 29 60 1),(R6.mk 0 28 1 60 29 2),(R6.mk 30 0 0 31 60 1),(R6.mk 0 30 1 60 31 2),(R6.mk 32 0 0 33 60 1),(R6.mk 0 32 1 60 33 2),(R6.mk 34 0 0 35 60 1),(R6.mk 0 34 1 60 35 2),(R6.mk 36 0 0 37 60 1),(R6.mk 0 36 1 60 37 2),(R6.mk 38 0 0 39 60 1),(R6.mk 0 38 1 60 39 2),(R6.mk 40 0 0 41 60 1),(R6.mk 0 40 1 60 41 2)]:List R6))))) (xw cJ)) (pp (pp (xI R6 ([(R6.mk 0 0 0 1 60 1),(R6.mk 0 0 1 60 1 2),(R6.mk 2 0 0 3 60 1),(R6.mk 0 2 1 60 3 2),(R6.mk 4 0 0 5 60 1),(R6.mk 0 4 1 60 5 2),(R6.mk 6 0 0 7 60 1),(R6.mk 0 6 1 60 7 2),(R6.mk 8 0 0 9 60 1),(R6.mk 0 8 1 60 9 2),(R6.mk 10 0 0 11 60 1),(R6.mk 0 10 1 60 11 2),(R6.mk 12 0 0 13 60 1),(R6.mk 0 12 1 60 13 2),(R6.mk 14 0 0 15 60 1),(R6.mk 0 14 1 60 15 2),(R6.mk 16 0 0 17 60 1),(R6.mk 0 16 1 60 17 2),(R6.mk 18 0 0 19 60 1),(R6.mk 0 18 1 60 19 2),(R6.mk 20 0 0 21 60 1),(R6.mk 0 20 1 60 21 2),(R6.mk 22 0 0 23 60 1),(R6.mk 0 22 1 60 23 2),(R6.mk 24 0 0 25 60 1),(R6.mk 0 24 1 60 25 2),(R6.mk 26 0 0 27 60 1),(R6.mk 0 26 1 60 27 2),(R6.mk 28 0 0 29 60 1),(R6.mk 0 28 1 60 29 2),(R6.mk 30 0 0 31 60 1),(R6.mk 0 30 1 60 31 2),(R6.mk 32 0 0 33 60 1),(R6.mk 0 32 1 60 33 2),(R6.mk 34 0 0 35 60 1),(R6.mk 0 34 1 60 35 2),(R6.mk 36 0 0 37 60 1),(R6.mk 0 36 1 60 37 2),(R6.mk 38 0 0 39 60 1),(R6.mk 0 38 1 60 39 2),(R6.mk 40 0 0 41 60 1),(R6.mk 0 40 1 60 41 2)]:List R6).length (Zz ([(R6.mk 0 0 0 1 60 1),(R6.mk 0 0 1 60 1 2),(R6.mk 2 0 0 3 60 1),(R6.mk 0 2 1 60 3 2),(R6.mk 4 0 0 5 60 1),(R6.mk 0 4 1 60 5 2),(R6.mk 6 0 0 7 60 1),(R6.mk 0 6 1 60 7 2),(R6.mk 8 0 0 9 60 1),(R6.mk 0 8 1 60 9 2),(R6.mk 10 0 0 11 60 1),(R6.mk 0 10 1 60 11 2),(R6.mk 12 0 0 13 60 1),(R6.mk 0 12 1 60 13 2),(R6.mk 14 0 0 15 60 1),(R6.mk 0 14 1 60 15 2),(R6.mk 16 0 0 17 60 1),(R6.mk 0 16 1 60 17 2),(R6.mk 18 0 0 19 60 1),(R6.mk 0 18 1 60 19 2),(R6.mk 20 0 0 21 60 1),(R6.mk 0 20 1 60 21 2),(R6.mk 22 0 0 23 60 1),(R6.mk 0 22 1 60 23 2),(R6.mk 24 0 0 25 60 1),(R6.mk 0 24 1 60 25 2),(R6.mk 26 0 0 27 60 1),(R6.mk 0 26 1 60 27 2),(R6.mk 28 0 0 29 60 1),(R6.mk 0 28 1 60 29 2),(R6.mk 30 0 0 31 60 1),(R6.mk 0 30 1 60 31 2),(R6.mk 32 0 0 33 60 1),(R6.mk 0 32 1 60 33 2),(R6.mk 34 0 0 35 60 1),(R6.mk 0 34 1 60 35 2),(R6.mk 36 0 0 37 60 1),(R6.mk 0 36 1 60 37 2),(R6.mk 38 0 0 39 60 1),(R6.mk 0 38 1 60 39 2),(R6.mk 40 0 0 41 60 1),(R6.mk 0 40 1 60 41 2)]:List R6))) (xw bT)) nn))))))))))))))))))) (fun k12=>(lr 209 3 [1,1,1,1,1,1,1,0] 1 10 [(0,(.bool false))] (sl Qq 90 [] ⟨[],[],[some [0]],[]⟩ ⟨[],[],[]⟩ (trs 24 [false,false,false,false,false,false,false,false,false,false,false]) (tt k12 (tt k11 (tt k10 (tt k9 (tt k8 (tt k7 (tt k6 (tt k5 (tt k4 (tt k3 (tt k2 (pp (pp (xI R6 (Yz (cvT ([(R6.mk 0 0 0 1 60 1),(R6.mk 0 0 1 60 1 2),(R6.mk 2 0 0 3 60 1),(R6.mk 0 2 1 60 3 2),(R6.mk 4 0 0 5 60 1),(R6.mk 0 4 1 60 5 2),(R6.mk 6 0 0 7 60 1),(R6.mk 0 6 1 60 7 2),(R6.mk 8 0 0 9 60 1),(R6.mk 0 8 1 60 9 2),(R6.mk 10 0 0 11 60 1),(R6.mk 0 10 1 60 11 2),(R6.mk 12 0 0 13 60 1),(R6.mk 0 12 1 60 13 2),(R6.mk 14 0 0 15 60 1),(R6.mk 0 14 1 60 15 2),(R6.mk 16 0 0 17 60 1),(R6.mk 0 16 1 60 17 2),(R6.mk 18 0 0 19 60 1),(R6.mk 0 18 1 60 19 2),(R6.mk 20 0 0 21 60 1),(R6.mk 0 20 1 60 21 2),(R6.mk 22 0 0 23 60 1),(R6.mk 0 22 1 60 23 2),(R6.mk 24 0 0 25 60 1),(R6.mk 0 24 1 60 25 2),(R6.mk 26 0 0 27 60 1),(R6.mk 0 26 1 60 27 2),(R6.mk 28 0 0 29 60 1),(R6.mk 0 28 1 60 29 2),(R6.mk 30 0 0 31 60 1),(R6.mk 0 30 1 60 31 2),(R6.mk 32 0 0 33 60 1),(R6.mk 0 32 1 60 33 2),(R6.mk 34 0 0 35 60 1),(R6.mk 0 34 1 60 35 2),(R6.mk 36 0 0 37 60 1),(R6.mk 0 36 1 60 37 2),(R6.mk 38 0 0 39 60 1),(R6.mk 0 38 1 60 39 2),(R6.mk 40 0 0 41 60 1),(R6.mk 0 40 1 60 41 2)]:List R6))).length (Zz (Yz (cvT ([(R6.mk 0 0 0 1 60 1),(R6.mk 0 0 1 60 1 2),(R6.mk 2 0 0 3 60 1),(R6.mk 0 2 1 60 3 2),(R6.mk 4 0 0 5 60 1),(R6.mk 0 4 1 60 5 2),(R6.mk 6 0 0 7 60 1),(R6.mk 0 6 1 60 7 2),(R6.mk 8 0 0 9 60 1),(R6.mk 0 8 1 60 9 2),(R6.mk 10 0 0 11 60 1),(R6.mk 0 10 1 60 11 2),(R6.mk 12 0 0 13 60 1),(R6.mk 0 12 1 60 13 2),(R6.mk 14 0 0 15 60 1),(R6.mk 0 14 1 60 15 2),(R6.mk 16 0 0 17 60 1),(R6.mk 0 16 1 60 17 2),(R6.mk 18 0 0 19 60 1),(R6.mk 0 18 1 60 19 2),(R6.mk 20 0 0 21 60 1),(R6.mk 0 20 1 60 21 2),(R6.mk 22 0 0 23 60 1),(R6.mk 0 22 1 60 23 2),(R6.mk 24 0 0 25 60 1),(R6.mk 0 24 1 60 25 2),(R6.mk 26 0 0 27 60 1),(R6.mk 0 26 1 60 27 2),(R6.mk 28 0 0 29 60 1),(R6.mk 0 28 1 60 29 2),(R6.mk 30 0 0 31 60 1),(R6.mk 0 30 1 60 31 2),(R6.mk 32 0 0 33 60 1),(R6.mk 0 32 1 60 33 2),(R6.mk 34 0 0 35 60 1),(R6.mk 0 34 1 60 35 2),(R6.mk 36 0 0 37 60 1),(R6.mk 0 36 1 60 37 2),(R6.mk 38 0 0 39 60 1),(R6.mk 0 38 1 60 39 2),(R6.mk 40 0 0 41 60 1),(R6.mk 0 40 1 60 41 2)]:List R6))))) (xw cJ)) (pp (pp (xI R6 ([(R6.mk 0 0 0 1 60 1),(R6.mk 0 0 1 60 1 2),(R6.mk 2 0 0 3 60 1),(R6.mk 0 2 1 60 3 2),(R6.mk 4 0 0 5 60 1),(R6.mk 0 4 1 60 5 2),(R6.mk 6 0 0 7 60 1),(R6.mk 0 6 1 60 7 2),(R6.mk 8 0 0 9 60 1),(R6.mk 0 8 1 60 9 2),(R6.mk 10 0 0 11 60 1),(R6.mk 0 10 1 60 11 2),(R6.mk 12 0 0 13 60 1),(R6.mk 0 12 1 60 13 2),(R6.mk 14 0 0 15 60 1),(R6.mk 0 14 1 60 15 2),(R6.mk 16 0 0 17 60 1),(R6.mk 0 16 1 60 17 2),(R6.mk 18 0 0 19 60 1),(R6.mk 0 18 1 60 19 2),(R6.mk 20 0 0 21 60 1),(R6.mk 0 20 1 60 21 2),(R6.mk 22 0 0 23 60 1),(R6.mk 0 22 1 60 23 2),(R6.mk 24 0 0 25 60 1),(R6.mk 0 24 1 60 25 2),(R6.mk 26 0 0 27 60 1),(R6.mk 0 26 1 60 27 2),(R6.mk 28 0 0 29 60 1),(R6.mk 0 28 1 60 29 2),(R6.mk 30 0 0 31 60 1),(R6.mk 0 30 1 60 31 2),(R6.mk 32 0 0 33 60 1),(R6.mk 0 32 1 60 33 2),(R6.mk 34 0 0 35 60 1),(R6.mk 0 34 1 60 35 2),(R6.mk 36 0 0 37 60 1),(R6.mk 0 36 1 60 37 2),(R6.mk 38 0 0 39 60 1),(R6.mk 0 38 1 60 39 2),(R6.mk 40 0 0 41 60 1),(R6.mk 0 40 1 60 41 2)]:List R6).length (Zz ([(R6.mk 0 0 0 1 60 1),(R6.mk 0 0 1 60 1 2),(R6.mk 2 0 0 3 60 1),(R6.mk 0 2 1 60 3 2),(R6.mk 4 0 0 5 60 1),(R6.mk 0 4 1 60 5 2),(R6.mk 6 0 0 7 60 1),(R6.mk 0 6 1 60 7 2),(R6.mk 8 0 0 9 60 1),(R6.mk 0 8 1 60 9 2),(R6.mk 10 0 0 11 60 1),(R6.mk 0 10 1 60 11 2),(R6.mk 12 0 0 13 60 1),(R6.mk 0 12 1 60 13 2),(R6.mk 14 0 0 15 60 1),(R6.mk 0 14 1 60 15 2),(R6.mk 16 0 0 17 60 1),(R6.mk 0 16 1 60 17 2),(R6.mk 18 0 0 19 60 1),(R6.mk 0 18 1 60 19 2),(R6.mk 20 0 0 21 60 1),(R6.mk 0 20 1 60 21 2),(R6.mk 22 0 0 23 60 1),(R6.mk 0 22 1 60 23 2),(R6.mk 24 0 0 25 60 1),(R6.mk 0 24 1 60 25 2),(R6.mk 26 0 0 27 60 1),(R6.mk 0 26 1 60 27 2),(R6.mk 28 0 0 29 60 1),(R6.mk 0 28 1 60 29 2),(R6.mk 30 0 0 31 60 1),(R6.mk 0 30 1 60 31 2),(R6.mk 32 0 0 33 60 1),(R6.mk 0 32 1 60 33 2),(R6.mk 34 0 0 35 60 1),(R6.mk 0 34 1 60 35 2),(R6.mk 36 0 0 37 60 1),(R6.mk 0 36 1 60 37 2),(R6.mk 38 0 0 39 60 1),(R6.mk 0 38 1 60 39 2),(R6.mk 40 0 0 41 60 1),(R6.mk 0 40 1 60 41 2)]:List R6))) (xw bT)) nn)))))))))))))))))) (fun k11=>(lr 209 3 [1,1,1,1,1,1,1,0] 1 10 [(0,(.bool false))] (sl Qq 90 [] ⟨[],[],[some [0]],[]⟩ ⟨[],[],[]⟩ (trs 22 [false,false,false,false,false,false,false,false,false,false,false,false,false]) (tt k11 (tt k10 (tt k9 (tt k8 (tt k7 (tt k6 (tt k5 (tt k4 (tt k3 (tt k2 (pp (pp (xI R6 (Yz (cvT ([(R6.mk 0 0 0 1 60 1),(R6.mk 0 0 1 60 1 2),(R6.mk 2 0 0 3 60 1),(R6.mk 0 2 1 60 3 2),(R6.mk 4 0 0 5 60 1),(R6.mk 0 4 1 60 5 2),(R6.mk 6 0 0 7 60 1),(R6.mk 0 6 1 60 7 2),(R6.mk 8 0 0 9 60 1),(R6.mk 0 8 1 60 9 2),(R6.mk 10 0 0 11 60 1),(R6.mk 0 10 1 60 11 2),(R6.mk 12 0 0 13 60 1),(R6.mk 0 12 1 60 13 2),(R6.mk 14 0 0 15 60 1),(R6.mk 0 14 1 60 15 2),(R6.mk 16 0 0 17 60 1),(R6.mk 0 16 1 60 17 2),(R6.mk 18 0 0 19 60 1),(R6.mk 0 18 1 60 19 2),(R6.mk 20 0 0 21 60 1),(R6.mk 0 20 1 60 21 2),(R6.mk 22 0 0 23 60 1),(R6.mk 0 22 1 60 23 2),(R6.mk 24 0 0 25 60 1),(R6.mk 0 24 1 60 25 2),(R6.mk 26 0 0 27 60 1),(R6.mk 0 26 1 60 27 2),(R6.mk 28 0 0 29 60 1),(R6.mk 0 28 1 60 29 2),(R6.mk 30 0 0 31 60 1),(R6.mk 0 30 1 60 31 2),(R6.mk 32 0 0 33 60 1),(R6.mk 0 32 1 60 33 2),(R6.mk 34 0 0 35 60 1),(R6.mk 0 34 1 60 35 2),(R6.mk 36 0 0 37 60 1),(R6.mk 0 36 1 60 37 2),(R6.mk 38 0 0 39 60 1),(R6.mk 0 38 1 60 39 2),(R6.mk 40 0 0 41 60 1),(R6.mk 0 40 1 60 41 2)]:List R6))).length (Zz (Yz (cvT ([(R6.mk 0 0 0 1 60 1),(R6.mk 0 0 1 60 1 2),(R6.mk 2 0 0 3 60 1),(R6.mk 0 2 1 60 3 2),(R6.mk 4 0 0 5 60 1),(R6.mk 0 4 1 60 5 2),(R6.mk 6 0 0 7 60 1),(R6.mk 0 6 1 60 7 2),(R6.mk 8 0 0 9 60 1),(R6.mk 0 8 1 60 9 2),(R6.mk 10 0 0 11 60 1),(R6.mk 0 10 1 60 11 2),(R6.mk 12 0 0 13 60 1),(R6.mk 0 12 1 60 13 2),(R6.mk 14 0 0 15 60 1),(R6.mk 0 14 1 60 15 2),(R6.mk 16 0 0 17 60 1),(R6.mk 0 16 1 60 17 2),(R6.mk 18 0 0 19 60 1),(R6.mk 0 18 1 60 19 2),(R6.mk 20 0 0 21 60 1),(R6.mk 0 20 1 60 21 2),(R6.mk 22 0 0 23 60 1),(R6.mk 0 22 1 60 23 2),(R6.mk 24 0 0 25 60 1),(R6.mk 0 24 1 60 25 2),(R6.mk 26 0 0 27 60 1),(R6.mk 0 26 1 60 27 2),(R6.mk 28 0 0 29 60 1),(R6.mk 0 28 1 60 29 2),(R6.mk 30 0 0 31 60 1),(R6.mk 0 30 1 60 31 2),(R6.mk 32 0 0 33 60 1),(R6.mk 0 32 1 60 33 2),(R6.mk 34 0 0 35 60 1),(R6.mk 0 34 1 60 35 2),(R6.mk 36 0 0 37 60 1),(R6.mk 0 36 1 60 37 2),(R6.mk 38 0 0 39 60 1),(R6.mk 0 38 1 60 39 2),(R6.mk 40 0 0 41 60 1),(R6.mk 0 40 1 60 41 2)]:List R6))))) (xw cJ)) (pp (pp (xI R6 ([(R6.mk 0 0 0 1 60 1),(R6.mk 0 0 1 60 1 2),(R6.mk 2 0 0 3 60 1),(R6.mk 0 2 1 60 3 2),(R6.mk 4 0 0 5 60 1),(R6.mk 0 4 1 60 5 2),(R6.mk 6 0 0 7 60 1),(R6.mk 0 6 1 60 7 2),(R6.mk 8 0 0 9 60 1),(R6.mk 0 8 1 60 9 2),(R6.mk 10 0 0 11 60 1),(R6.mk 0 10 1 60 11 2),(R6.mk 12 0 0 13 60 1),(R6.mk 0 12 1 60 13 2),(R6.mk 14 0 0 15 60 1),(R6.mk 0 14 1 60 15 2),(R6.mk 16 0 0 17 60 1),(R6.mk 0 16 1 60 17 2),(R6.mk 18 0 0 19 60 1),(R6.mk 0 18 1 60 19 2),(R6.mk 20 0 0 21 60 1),(R6.mk 0 20 1 60 21 2),(R6.mk 22 0 0 23 60 1),(R6.mk 0 22 1 60 23 2),(R6.mk 24 0 0 25 60 1),(R6.mk 0 24 1 60 25 2),(R6.mk 26 0 0 27 60 1),(R6.mk 0 26 1 60 27 2),(R6.mk 28 0 0 29 60 1),(R6.mk 0 28 1 60 29 2),(R6.mk 30 0 0 31 60 1),(R6.mk 0 30 1 60 31 2),(R6.mk 32 0 0 33 60 1),(R6.mk 0 32 1 60 33 2),(R6.mk 34 0 0 35 60 1),(R6.mk 0 34 1 60 35 2),(R6.mk 36 0 0 37 60 1),(R6.mk 0 36 1 60 37 2),(R6.mk 38 0 0 39 60 1),(R6.mk 0 38 1 60 39 2),(R6.mk 40 0 0 41 60 1),(R6.mk 0 40 1 60 41 2)]:List R6).length (Zz ([(R6.mk 0 0 0 1 60 1),(R6.mk 0 0 1 60 1 2),(R6.mk 2 0 0 3 60 1),(R6.mk 0 2 1 60 3 2),(R6.mk 4 0 0 5 60 1),(R6.mk 0 4 1 60 5 2),(R6.mk 6 0 0 7 60 1),(R6.mk 0 6 1 60 7 2),(R6.mk 8 0 0 9 60 1),(R6.mk 0 8 1 60 9 2),(R6.mk 10 0 0 11 60 1),(R6.mk 0 10 1 60 11 2),(R6.mk 12 0 0 13 60 1),(R6.mk 0 12 1 60 13 2),(R6.mk 14 0 0 15 60 1),(R6.mk 0 14 1 60 15 2),(R6.mk 16 0 0 17 60 1),(R6.mk 0 16 1 60 17 2),(R6.mk 18 0 0 19 60 1),(R6.mk 0 18 1 60 19 2),(R6.mk 20 0 0 21 60 1),(R6.mk 0 20 1 60 21 2),(R6.mk 22 0 0 23 60 1),(R6.mk 0 22 1 60 23 2),(R6.mk 24 0 0 25 60 1),(R6.mk 0 24 1 60 25 2),(R6.mk 26 0 0 27 60 1),(R6.mk 0 26 1 60 27 2),(R6.mk 28 0 0 29 60 1),(R6.mk 0 28 1 60 29 2),(R6.mk 30 0 0 31 60 1),(R6.mk 0 30 1 60 31 2),(R6.mk 32 0 0 33 60 1),(R6.mk 0 32 1 60 33 2),(R6.mk 34 0 0 35 60 1),(R6.mk 0 34 1 60 35 2),(R6.mk 36 0 0 37 60 1),(R6.mk 0 36 1 60 37 2),(R6.mk 38 0 0 39 60 1),(R6.mk 0 38 1 60 39 2),(R6.mk 40 0 0 41 60 1),(R6.mk 0 40 1 60 41 2)]:List R6))) (xw bT)) nn))))))))))))))))) (fun k10=>(lr 209 3 [1,1,1,1,1,1,1,0] 1 10 [(0,(.bool false))] (sl Qq 90 [] ⟨[],[],[some [0]],[]⟩ ⟨[],[],[]⟩ (trs 19 [false,false,false,false,false,false,false,false,false,false,false,false,false,false,false,false]) (tt k10 (tt k9 (tt k8 (tt k7 (tt k6 (tt k5 (tt k4 (tt k3 (tt k2 (pp (pp (xI R6 (Yz (cvT ([(R6.mk 0 0 0 1 60 1),(R6.mk 0 0 1 60 1 2),(R6.mk 2 0 0 3 60 1),(R6.mk 0 2 1 60 3 2),(R6.mk 4 0 0 5 60 1),(R6.mk 0 4 1 60 5 2),(R6.mk 6 0 0 7 60 1),(R6.mk 0 6 1 60 7 2),(R6.mk 8 0 0 9 60 1),(R6.mk 0 8 1 60 9 2),(R6.mk 10 0 0 11 60 1),(R6.mk 0 10 1 60 11 2),(R6.mk 12 0 0 13 60 1),(R6.mk 0 12 1 60 13 2),(R6.mk 14 0 0 15 60 1),(R6.mk 0 14 1 60 15 2),(R6.mk 16 0 0 17 60 1),(R6.mk 0 16 1 60 17 2),(R6.mk 18 0 0 19 60 1),(R6.mk 0 18 1 60 19 2),(R6.mk 20 0 0 21 60 1),(R6.mk 0 20 1 60 21 2),(R6.mk 22 0 0 23 60 1),(R6.mk 0 22 1 60 23 2),(R6.mk 24 0 0 25 60 1),(R6.mk 0 24 1 60 25 2),(R6.mk 26 0 0 27 60 1),(R6.mk 0 26 1 60 27 2),(R6.mk 28 0 0 29 60 1),(R6.mk 0 28 1 60 29 2),(R6.mk 30 0 0 31 60 1),(R6.mk 0 30 1 60 31 2),(R6.mk 32 0 0 33 60 1),(R6.mk 0 32 1 60 33 2),(R6.mk 34 0 0 35 60 1),(R6.mk 0 34 1 60 35 2),(R6.mk 36 0 0 37 60 1),(R6.mk 0 36 1 60 37 2),(R6.mk 38 0 0 39 60 1),(R6.mk 0 38 1 60 39 2),(R6.mk 40 0 0 41 60 1),(R6.mk 0 40 1 60 41 2)]:List R6))).length (Zz (Yz (cvT ([(R6.mk 0 0 0 1 60 1),(R6.mk 0 0 1 60 1 2),(R6.mk 2 0 0 3 60 1),(R6.mk 0 2 1 60 3 2),(R6.mk 4 0 0 5 60 1),(R6.mk 0 4 1 60 5 2),(R6.mk 6 0 0 7 60 1),(R6.mk 0 6 1 60 7 2),(R6.mk 8 0 0 9 60 1),(R6.mk 0 8 1 60 9 2),(R6.mk 10 0 0 11 60 1),(R6.mk 0 10 1 60 11 2),(R6.mk 12 0 0 13 60 1),(R6.mk 0 12 1 60 13 2),(R6.mk 14 0 0 15 60 1),(R6.mk 0 14 1 60 15 2),(R6.mk 16 0 0 17 60 1),(R6.mk 0 16 1 60 17 2),(R6.mk 18 0 0 19 60 1),(R6.mk 0 18 1 60 19 2),(R6.mk 20 0 0 21 60 1),(R6.mk 0 20 1 60 21 2),(R6.mk 22 0 0 23 60 1),(R6.mk 0 22 1 60 23 2),(R6.mk 24 0 0 25 60 1),(R6.mk 0 24 1 60 25 2),(R6.mk 26 0 0 27 60 1),(R6.mk 0 26 1 60 27 2),(R6.mk 28 0 0 29 60 1),(R6.mk 0 28 1 60 29 2),(R6.mk 30 0 0 31 60 1),(R6.mk 0 30 1 60 31 2),(R6.mk 32 0 0 33 60 1),(R6.mk 0 32 1 60 33 2),(R6.mk 34 0 0 35 60 1),(R6.mk 0 34 1 60 35 2),(R6.mk 36 0 0 37 60 1),(R6.mk 0 36 1 60 37 2),(R6.mk 38 0 0 39 60 1),(R6.mk 0 38 1 60 39 2),(R6.mk 40 0 0 41 60 1),(R6.mk 0 40 1 60 41 2)]:List R6))))) (xw cJ)) (pp (pp (xI R6 ([(R6.mk 0 0 0 1 60 1),(R6.mk 0 0 1 60 1 2),(R6.mk 2 0 0 3 60 1),(R6.mk 0 2 1 60 3 2),(R6.mk 4 0 0 5 60 1),(R6.mk 0 4 1 60 5 2),(R6.mk 6 0 0 7 60 1),(R6.mk 0 6 1 60 7 2),(R6.mk 8 0 0 9 60 1),(R6.mk 0 8 1 60 9 2),(R6.mk 10 0 0 11 60 1),(R6.mk 0 10 1 60 11 2),(R6.mk 12 0 0 13 60 1),(R6.mk 0 12 1 60 13 2),(R6.mk 14 0 0 15 60 1),(R6.mk 0 14 1 60 15 2),(R6.mk 16 0 0 17 60 1),(R6.mk 0 16 1 60 17 2),(R6.mk 18 0 0 19 60 1),(R6.mk 0 18 1 60 19 2),(R6.mk 20 0 0 21 60 1),(R6.mk 0 20 1 60 21 2),(R6.mk 22 0 0 23 60 1),(R6.mk 0 22 1 60 23 2),(R6.mk 24 0 0 25 60 1),(R6.mk 0 24 1 60 25 2),(R6.mk 26 0 0 27 60 1),(R6.mk 0 26 1 60 27 2),(R6.mk 28 0 0 29 60 1),(R6.mk 0 28 1 60 29 2),(R6.mk 30 0 0 31 60 1),(R6.mk 0 30 1 60 31 2),(R6.mk 32 0 0 33 60 1),(R6.mk 0 32 1 60 33 2),(R6.mk 34 0 0 35 60 1),(R6.mk 0 34 1 60 35 2),(R6.mk 36 0 0 37 60 1),(R6.mk 0 36 1 60 37 2),(R6.mk 38 0 0 39 60 1),(R6.mk 0 38 1 60 39 2),(R6.mk 40 0 0 41 60 1),(R6.mk 0 40 1 60 41 2)]:List R6).length (Zz ([(R6.mk 0 0 0 1 60 1),(R6.mk 0 0 1 60 1 2),(R6.mk 2 0 0 3 60 1),(R6.mk 0 2 1 60 3 2),(R6.mk 4 0 0 5 60 1),(R6.mk 0 4 1 60 5 2),(R6.mk 6 0 0 7 60 1),(R6.mk 0 6 1 60 7 2),(R6.mk 8 0 0 9 60 1),(R6.mk 0 8 1 60 9 2),(R6.mk 10 0 0 11 60 1),(R6.mk 0 10 1 60 11 2),(R6.mk 12 0 0 13 60 1),(R6.mk 0 12 1 60 13 2),(R6.mk 14 0 0 15 60 1),(R6.mk 0 14 1 60 15 2),(R6.mk 16 0 0 17 60 1),(R6.mk 0 16 1 60 17 2),(R6.mk 18 0 0 19 60 1),(R6.mk 0 18 1 60 19 2),(R6.mk 20 0 0 21 60 1),(R6.mk 0 20 1 60 21 2),(R6.mk 22 0 0 23 60 1),(R6.mk 0 22 1 60 23 2),(R6.mk 24 0 0 25 60 1),(R6.mk 0 24 1 60 25 2),(R6.mk 26 0 0 27 60 1),(R6.mk 0 26 1 60 27 2),(R6.mk 28 0 0 29 60 1),(R6.mk 0 28 1 60 29 2),(R6.mk 30 0 0 31 60 1),(R6.mk 0 30 1 60 31 2),(R6.mk 32 0 0 33 60 1),(R6.mk 0 32 1 60 33 2),(R6.mk 34 0 0 35 60 1),(R6.mk 0 34 1 60 35 2),(R6.mk 36 0 0 37 60 1),(R6.mk 0 36 1 60 37 2),(R6.mk 38 0 0 39 60 1),(R6.mk 0 38 1 60 39 2),(R6.mk 40 0 0 41 60 1),(R6.mk 0 40 1 60 41 2)]:List R6))) (xw bT)) nn)))))))))))))))) (fun k9=>(lr 209 3 [1,1,1,1,1,1,1,0] 1 10 [(0,(.bool false))] (sl Qq 90 [] ⟨[],[],[some [0]],[]⟩ ⟨[],[],[]⟩ (trs 17 [false,false,false,false,false,false,false,false,false,false,false,false,false,false,false,false,false,false]) (tt k9 (tt k8 (tt k7 (tt k6 (tt k5 (tt k4 (tt k3 (tt k2 (pp (pp (xI R6 (Yz (cvT ([(R6.mk 0 0 0 1 60 1),(R6.mk 0 0 1 60 1 2),(R6.mk 2 0 0 3 60 1),(R6.mk 0 2 1 60 3 2),(R6.mk 4 0 0 5 60 1),(R6.mk 0 4 1 60 5 2),(R6.mk 6 0 0 7 60 1),(R6.mk 0 6 1 60 7 2),(R6.mk 8 0 0 9 60 1),(R6.mk 0 8 1 60 9 2),(R6.mk 10 0 0 11 60 1),(R6.mk 0 10 1 60 11 2),(R6.mk 12 0 0 13 60 1),(R6.mk 0 12 1 60 13 2),(R6.mk 14 0 0 15 60 1),(R6.mk 0 14 1 60 15 2),(R6.mk 16 0 0 17 60 1),(R6.mk 0 16 1 60 17 2),(R6.mk 18 0 0 19 60 1),(R6.mk 0 18 1 60 19 2),(R6.mk 20 0 0 21 60 1),(R6.mk 0 20 1 60 21 2),(R6.mk 22 0 0 23 60 1),(R6.mk 0 22 1 60 23 2),(R6.mk 24 0 0 25 60 1),(R6.mk 0 24 1 60 25 2),(R6.mk 26 0 0 27 60 1),(R6.mk 0 26 1 60 27 2),(R6.mk 28 0 0 29 60 1),(R6.mk 0 28 1 60 29 2),(R6.mk 30 0 0 31 60 1),(R6.mk 0 30 1 60 31 2),(R6.mk 32 0 0 33 60 1),(R6.mk 0 32 1 60 33 2),(R6.mk 34 0 0 35 60 1),(R6.mk 0 34 1 60 35 2),(R6.mk 36 0 0 37 60 1),(R6.mk 0 36 1 60 37 2),(R6.mk 38 0 0 39 60 1),(R6.mk 0 38 1 60 39 2),(R6.mk 40 0 0 41 60 1),(R6.mk 0 40 1 60 41 2)]:List R6))).length (Zz (Yz (cvT ([(R6.mk 0 0 0 1 60 1),(R6.mk 0 0 1 60 1 2),(R6.mk 2 0 0 3 60 1),(R6.mk 0 2 1 60 3 2),(R6.mk 4 0 0 5 60 1),(R6.mk 0 4 1 60 5 2),(R6.mk 6 0 0 7 60 1),(R6.mk 0 6 1 60 7 2),(R6.mk 8 0 0 9 60 1),(R6.mk 0 8 1 60 9 2),(R6.mk 10 0 0 11 60 1),(R6.mk 0 10 1 60 11 2),(R6.mk 12 0 0 13 60 1),(R6.mk 0 12 1 60 13 2),(R6.mk 14 0 0 15 60 1),(R6.mk 0 14 1 60 15 2),(R6.mk 16 0 0 17 60 1),(R6.mk 0 16 1 60 17 2),(R6.mk 18 0 0 19 60 1),(R6.mk 0 18 1 60 19 2),(R6.mk 20 0 0 21 60 1),(R6.mk 0 20 1 60 21 2),(R6.mk 22 0 0 23 60 1),(R6.mk 0 22 1 60 23 2),(R6.mk 24 0 0 25 60 1),(R6.mk 0 24 1 60 25 2),(R6.mk 26 0 0 27 60 1),(R6.mk 0 26 1 60 27 2),(R6.mk 28 0 0 29 60 1),(R6.mk 0 28 1 60 29 2),(R6.mk 30 0 0 31 60 1),(R6.mk 0 30 1 60 31 2),(R6.mk 32 0 0 33 60 1),(R6.mk 0 32 1 60 33 2),(R6.mk 34 0 0 35 60 1),(R6.mk 0 34 1 60 35 2),(R6.mk 36 0 0 37 60 1),(R6.mk 0 36 1 60 37 2),(R6.mk 38 0 0 39 60 1),(R6.mk 0 38 1 60 39 2),(R6.mk 40 0 0 41 60 1),(R6.mk 0 40 1 60 41 2)]:List R6))))) (xw cJ)) (pp (pp (xI R6 ([(R6.mk 0 0 0 1 60 1),(R6.mk 0 0 1 60 1 2),(R6.mk 2 0 0 3 60 1),(R6.mk 0 2 1 60 3 2),(R6.mk 4 0 0 5 60 1),(R6.mk 0 4 1 60 5 2),(R6.mk 6 0 0 7 60 1),(R6.mk 0 6 1 60 7 2),(R6.mk 8 0 0 9 60 1),(R6.mk 0 8 1 60 9 2),(R6.mk 10 0 0 11 60 1),(R6.mk 0 10 1 60 11 2),(R6.mk 12 0 0 13 60 1),(R6.mk 0 12 1 60 13 2),(R6.mk 14 0 0 15 60 1),(R6.mk 0 14 1 60 15 2),(R6.mk 16 0 0 17 60 1),(R6.mk 0 16 1 60 17 2),(R6.mk 18 0 0 19 60 1),(R6.mk 0 18 1 60 19 2),(R6.mk 20 0 0 21 60 1),(R6.mk 0 20 1 60 21 2),(R6.mk 22 0 0 23 60 1),(R6.mk 0 22 1 60 23 2),(R6.mk 24 0 0 25 60 1),(R6.mk 0 24 1 60 25 2),(R6.mk 26 0 0 27 60 1),(R6.mk 0 26 1 60 27 2),(R6.mk 28 0 0 29 60 1),(R6.mk 0 28 1 60 29 2),(R6.mk 30 0 0 31 60 1),(R6.mk 0 30 1 60 31 2),(R6.mk 32 0 0 33 60 1),(R6.mk 0 32 1 60 33 2),(R6.mk 34 0 0 35 60 1),(R6.mk 0 34 1 60 35 2),(R6.mk 36 0 0 37 60 1),(R6.mk 0 36 1 60 37 2),(R6.mk 38 0 0 39 60 1),(R6.mk 0 38 1 60 39 2),(R6.mk 40 0 0 41 60 1),(R6.mk 0 40 1 60 41 2)]:List R6).length (Zz ([(R6.mk 0 0 0 1 60 1),(R6.mk 0 0 1 60 1 2),(R6.mk 2 0 0 3 60 1),(R6.mk 0 2 1 60 3 2),(R6.mk 4 0 0 5 60 1),(R6.mk 0 4 1 60 5 2),(R6.mk 6 0 0 7 60 1),(R6.mk 0 6 1 60 7 2),(R6.mk 8 0 0 9 60 1),(R6.mk 0 8 1 60 9 2),(R6.mk 10 0 0 11 60 1),(R6.mk 0 10 1 60 11 2),(R6.mk 12 0 0 13 60 1),(R6.mk 0 12 1 60 13 2),(R6.mk 14 0 0 15 60 1),(R6.mk 0 14 1 60 15 2),(R6.mk 16 0 0 17 60 1),(R6.mk 0 16 1 60 17 2),(R6.mk 18 0 0 19 60 1),(R6.mk 0 18 1 60 19 2),(R6.mk 20 0 0 21 60 1),(R6.mk 0 20 1 60 21 2),(R6.mk 22 0 0 23 60 1),(R6.mk 0 22 1 60 23 2),(R6.mk 24 0 0 25 60 1),(R6.mk 0 24 1 60 25 2),(R6.mk 26 0 0 27 60 1),(R6.mk 0 26 1 60 27 2),(R6.mk 28 0 0 29 60 1),(R6.mk 0 28 1 60 29 2),(R6.mk 30 0 0 31 60 1),(R6.mk 0 30 1 60 31 2),(R6.mk 32 0 0 33 60 1),(R6.mk 0 32 1 60 33 2),(R6.mk 34 0 0 35 60 1),(R6.mk 0 34 1 60 35 2),(R6.mk 36 0 0 37 60 1),(R6.mk 0 36 1 60 37 2),(R6.mk 38 0 0 39 60 1),(R6.mk 0 38 1 60 39 2),(R6.mk 40 0 0 41 60 1),(R6.mk 0 40 1 60 41 2)]:List R6))) (xw bT)) nn))))))))))))))) (fun k8=>(lr 209 3 [1,1,1,1,1,1,1,0] 1 10 [(0,(.bool false))] (sl Qq 90 [] ⟨[],[],[some [0]],[]⟩ ⟨[],[],[]⟩ (trs 15 [false,false,false,false,false,false,false,false,false,false,false,false,false,false,false,false,false,false,false,false]) (tt k8 (tt k7 (tt k6 (tt k5 (tt k4 (tt k3 (tt k2 (pp (pp (xI R6 (Yz (cvT ([(R6.mk 0 0 0 1 60 1),(R6.mk 0 0 1 60 1 2),(R6.mk 2 0 0 3 60 1),(R6.mk 0 2 1 60 3 2),(R6.mk 4 0 0 5 60 1),(R6.mk 0 4 1 60 5 2),(R6.mk 6 0 0 7 60 1),(R6.mk 0 6 1 60 7 2),(R6.mk 8 0 0 9 60 1),(R6.mk 0 8 1 60 9 2),(R6.mk 10 0 0 11 60 1),(R6.mk 0 10 1 60 11 2),(R6.mk 12 0 0 13 60 1),(R6.mk 0 12 1 60 13 2),(R6.mk 14 0 0 15 60 1),(R6.mk 0 14 1 60 15 2),(R6.mk 16 0 0 17 60 1),(R6.mk 0 16 1 60 17 2),(R6.mk 18 0 0 19 60 1),(R6.mk 0 18 1 60 19 2),(R6.mk 20 0 0 21 60 1),(R6.mk 0 20 1 60 21 2),(R6.mk 22 0 0 23 60 1),(R6.mk 0 22 1 60 23 2),(R6.mk 24 0 0 25 60 1),(R6.mk 0 24 1 60 25 2),(R6.mk 26 0 0 27 60 1),(R6.mk 0 26 1 60 27 2),(R6.mk 28 0 0 29 60 1),(R6.mk 0 28 1 60 29 2),(R6.mk 30 0 0 31 60 1),(R6.mk 0 30 1 60 31 2),(R6.mk 32 0 0 33 60 1),(R6.mk 0 32 1 60 33 2),(R6.mk 34 0 0 35 60 1),(R6.mk 0 34 1 60 35 2),(R6.mk 36 0 0 37 60 1),(R6.mk 0 36 1 60 37 2),(R6.mk 38 0 0 39 60 1),(R6.mk 0 38 1 60 39 2),(R6.mk 40 0 0 41 60 1),(R6.mk 0 40 1 60 41 2)]:List R6))).length (Zz (Yz (cvT ([(R6.mk 0 0 0 1 60 1),(R6.mk 0 0 1 60 1 2),(R6.mk 2 0 0 3 60 1),(R6.mk 0 2 1 60 3 2),(R6.mk 4 0 0 5 60 1),(R6.mk 0 4 1 60 5 2),(R6.mk 6 0 0 7 60 1),(R6.mk 0 6 1 60 7 2),(R6.mk 8 0 0 9 60 1),(R6.mk 0 8 1 60 9 2),(R6.mk 10 0 0 11 60 1),(R6.mk 0 10 1 60 11 2),(R6.mk 12 0 0 13 60 1),(R6.mk 0 12 1 60 13 2),(R6.mk 14 0 0 15 60 1),(R6.mk 0 14 1 60 15 2),(R6.mk 16 0 0 17 60 1),(R6.mk 0 16 1 60 17 2),(R6.mk 18 0 0 19 60 1),(R6.mk 0 18 1 60 19 2),(R6.mk 20 0 0 21 60 1),(R6.mk 0 20 1 60 21 2),(R6.mk 22 0 0 23 60 1),(R6.mk 0 22 1 60 23 2),(R6.mk 24 0 0 25 60 1),(R6.mk 0 24 1 60 25 2),(R6.mk 26 0 0 27 60 1),(R6.mk 0 26 1 60 27 2),(R6.mk 28 0 0 29 60 1),(R6.mk 0 28 1 60 29 2),(R6.mk 30 0 0 31 60 1),(R6.mk 0 30 1 60 31 2),(R6.mk 32 0 0 33 60 1),(R6.mk 0 32 1 60 33 2),(R6.mk 34 0 0 35 60 1),(R6.mk 0 34 1 60 35 2),(R6.mk 36 0 0 37 60 1),(R6.mk 0 36 1 60 37 2),(R6.mk 38 0 0 39 60 1),(R6.mk 0 38 1 60 39 2),(R6.mk 40 0 0 41 60 1),(R6.mk 0 40 1 60 41 2)]:List R6))))) (xw cJ)) (pp (pp (xI R6 ([(R6.mk 0 0 0 1 60 1),(R6.mk 0 0 1 60 1 2),(R6.mk 2 0 0 3 60 1),(R6.mk 0 2 1 60 3 2),(R6.mk 4 0 0 5 60 1),(R6.mk 0 4 1 60 5 2),(R6.mk 6 0 0 7 60 1),(R6.mk 0 6 1 60 7 2),(R6.mk 8 0 0 9 60 1),(R6.mk 0 8 1 60 9 2),(R6.mk 10 0 0 11 60 1),(R6.mk 0 10 1 60 11 2),(R6.mk 12 0 0 13 60 1),(R6.mk 0 12 1 60 13 2),(R6.mk 14 0 0 15 60 1),(R6.mk 0 14 1 60 15 2),(R6.mk 16 0 0 17 60 1),(R6.mk 0 16 1 60 17 2),(R6.mk 18 0 0 19 60 1),(R6.mk 0 18 1 60 19 2),(R6.mk 20 0 0 21 60 1),(R6.mk 0 20 1 60 21 2),(R6.mk 22 0 0 23 60 1),(R6.mk 0 22 1 60 23 2),(R6.mk 24 0 0 25 60 1),(R6.mk 0 24 1 60 25 2),(R6.mk 26 0 0 27 60 1),(R6.mk 0 26 1 60 27 2),(R6.mk 28 0 0 29 60 1),(R6.mk 0 28 1 60 29 2),(R6.mk 30 0 0 31 60 1),(R6.mk 0 30 1 60 31 2),(R6.mk 32 0 0 33 60 1),(R6.mk 0 32 1 60 33 2),(R6.mk 34 0 0 35 60 1),(R6.mk 0 34 1 60 35 2),(R6.mk 36 0 0 37 60 1),(R6.mk 0 36 1 60 37 2),(R6.mk 38 0 0 39 60 1),(R6.mk 0 38 1 60 39 2),(R6.mk 40 0 0 41 60 1),(R6.mk 0 40 1 60 41 2)]:List R6).length (Zz ([(R6.mk 0 0 0 1 60 1),(R6.mk 0 0 1 60 1 2),(R6.mk 2 0 0 3 60 1),(R6.mk 0 2 1 60 3 2),(R6.mk 4 0 0 5 60 1),(R6.mk 0 4 1 60 5 2),(R6.mk 6 0 0 7 60 1),(R6.mk 0 6 1 60 7 2),(R6.mk 8 0 0 9 60 1),(R6.mk 0 8 1 60 9 2),(R6.mk 10 0 0 11 60 1),(R6.mk 0 10 1 60 11 2),(R6.mk 12 0 0 13 60 1),(R6.mk 0 12 1 60 13 2),(R6.mk 14 0 0 15 60 1),(R6.mk 0 14 1 60 15 2),(R6.mk 16 0 0 17 60 1),(R6.mk 0 16 1 60 17 2),(R6.mk 18 0 0 19 60 1),(R6.mk 0 18 1 60 19 2),(R6.mk 20 0 0 21 60 1),(R6.mk 0 20 1 60 21 2),(R6.mk 22 0 0 23 60 1),(R6.mk 0 22 1 60 23 2),(R6.mk 24 0 0 25 60 1),(R6.mk 0 24 1 60 25 2),(R6.mk 26 0 0 27 60 1),(R6.mk 0 26 1 60 27 2),(R6.mk 28 0 0 29 60 1),(R6.mk 0 28 1 60 29 2),(R6.mk 30 0 0 31 60 1),(R6.mk 0 30 1 60 31 2),(R6.mk 32 0 0 33 60 1),(R6.mk 0 32 1 60 33 2),(R6.mk 34 0 0 35 60 1),(R6.mk 0 34 1 60 35 2),(R6.mk 36 0 0 37 60 1),(R6.mk 0 36 1 60 37 2),(R6.mk 38 0 0 39 60 1),(R6.mk 0 38 1 60 39 2),(R6.mk 40 0 0 41 60 1),(R6.mk 0 40 1 60 41 2)]:List R6))) (xw bT)) nn)))))))))))))) (fun k7=>(lr 209 3 [1,1,1,1,1,1,1,0] 1 10 [(0,(.bool false))] (sl Qq 90 [] ⟨[],[],[some [0]],[]⟩ ⟨[],[],[]⟩ (trs 13 [false,false,false,false,false,false,false,false,false,false,false,false,false,false,false,false,false,false,false,false,false,false]) (tt k7 (tt k6 (tt k5 (tt k4 (tt k3 (tt k2 (pp (pp (xI R6 (Yz (cvT ([(R6.mk 0 0 0 1 60 1),(R6.mk 0 0 1 60 1 2),(R6.mk 2 0 0 3 60 1),(R6.mk 0 2 1 60 3 2),(R6.mk 4 0 0 5 60 1),(R6.mk 0 4 1 60 5 2),(R6.mk 6 0 0 7 60 1),(R6.mk 0 6 1 60 7 2),(R6.mk 8 0 0 9 60 1),(R6.mk 0 8 1 60 9 2),(R6.mk 10 0 0 11 60 1),(R6.mk 0 10 1 60 11 2),(R6.mk 12 0 0 13 60 1),(R6.mk 0 12 1 60 13 2),(R6.mk 14 0 0 15 60 1),(R6.mk 0 14 1 60 15 2),(R6.mk 16 0 0 17 60 1),(R6.mk 0 16 1 60 17 2),(R6.mk 18 0 0 19 60 1),(R6.mk 0 18 1 60 19 2),(R6.mk 20 0 0 21 60 1),(R6.mk 0 20 1 60 21 2),(R6.mk 22 0 0 23 60 1),(R6.mk 0 22 1 60 23 2),(R6.mk 24 0 0 25 60 1),(R6.mk 0 24 1 60 25 2),(R6.mk 26 0 0 27 60 1),(R6.mk 0 26 1 60 27 2),(R6.mk 28 0 0 29 60 1),(R6.mk 0 28 1 60 29 2),(R6.mk 30 0 0 31 60 1),(R6.mk 0 30 1 60 31 2),(R6.mk 32 0 0 33 60 1),(R6.mk 0 32 1 60 33 2),(R6.mk 34 0 0 35 60 1),(R6.mk 0 34 1 60 35 2),(R6.mk 36 0 0 37 60 1),(R6.mk 0 36 1 60 37 2),(R6.mk 38 0 0 39 60 1),(R6.mk 0 38 1 60 39 2),(R6.mk 40 0 0 41 60 1),(R6.mk 0 40 1 60 41 2)]:List R6))).length (Zz (Yz (cvT ([(R6.mk 0 0 0 1 60 1),(R6.mk 0 0 1 60 1 2),(R6.mk 2 0 0 3 60 1),(R6.mk 0 2 1 60 3 2),(R6.mk 4 0 0 5 60 1),(R6.mk 0 4 1 60 5 2),(R6.mk 6 0 0 7 60 1),(R6.mk 0 6 1 60 7 2),(R6.mk 8 0 0 9 60 1),(R6.mk 0 8 1 60 9 2),(R6.mk 10 0 0 11 60 1),(R6.mk 0 10 1 60 11 2),(R6.mk 12 0 0 13 60 1),(R6.mk 0 12 1 60 13 2),(R6.mk 14 0 0 15 60 1),(R6.mk 0 14 1 60 15 2),(R6.mk 16 0 0 17 60 1),(R6.mk 0 16 1 60 17 2),(R6.mk 18 0 0 19 60 1),(R6.mk 0 18 1 60 19 2),(R6.mk 20 0 0 21 60 1),(R6.mk 0 20 1 60 21 2),(R6.mk 22 0 0 23 60 1),(R6.mk 0 22 1 60 23 2),(R6.mk 24 0 0 25 60 1),(R6.mk 0 24 1 60 25 2),(R6.mk 26 0 0 27 60 1),(R6.mk 0 26 1 60 27 2),(R6.mk 28 0 0 29 60 1),(R6.mk 0 28 1 60 29 2),(R6.mk 30 0 0 31 60 1),(R6.mk 0 30 1 60 31 2),(R6.mk 32 0 0 33 60 1),(R6.mk 0 32 1 60 33 2),(R6.mk 34 0 0 35 60 1),(R6.mk 0 34 1 60 35 2),(R6.mk 36 0 0 37 60 1),(R6.mk 0 36 1 60 37 2),(R6.mk 38 0 0 39 60 1),(R6.mk 0 38 1 60 39 2),(R6.mk 40 0 0 41 60 1),(R6.mk 0 40 1 60 41 2)]:List R6))))) (xw cJ)) (pp (pp (xI R6 ([(R6.mk 0 0 0 1 60 1),(R6.mk 0 0 1 60 1 2),(R6.mk 2 0 0 3 60 1),(R6.mk 0 2 1 60 3 2),(R6.mk 4 0 0 5 60 1),(R6.mk 0 4 1 60 5 2),(R6.mk 6 0 0 7 60 1),(R6.mk 0 6 1 60 7 2),(R6.mk 8 0 0 9 60 1),(R6.mk 0 8 1 60 9 2),(R6.mk 10 0 0 11 60 1),(R6.mk 0 10 1 60 11 2),(R6.mk 12 0 0 13 60 1),(R6.mk 0 12 1 60 13 2),(R6.mk 14 0 0 15 60 1),(R6.mk 0 14 1 60 15 2),(R6.mk 16 0 0 17 60 1),(R6.mk 0 16 1 60 17 2),(R6.mk 18 0 0 19 60 1),(R6.mk 0 18 1 60 19 2),(R6.mk 20 0 0 21 60 1),(R6.mk 0 20 1 60 21 2),(R6.mk 22 0 0 23 60 1),(R6.mk 0 22 1 60 23 2),(R6.mk 24 0 0 25 60 1),(R6.mk 0 24 1 60 25 2),(R6.mk 26 0 0 27 60 1),(R6.mk 0 26 1 60 27 2),(R6.mk 28 0 0 29 60 1),(R6.mk 0 28 1 60 29 2),(R6.mk 30 0 0 31 60 1),(R6.mk 0 30 1 60 31 2),(R6.mk 32 0 0 33 60 1),(R6.mk 0 32 1 60 33 2),(R6.mk 34 0 0 35 60 1),(R6.mk 0 34 1 60 35 2),(R6.mk 36 0 0 37 60 1),(R6.mk 0 36 1 60 37 2),(R6.mk 38 0 0 39 60 1),(R6.mk 0 38 1 60 39 2),(R6.mk 40 0 0 41 60 1),(R6.mk 0 40 1 60 41 2)]:List R6).length (Zz ([(R6.mk 0 0 0 1 60 1),(R6.mk 0 0 1 60 1 2),(R6.mk 2 0 0 3 60 1),(R6.mk 0 2 1 60 3 2),(R6.mk 4 0 0 5 60 1),(R6.mk 0 4 1 60 5 2),(R6.mk 6 0 0 7 60 1),(R6.mk 0 6 1 60 7 2),(R6.mk 8 0 0 9 60 1),(R6.mk 0 8 1 60 9 2),(R6.mk 10 0 0 11 60 1),(R6.mk 0 10 1 60 11 2),(R6.mk 12 0 0 13 60 1),(R6.mk 0 12 1 60 13 2),(R6.mk 14 0 0 15 60 1),(R6.mk 0 14 1 60 15 2),(R6.mk 16 0 0 17 60 1),(R6.mk 0 16 1 60 17 2),(R6.mk 18 0 0 19 60 1),(R6.mk 0 18 1 60 19 2),(R6.mk 20 0 0 21 60 1),(R6.mk 0 20 1 60 21 2),(R6.mk 22 0 0 23 60 1),(R6.mk 0 22 1 60 23 2),(R6.mk 24 0 0 25 60 1),(R6.mk 0 24 1 60 25 2),(R6.mk 26 0 0 27 60 1),(R6.mk 0 26 1 60 27 2),(R6.mk 28 0 0 29 60 1),(R6.mk 0 28 1 60 29 2),(R6.mk 30 0 0 31 60 1),(R6.mk 0 30 1 60 31 2),(R6.mk 32 0 0 33 60 1),(R6.mk 0 32 1 60 33 2),(R6.mk 34 0 0 35 60 1),(R6.mk 0 34 1 60 35 2),(R6.mk 36 0 0 37 60 1),(R6.mk 0 36 1 60 37 2),(R6.mk 38 0 0 39 60 1),(R6.mk 0 38 1 60 39 2),(R6.mk 40 0 0 41 60 1),(R6.mk 0 40 1 60 41 2)]:List R6))) (xw bT)) nn))))))))))))) (fun k6=>(lr 209 3 [1,1,1,1,1,1,1,0] 1 10 [(0,(.bool false))] (sl Qq 90 [] ⟨[],[],[some [0]],[]⟩ ⟨[],[],[]⟩ (trs 11 [false,false,false,false,false,false,false,false,false,false,false,false,false,false,false,false,false,false,false,false,false,false,false,false]) (tt k6 (tt k5 (tt k4 (tt k3 (tt k2 (pp (pp (xI R6 (Yz (cvT ([(R6.mk 0 0 0 1 60 1),(R6.mk 0 0 1 60 1 2),(R6.mk 2 0 0 3 60 1),(R6.mk 0 2 1 60 3 2),(R6.mk 4 0 0 5 60 1),(R6.mk 0 4 1 60 5 2),(R6.mk 6 0 0 7 60 1),(R6.mk 0 6 1 60 7 2),(R6.mk 8 0 0 9 60 1),(R6.mk 0 8 1 60 9 2),(R6.mk 10 0 0 11 60 1),(R6.mk 0 10 1 60 11 2),(R6.mk 12 0 0 13 60 1),(R6.mk 0 12 1 60 13 2),(R6.mk 14 0 0 15 60 1),(R6.mk 0 14 1 60 15 2),(R6.mk 16 0 0 17 60 1),(R6.mk 0 16 1 60 17 2),(R6.mk 18 0 0 19 60 1),(R6.mk 0 18 1 60 19 2),(R6.mk 20 0 0 21 60 1),(R6.mk 0 20 1 60 21 2),(R6.mk 22 0 0 23 60 1),(R6.mk 0 22 1 60 23 2),(R6.mk 24 0 0 25 60 1),(R6.mk 0 24 1 60 25 2),(R6.mk 26 0 0 27 60 1),(R6.mk 0 26 1 60 27 2),(R6.mk 28 0 0 29 60 1),(R6.mk 0 28 1 60 29 2),(R6.mk 30 0 0 31 60 1),(R6.mk 0 30 1 60 31 2),(R6.mk 32 0 0 33 60 1),(R6.mk 0 32 1 60 33 2),(R6.mk 34 0 0 35 60 1),(R6.mk 0 34 1 60 35 2),(R6.mk 36 0 0 37 60 1),(R6.mk 0 36 1 60 37 2),(R6.mk 38 0 0 39 60 1),(R6.mk 0 38 1 60 39 2),(R6.mk 40 0 0 41 60 1),(R6.mk 0 40 1 60 41 2)]:List R6))).length (Zz (Yz (cvT ([(R6.mk 0 0 0 1 60 1),(R6.mk 0 0 1 60 1 2),(R6.mk 2 0 0 3 60 1),(R6.mk 0 2 1 60 3 2),(R6.mk 4 0 0 5 60 1),(R6.mk 0 4 1 60 5 2),(R6.mk 6 0 0 7 60 1),(R6.mk 0 6 1 60 7 2),(R6.mk 8 0 0 9 60 1),(R6.mk 0 8 1 60 9 2),(R6.mk 10 0 0 11 60 1),(R6.mk 0 10 1 60 11 2),(R6.mk 12 0 0 13 60 1),(R6.mk 0 12 1 60 13 2),(R6.mk 14 0 0 15 60 1),(R6.mk 0 14 1 60 15 2),(R6.mk 16 0 0 17 60 1),(R6.mk 0 16 1 60 17 2),(R6.mk 18 0 0 19 60 1),(R6.mk 0 18 1 60 19 2),(R6.mk 20 0 0 21 60 1),(R6.mk 0 20 1 60 21 2),(R6.mk 22 0 0 23 60 1),(R6.mk 0 22 1 60 23 2),(R6.mk 24 0 0 25 60 1),(R6.mk 0 24 1 60 25 2),(R6.mk 26 0 0 27 60 1),(R6.mk 0 26 1 60 27 2),(R6.mk 28 0 0 29 60 1),(R6.mk 0 28 1 60 29 2),(R6.mk 30 0 0 31 60 1),(R6.mk 0 30 1 60 31 2),(R6.mk 32 0 0 33 60 1),(R6.mk 0 32 1 60 33 2),(R6.mk 34 0 0 35 60 1),(R6.mk 0 34 1 60 35 2),(R6.mk 36 0 0 37 60 1),(R6.mk 0 36 1 60 37 2),(R6.mk 38 0 0 39 60 1),(R6.mk 0 38 1 60 39 2),(R6.mk 40 0 0 41 60 1),(R6.mk 0 40 1 60 41 2)]:List R6))))) (xw cJ)) (pp (pp (xI R6 ([(R6.mk 0 0 0 1 60 1),(R6.mk 0 0 1 60 1 2),(R6.mk 2 0 0 3 60 1),(R6.mk 0 2 1 60 3 2),(R6.mk 4 0 0 5 60 1),(R6.mk 0 4 1 60 5 2),(R6.mk 6 0 0 7 60 1),(R6.mk 0 6 1 60 7 2),(R6.mk 8 0 0 9 60 1),(R6.mk 0 8 1 60 9 2),(R6.mk 10 0 0 11 60 1),(R6.mk 0 10 1 60 11 2),(R6.mk 12 0 0 13 60 1),(R6.mk 0 12 1 60 13 2),(R6.mk 14 0 0 15 60 1),(R6.mk 0 14 1 60 15 2),(R6.mk 16 0 0 17 60 1),(R6.mk 0 16 1 60 17 2),(R6.mk 18 0 0 19 60 1),(R6.mk 0 18 1 60 19 2),(R6.mk 20 0 0 21 60 1),(R6.mk 0 20 1 60 21 2),(R6.mk 22 0 0 23 60 1),(R6.mk 0 22 1 60 23 2),(R6.mk 24 0 0 25 60 1),(R6.mk 0 24 1 60 25 2),(R6.mk 26 0 0 27 60 1),(R6.mk 0 26 1 60 27 2),(R6.mk 28 0 0 29 60 1),(R6.mk 0 28 1 60 29 2),(R6.mk 30 0 0 31 60 1),(R6.mk 0 30 1 60 31 2),(R6.mk 32 0 0 33 60 1),(R6.mk 0 32 1 60 33 2),(R6.mk 34 0 0 35 60 1),(R6.mk 0 34 1 60 35 2),(R6.mk 36 0 0 37 60 1),(R6.mk 0 36 1 60 37 2),(R6.mk 38 0 0 39 60 1),(R6.mk 0 38 1 60 39 2),(R6.mk 40 0 0 41 60 1),(R6.mk 0 40 1 60 41 2)]:List R6).length (Zz ([(R6.mk 0 0 0 1 60 1),(R6.mk 0 0 1 60 1 2),(R6.mk 2 0 0 3 60 1),(R6.mk 0 2 1 60 3 2),(R6.mk 4 0 0 5 60 1),(R6.mk 0 4 1 60 5 2),(R6.mk 6 0 0 7 60 1),(R6.mk 0 6 1 60 7 2),(R6.mk 8 0 0 9 60 1),(R6.mk 0 8 1 60 9 2),(R6.mk 10 0 0 11 60 1),(R6.mk 0 10 1 60 11 2),(R6.mk 12 0 0 13 60 1),(R6.mk 0 12 1 60 13 2),(R6.mk 14 0 0 15 60 1),(R6.mk 0 14 1 60 15 2),(R6.mk 16 0 0 17 60 1),(R6.mk 0 16 1 60 17 2),(R6.mk 18 0 0 19 60 1),(R6.mk 0 18 1 60 19 2),(R6.mk 20 0 0 21 60 1),(R6.mk 0 20 1 60 21 2),(R6.mk 22 0 0 23 60 1),(R6.mk 0 22 1 60 23 2),(R6.mk 24 0 0 25 60 1),(R6.mk 0 24 1 60 25 2),(R6.mk 26 0 0 27 60 1),(R6.mk 0 26 1 60 27 2),(R6.mk 28 0 0 29 60 1),(R6.mk 0 28 1 60 29 2),(R6.mk 30 0 0 31 60 1),(R6.mk 0 30 1 60 31 2),(R6.mk 32 0 0 33 60 1),(R6.mk 0 32 1 60 33 2),(R6.mk 34 0 0 35 60 1),(R6.mk 0 34 1 60 35 2),(R6.mk 36 0 0 37 60 1),(R6.mk 0 36 1 60 37 2),(R6.mk 38 0 0 39 60 1),(R6.mk 0 38 1 60 39 2),(R6.mk 40 0 0 41 60 1),(R6.mk 0 40 1 60 41 2)]:List R6))) (xw bT)) nn)))))))))))) (fun k5=>(lr 209 3 [1,1,1,1,1,1,1,0] 1 10 [(0,(.bool false))] (sl Qq 90 [] ⟨[],[],[some [0]],[]⟩ ⟨[],[],[]⟩ (trs 9 [false,false,false,false,false,false,false,false,false,false,false,false,false,false,false,false,false,false,false,false,false,false,false,false,false,false]) (tt k5 (tt k4 (tt k3 (tt k2 (pp (pp (xI R6 (Yz (cvT ([(R6.mk 0 0 0 1 60 1),(R6.mk 0 0 1 60 1 2),(R6.mk 2 0 0 3 60 1),(R6.mk 0 2 1 60 3 2),(R6.mk 4 0 0 5 60 1),(R6.mk 0 4 1 60 5 2),(R6.mk 6 0 0 7 60 1),(R6.mk 0 6 1 60 7 2),(R6.mk 8 0 0 9 60 1),(R6.mk 0 8 1 60 9 2),(R6.mk 10 0 0 11 60 1),(R6.mk 0 10 1 60 11 2),(R6.mk 12 0 0 13 60 1),(R6.mk 0 12 1 60 13 2),(R6.mk 14 0 0 15 60 1),(R6.mk 0 14 1 60 15 2),(R6.mk 16 0 0 17 60 1),(R6.mk 0 16 1 60 17 2),(R6.mk 18 0 0 19 60 1),(R6.mk 0 18 1 60 19 2),(R6.mk 20 0 0 21 60 1),(R6.mk 0 20 1 60 21 2),(R6.mk 22 0 0 23 60 1),(R6.mk 0 22 1 60 23 2),(R6.mk 24 0 0 25 60 1),(R6.mk 0 24 1 60 25 2),(R6.mk 26 0 0 27 60 1),(R6.mk 0 26 1 60 27 2),(R6.mk 28 0 0 29 60 1),(R6.mk 0 28 1 60 29 2),(R6.mk 30 0 0 31 60 1),(R6.mk 0 30 1 60 31 2),(R6.mk 32 0 0 33 60 1),(R6.mk 0 32 1 60 33 2),(R6.mk 34 0 0 35 60 1),(R6.mk 0 34 1 60 35 2),(R6.mk 36 0 0 37 60 1),(R6.mk 0 36 1 60 37 2),(R6.mk 38 0 0 39 60 1),(R6.mk 0 38 1 60 39 2),(R6.mk 40 0 0 41 60 1),(R6.mk 0 40 1 60 41 2)]:List R6))).length (Zz (Yz (cvT ([(R6.mk 0 0 0 1 60 1),(R6.mk 0 0 1 60 1 2),(R6.mk 2 0 0 3 60 1),(R6.mk 0 2 1 60 3 2),(R6.mk 4 0 0 5 60 1),(R6.mk 0 4 1 60 5 2),(R6.mk 6 0 0 7 60 1),(R6.mk 0 6 1 60 7 2),(R6.mk 8 0 0 9 60 1),(R6.mk 0 8 1 60 9 2),(R6.mk 10 0 0 11 60 1),(R6.mk 0 10 1 60 11 2),(R6.mk 12 0 0 13 60 1),(R6.mk 0 12 1 60 13 2),(R6.mk 14 0 0 15 60 1),(R6.mk 0 14 1 60 15 2),(R6.mk 16 0 0 17 60 1),(R6.mk 0 16 1 60 17 2),(R6.mk 18 0 0 19 60 1),(R6.mk 0 18 1 60 19 2),(R6.mk 20 0 0 21 60 1),(R6.mk 0 20 1 60 21 2),(R6.mk 22 0 0 23 60 1),(R6.mk 0 22 1 60 23 2),(R6.mk 24 0 0 25 60 1),(R6.mk 0 24 1 60 25 2),(R6.mk 26 0 0 27 60 1),(R6.mk 0 26 1 60 27 2),(R6.mk 28 0 0 29 60 1),(R6.mk 0 28 1 60 29 2),(R6.mk 30 0 0 31 60 1),(R6.mk 0 30 1 60 31 2),(R6.mk 32 0 0 33 60 1),(R6.mk 0 32 1 60 33 2),(R6.mk 34 0 0 35 60 1),(R6.mk 0 34 1 60 35 2),(R6.mk 36 0 0 37 60 1),(R6.mk 0 36 1 60 37 2),(R6.mk 38 0 0 39 60 1),(R6.mk 0 38 1 60 39 2),(R6.mk 40 0 0 41 60 1),(R6.mk 0 40 1 60 41 2)]:List R6))))) (xw cJ)) (pp (pp (xI R6 ([(R6.mk 0 0 0 1 60 1),(R6.mk 0 0 1 60 1 2),(R6.mk 2 0 0 3 60 1),(R6.mk 0 2 1 60 3 2),(R6.mk 4 0 0 5 60 1),(R6.mk 0 4 1 60 5 2),(R6.mk 6 0 0 7 60 1),(R6.mk 0 6 1 60 7 2),(R6.mk 8 0 0 9 60 1),(R6.mk 0 8 1 60 9 2),(R6.mk 10 0 0 11 60 1),(R6.mk 0 10 1 60 11 2),(R6.mk 12 0 0 13 60 1),(R6.mk 0 12 1 60 13 2),(R6.mk 14 0 0 15 60 1),(R6.mk 0 14 1 60 15 2),(R6.mk 16 0 0 17 60 1),(R6.mk 0 16 1 60 17 2),(R6.mk 18 0 0 19 60 1),(R6.mk 0 18 1 60 19 2),(R6.mk 20 0 0 21 60 1),(R6.mk 0 20 1 60 21 2),(R6.mk 22 0 0 23 60 1),(R6.mk 0 22 1 60 23 2),(R6.mk 24 0 0 25 60 1),(R6.mk 0 24 1 60 25 2),(R6.mk 26 0 0 27 60 1),(R6.mk 0 26 1 60 27 2),(R6.mk 28 0 0 29 60 1),(R6.mk 0 28 1 60 29 2),(R6.mk 30 0 0 31 60 1),(R6.mk 0 30 1 60 31 2),(R6.mk 32 0 0 33 60 1),(R6.mk 0 32 1 60 33 2),(R6.mk 34 0 0 35 60 1),(R6.mk 0 34 1 60 35 2),(R6.mk 36 0 0 37 60 1),(R6.mk 0 36 1 60 37 2),(R6.mk 38 0 0 39 60 1),(R6.mk 0 38 1 60 39 2),(R6.mk 40 0 0 41 60 1),(R6.mk 0 40 1 60 41 2)]:List R6).length (Zz ([(R6.mk 0 0 0 1 60 1),(R6.mk 0 0 1 60 1 2),(R6.mk 2 0 0 3 60 1),(R6.mk 0 2 1 60 3 2),(R6.mk 4 0 0 5 60 1),(R6.mk 0 4 1 60 5 2),(R6.mk 6 0 0 7 60 1),(R6.mk 0 6 1 60 7 2),(R6.mk 8 0 0 9 60 1),(R6.mk 0 8 1 60 9 2),(R6.mk 10 0 0 11 60 1),(R6.mk 0 10 1 60 11 2),(R6.mk 12 0 0 13 60 1),(R6.mk 0 12 1 60 13 2),(R6.mk 14 0 0 15 60 1),(R6.mk 0 14 1 60 15 2),(R6.mk 16 0 0 17 60 1),(R6.mk 0 16 1 60 17 2),(R6.mk 18 0 0 19 60 1),(R6.mk 0 18 1 60 19 2),(R6.mk 20 0 0 21 60 1),(R6.mk 0 20 1 60 21 2),(R6.mk 22 0 0 23 60 1),(R6.mk 0 22 1 60 23 2),(R6.mk 24 0 0 25 60 1),(R6.mk 0 24 1 60 25 2),(R6.mk 26 0 0 27 60 1),(R6.mk 0 26 1 60 27 2),(R6.mk 28 0 0 29 60 1),(R6.mk 0 28 1 60 29 2),(R6.mk 30 0 0 31 60 1),(R6.mk 0 30 1 60 31 2),(R6.mk 32 0 0 33 60 1),(R6.mk 0 32 1 60 33 2),(R6.mk 34 0 0 35 60 1),(R6.mk 0 34 1 60 35 2),(R6.mk 36 0 0 37 60 1),(R6.mk 0 36 1 60 37 2),(R6.mk 38 0 0 39 60 1),(R6.mk 0 38 1 60 39 2),(R6.mk 40 0 0 41 60 1),(R6.mk 0 40 1 60 41 2)]:List R6))) (xw bT)) nn))))))))))) (fun k4=>(lr 209 3 [1,1,1,1,1,1,1,0] 1 10 [(0,(.bool false))] (sl Qq 90 [] ⟨[],[],[some [0]],[]⟩ ⟨[],[],[]⟩ (trs 7 [false,false,false,false,false,false,false,false,false,false,false,false,false,false,false,false,false,false,false,false,false,false,false,false,false,false,false,false]) (tt k4 (tt k3 (tt k2 (pp (pp (xI R6 (Yz (cvT ([(R6.mk 0 0 0 1 60 1),(R6.mk 0 0 1 60 1 2),(R6.mk 2 0 0 3 60 1),(R6.mk 0 2 1 60 3 2),(R6.mk 4 0 0 5 60 1),(R6.mk 0 4 1 60 5 2),(R6.mk 6 0 0 7 60 1),(R6.mk 0 6 1 60 7 2),(R6.mk 8 0 0 9 60 1),(R6.mk 0 8 1 60 9 2),(R6.mk 10 0 0 11 60 1),(R6.mk 0 10 1 60 11 2),(R6.mk 12 0 0 13 60 1),(R6.mk 0 12 1 60 13 2),(R6.mk 14 0 0 15 60 1),(R6.mk 0 14 1 60 15 2),(R6.mk 16 0 0 17 60 1),(R6.mk 0 16 1 60 17 2),(R6.mk 18 0 0 19 60 1),(R6.mk 0 18 1 60 19 2),(R6.mk 20 0 0 21 60 1),(R6.mk 0 20 1 60 21 2),(R6.mk 22 0 0 23 60 1),(R6.mk 0 22 1 60 23 2),(R6.mk 24 0 0 25 60 1),(R6.mk 0 24 1 60 25 2),(R6.mk 26 0 0 27 60 1),(R6.mk 0 26 1 60 27 2),(R6.mk 28 0 0 29 60 1),(R6.mk 0 28 1 60 29 2),(R6.mk 30 0 0 31 60 1),(R6.mk 0 30 1 60 31 2),(R6.mk 32 0 0 33 60 1),(R6.mk 0 32 1 60 33 2),(R6.mk 34 0 0 35 60 1),(R6.mk 0 34 1 60 35 2),(R6.mk 36 0 0 37 60 1),(R6.mk 0 36 1 60 37 2),(R6.mk 38 0 0 39 60 1),(R6.mk 0 38 1 60 39 2),(R6.mk 40 0 0 41 60 1),(R6.mk 0 40 1 60 41 2)]:List R6))).length (Zz (Yz (cvT ([(R6.mk 0 0 0 1 60 1),(R6.mk 0 0 1 60 1 2),(R6.mk 2 0 0 3 60 1),(R6.mk 0 2 1 60 3 2),(R6.mk 4 0 0 5 60 1),(R6.mk 0 4 1 60 5 2),(R6.mk 6 0 0 7 60 1),(R6.mk 0 6 1 60 7 2),(R6.mk 8 0 0 9 60 1),(R6.mk 0 8 1 60 9 2),(R6.mk 10 0 0 11 60 1),(R6.mk 0 10 1 60 11 2),(R6.mk 12 0 0 13 60 1),(R6.mk 0 12 1 60 13 2),(R6.mk 14 0 0 15 60 1),(R6.mk 0 14 1 60 15 2),(R6.mk 16 0 0 17 60 1),(R6.mk 0 16 1 60 17 2),(R6.mk 18 0 0 19 60 1),(R6.mk 0 18 1 60 19 2),(R6.mk 20 0 0 21 60 1),(R6.mk 0 20 1 60 21 2),(R6.mk 22 0 0 23 60 1),(R6.mk 0 22 1 60 23 2),(R6.mk 24 0 0 25 60 1),(R6.mk 0 24 1 60 25 2),(R6.mk 26 0 0 27 60 1),(R6.mk 0 26 1 60 27 2),(R6.mk 28 0 0 29 60 1),(R6.mk 0 28 1 60 29 2),(R6.mk 30 0 0 31 60 1),(R6.mk 0 30 1 60 31 2),(R6.mk 32 0 0 33 60 1),(R6.mk 0 32 1 60 33 2),(R6.mk 34 0 0 35 60 1),(R6.mk 0 34 1 60 35 2),(R6.mk 36 0 0 37 60 1),(R6.mk 0 36 1 60 37 2),(R6.mk 38 0 0 39 60 1),(R6.mk 0 38 1 60 39 2),(R6.mk 40 0 0 41 60 1),(R6.mk 0 40 1 60 41 2)]:List R6))))) (xw cJ)) (pp (pp (xI R6 ([(R6.mk 0 0 0 1 60 1),(R6.mk 0 0 1 60 1 2),(R6.mk 2 0 0 3 60 1),(R6.mk 0 2 1 60 3 2),(R6.mk 4 0 0 5 60 1),(R6.mk 0 4 1 60 5 2),(R6.mk 6 0 0 7 60 1),(R6.mk 0 6 1 60 7 2),(R6.mk 8 0 0 9 60 1),(R6.mk 0 8 1 60 9 2),(R6.mk 10 0 0 11 60 1),(R6.mk 0 10 1 60 11 2),(R6.mk 12 0 0 13 60 1),(R6.mk 0 12 1 60 13 2),(R6.mk 14 0 0 15 60 1),(R6.mk 0 14 1 60 15 2),(R6.mk 16 0 0 17 60 1),(R6.mk 0 16 1 60 17 2),(R6.mk 18 0 0 19 60 1),(R6.mk 0 18 1 60 19 2),(R6.mk 20 0 0 21 60 1),(R6.mk 0 20 1 60 21 2),(R6.mk 22 0 0 23 60 1),(R6.mk 0 22 1 60 23 2),(R6.mk 24 0 0 25 60 1),(R6.mk 0 24 1 60 25 2),(R6.mk 26 0 0 27 60 1),(R6.mk 0 26 1 60 27 2),(R6.mk 28 0 0 29 60 1),(R6.mk 0 28 1 60 29 2),(R6.mk 30 0 0 31 60 1),(R6.mk 0 30 1 60 31 2),(R6.mk 32 0 0 33 60 1),(R6.mk 0 32 1 60 33 2),(R6.mk 34 0 0 35 60 1),(R6.mk 0 34 1 60 35 2),(R6.mk 36 0 0 37 60 1),(R6.mk 0 36 1 60 37 2),(R6.mk 38 0 0 39 60 1),(R6.mk 0 38 1 60 39 2),(R6.mk 40 0 0 41 60 1),(R6.mk 0 40 1 60 41 2)]:List R6).length (Zz ([(R6.mk 0 0 0 1 60 1),(R6.mk 0 0 1 60 1 2),(R6.mk 2 0 0 3 60 1),(R6.mk 0 2 1 60 3 2),(R6.mk 4 0 0 5 60 1),(R6.mk 0 4 1 60 5 2),(R6.mk 6 0 0 7 60 1),(R6.mk 0 6 1 60 7 2),(R6.mk 8 0 0 9 60 1),(R6.mk 0 8 1 60 9 2),(R6.mk 10 0 0 11 60 1),(R6.mk 0 10 1 60 11 2),(R6.mk 12 0 0 13 60 1),(R6.mk 0 12 1 60 13 2),(R6.mk 14 0 0 15 60 1),(R6.mk 0 14 1 60 15 2),(R6.mk 16 0 0 17 60 1),(R6.mk 0 16 1 60 17 2),(R6.mk 18 0 0 19 60 1),(R6.mk 0 18 1 60 19 2),(R6.mk 20 0 0 21 60 1),(R6.mk 0 20 1 60 21 2),(R6.mk 22 0 0 23 60 1),(R6.mk 0 22 1 60 23 2),(R6.mk 24 0 0 25 60 1),(R6.mk 0 24 1 60 25 2),(R6.mk 26 0 0 27 60 1),(R6.mk 0 26 1 60 27 2),(R6.mk 28 0 0 29 60 1),(R6.mk 0 28 1 60 29 2),(R6.mk 30 0 0 31 60 1),(R6.mk 0 30 1 60 31 2),(R6.mk 32 0 0 33 60 1),(R6.mk 0 32 1 60 33 2),(R6.mk 34 0 0 35 60 1),(R6.mk 0 34 1 60 35 2),(R6.mk 36 0 0 37 60 1),(R6.mk 0 36 1 60 37 2),(R6.mk 38 0 0 39 60 1),(R6.mk 0 38 1 60 39 2),(R6.mk 40 0 0 41 60 1),(R6.mk 0 40 1 60 41 2)]:List R6))) (xw bT)) nn)))))))))) (fun k3=>(lr 209 3 [1,1,1,1,1,1,1,0] 1 10 [(0,(.bool false))] (sl Qq 90 [] ⟨[],[],[some [0]],[]⟩ ⟨[],[],[]⟩ (trs 5 [false,false,false,false,false,false,false,false,false,false,false,false,false,false,false,false,false,false,false,false,false,false,false,false,false,false,false,false,false,false]) (tt k3 (tt k2 (pp (pp (xI R6 (Yz (cvT ([(R6.mk 0 0 0 1 60 1),(R6.mk 0 0 1 60 1 2),(R6.mk 2 0 0 3 60 1),(R6.mk 0 2 1 60 3 2),(R6.mk 4 0 0 5 60 1),(R6.mk 0 4 1 60 5 2),(R6.mk 6 0 0 7 60 1),(R6.mk 0 6 1 60 7 2),(R6.mk 8 0 0 9 60 1),(R6.mk 0 8 1 60 9 2),(R6.mk 10 0 0 11 60 1),(R6.mk 0 10 1 60 11 2),(R6.mk 12 0 0 13 60 1),(R6.mk 0 12 1 60 13 2),(R6.mk 14 0 0 15 60 1),(R6.mk 0 14 1 60 15 2),(R6.mk 16 0 0 17 60 1),(R6.mk 0 16 1 60 17 2),(R6.mk 18 0 0 19 60 1),(R6.mk 0 18 1 60 19 2),(R6.mk 20 0 0 21 60 1),(R6.mk 0 20 1 60 21 2),(R6.mk 22 0 0 23 60 1),(R6.mk 0 22 1 60 23 2),(R6.mk 24 0 0 25 60 1),(R6.mk 0 24 1 60 25 2),(R6.mk 26 0 0 27 60 1),(R6.mk 0 26 1 60 27 2),(R6.mk 28 0 0 29 60 1),(R6.mk 0 28 1 60 29 2),(R6.mk 30 0 0 31 60 1),(R6.mk 0 30 1 60 31 2),(R6.mk 32 0 0 33 60 1),(R6.mk 0 32 1 60 33 2),(R6.mk 34 0 0 35 60 1),(R6.mk 0 34 1 60 35 2),(R6.mk 36 0 0 37 60 1),(R6.mk 0 36 1 60 37 2),(R6.mk 38 0 0 39 60 1),(R6.mk 0 38 1 60 39 2),(R6.mk 40 0 0 41 60 1),(R6.mk 0 40 1 60 41 2)]:List R6))).length (Zz (Yz (cvT ([(R6.mk 0 0 0 1 60 1),(R6.mk 0 0 1 60 1 2),(R6.mk 2 0 0 3 60 1),(R6.mk 0 2 1 60 3 2),(R6.mk 4 0 0 5 60 1),(R6.mk 0 4 1 60 5 2),(R6.mk 6 0 0 7 60 1),(R6.mk 0 6 1 60 7 2),(R6.mk 8 0 0 9 60 1),(R6.mk 0 8 1 60 9 2),(R6.mk 10 0 0 11 60 1),(R6.mk 0 10 1 60 11 2),(R6.mk 12 0 0 13 60 1),(R6.mk 0 12 1 60 13 2),(R6.mk 14 0 0 15 60 1),(R6.mk 0 14 1 60 15 2),(R6.mk 16 0 0 17 60 1),(R6.mk 0 16 1 60 17 2),(R6.mk 18 0 0 19 60 1),(R6.mk 0 18 1 60 19 2),(R6.mk 20 0 0 21 60 1),(R6.mk 0 20 1 60 21 2),(R6.mk 22 0 0 23 60 1),(R6.mk 0 22 1 60 23 2),(R6.mk 24 0 0 25 60 1),(R6.mk 0 24 1 60 25 2),(R6.mk 26 0 0 27 60 1),(R6.mk 0 26 1 60 27 2),(R6.mk 28 0 0 29 60 1),(R6.mk 0 28 1 60 29 2),(R6.mk 30 0 0 31 60 1),(R6.mk 0 30 1 60 31 2),(R6.mk 32 0 0 33 60 1),(R6.mk 0 32 1 60 33 2),(R6.mk 34 0 0 35 60 1),(R6.mk 0 34 1 60 35 2),(R6.mk 36 0 0 37 60 1),(R6.mk 0 36 1 60 37 2),(R6.mk 38 0 0 39 60 1),(R6.mk 0 38 1 60 39 2),(R6.mk 40 0 0 41 60 1),(R6.mk 0 40 1 60 41 2)]:List R6))))) (xw cJ)) (pp (pp (xI R6 ([(R6.mk 0 0 0 1 60 1),(R6.mk 0 0 1 60 1 2),(R6.mk 2 0 0 3 60 1),(R6.mk 0 2 1 60 3 2),(R6.mk 4 0 0 5 60 1),(R6.mk 0 4 1 60 5 2),(R6.mk 6 0 0 7 60 1),(R6.mk 0 6 1 60 7 2),(R6.mk 8 0 0 9 60 1),(R6.mk 0 8 1 60 9 2),(R6.mk 10 0 0 11 60 1),(R6.mk 0 10 1 60 11 2),(R6.mk 12 0 0 13 60 1),(R6.mk 0 12 1 60 13 2),(R6.mk 14 0 0 15 60 1),(R6.mk 0 14 1 60 15 2),(R6.mk 16 0 0 17 60 1),(R6.mk 0 16 1 60 17 2),(R6.mk 18 0 0 19 60 1),(R6.mk 0 18 1 60 19 2),(R6.mk 20 0 0 21 60 1),(R6.mk 0 20 1 60 21 2),(R6.mk 22 0 0 23 60 1),(R6.mk 0 22 1 60 23 2),(R6.mk 24 0 0 25 60 1),(R6.mk 0 24 1 60 25 2),(R6.mk 26 0 0 27 60 1),(R6.mk 0 26 1 60 27 2),(R6.mk 28 0 0 29 60 1),(R6.mk 0 28 1 60 29 2),(R6.mk 30 0 0 31 60 1),(R6.mk 0 30 1 60 31 2),(R6.mk 32 0 0 33 60 1),(R6.mk 0 32 1 60 33 2),(R6.mk 34 0 0 35 60 1),(R6.mk 0 34 1 60 35 2),(R6.mk 36 0 0 37 60 1),(R6.mk 0 36 1 60 37 2),(R6.mk 38 0 0 39 60 1),(R6.mk 0 38 1 60 39 2),(R6.mk 40 0 0 41 60 1),(R6.mk 0 40 1 60 41 2)]:List R6).length (Zz ([(R6.mk 0 0 0 1 60 1),(R6.mk 0 0 1 60 1 2),(R6.mk 2 0 0 3 60 1),(R6.mk 0 2 1 60 3 2),(R6.mk 4 0 0 5 60 1),(R6.mk 0 4 1 60 5 2),(R6.mk 6 0 0 7 60 1),(R6.mk 0 6 1 60 7 2),(R6.mk 8 0 0 9 60 1),(R6.mk 0 8 1 60 9 2),(R6.mk 10 0 0 11 60 1),(R6.mk 0 10 1 60 11 2),(R6.mk 12 0 0 13 60 1),(R6.mk 0 12 1 60 13 2),(R6.mk 14 0 0 15 60 1),(R6.mk 0 14 1 60 15 2),(R6.mk 16 0 0 17 60 1),(R6.mk 0 16 1 60 17 2),(R6.mk 18 0 0 19 60 1),(R6.mk 0 18 1 60 19 2),(R6.mk 20 0 0 21 60 1),(R6.mk 0 20 1 60 21 2),(R6.mk 22 0 0 23 60 1),(R6.mk 0 22 1 60 23 2),(R6.mk 24 0 0 25 60 1),(R6.mk 0 24 1 60 25 2),(R6.mk 26 0 0 27 60 1),(R6.mk 0 26 1 60 27 2),(R6.mk 28 0 0 29 60 1),(R6.mk 0 28 1 60 29 2),(R6.mk 30 0 0 31 60 1),(R6.mk 0 30 1 60 31 2),(R6.mk 32 0 0 33 60 1),(R6.mk 0 32 1 60 33 2),(R6.mk 34 0 0 35 60 1),(R6.mk 0 34 1 60 35 2),(R6.mk 36 0 0 37 60 1),(R6.mk 0 36 1 60 37 2),(R6.mk 38 0 0 39 60 1),(R6.mk 0 38 1 60 39 2),(R6.mk 40 0 0 41 60 1),(R6.mk 0 40 1 60 41 2)]:List R6))) (xw bT)) nn))))))))) (fun k2=>(lr 209 3 [1,1,1,1,1,1,1,0] 1 10 [(0,(.bool false))] (sl Qq 90 [] ⟨[],[],[some [0]],[]⟩ ⟨[],[],[]⟩ (trs 3 [false,false,false,false,false,false,false,false,false,false,false,false,false,false,false,false,false,false,false,false,false,false,false,false,false,false,false,false,false,false,false,false]) (tt k2 (pp (pp (xI R6 (Yz (cvT ([(R6.mk 0 0 0 1 60 1),(R6.mk 0 0 1 60 1 2),(R6.mk 2 0 0 3 60 1),(R6.mk 0 2 1 60 3 2),(R6.mk 4 0 0 5 60 1),(R6.mk 0 4 1 60 5 2),(R6.mk 6 0 0 7 60 1),(R6.mk 0 6 1 60 7 2),(R6.mk 8 0 0 9 60 1),(R6.mk 0 8 1 60 9 2),(R6.mk 10 0 0 11 60 1),(R6.mk 0 10 1 60 11 2),(R6.mk 12 0 0 13 60 1),(R6.mk 0 12 1 60 13 2),(R6.mk 14 0 0 15 60 1),(R6.mk 0 14 1 60 15 2),(R6.mk 16 0 0 17 60 1),(R6.mk 0 16 1 60 17 2),(R6.mk 18 0 0 19 60 1),(R6.mk 0 18 1 60 19 2),(R6.mk 20 0 0 21 60 1),(R6.mk 0 20 1 60 21 2),(R6.mk 22 0 0 23 60 1),(R6.mk 0 22 1 60 23 2),(R6.mk 24 0 0 25 60 1),(R6.mk 0 24 1 60 25 2),(R6.mk 26 0 0 27 60 1),(R6.mk 0 26 1 60 27 2),(R6.mk 28 0 0 29 60 1),(R6.mk 0 28 1 60 29 2),(R6.mk 30 0 0 31 60 1),(R6.mk 0 30 1 60 31 2),(R6.mk 32 0 0 33 60 1),(R6.mk 0 32 1 60 33 2),(R6.mk 34 0 0 35 60 1),(R6.mk 0 34 1 60 35 2),(R6.mk 36 0 0 37 60 1),(R6.mk 0 36 1 60 37 2),(R6.mk 38 0 0 39 60 1),(R6.mk 0 38 1 60 39 2),(R6.mk 40 0 0 41 60 1),(R6.mk 0 40 1 60 41 2)]:List R6))).length (Zz (Yz (cvT ([(R6.mk 0 0 0 1 60 1),(R6.mk 0 0 1 60 1 2),(R6.mk 2 0 0 3 60 1),(R6.mk 0 2 1 60 3 2),(R6.mk 4 0 0 5 60 1),(R6.mk 0 4 1 60 5 2),(R6.mk 6 0 0 7 60 1),(R6.mk 0 6 1 60 7 2),(R6.mk 8 0 0 9 60 1),(R6.mk 0 8 1 60 9 2),(R6.mk 10 0 0 11 60 1),(R6.mk 0 10 1 60 11 2),(R6.mk 12 0 0 13 60 1),(R6.mk 0 12 1 60 13 2),(R6.mk 14 0 0 15 60 1),(R6.mk 0 14 1 60 15 2),(R6.mk 16 0 0 17 60 1),(R6.mk 0 16 1 60 17 2),(R6.mk 18 0 0 19 60 1),(R6.mk 0 18 1 60 19 2),(R6.mk 20 0 0 21 60 1),(R6.mk 0 20 1 60 21 2),(R6.mk 22 0 0 23 60 1),(R6.mk 0 22 1 60 23 2),(R6.mk 24 0 0 25 60 1),(R6.mk 0 24 1 60 25 2),(R6.mk 26 0 0 27 60 1),(R6.mk 0 26 1 60 27 2),(R6.mk 28 0 0 29 60 1),(R6.mk 0 28 1 60 29 2),(R6.mk 30 0 0 31 60 1),(R6.mk 0 30 1 60 31 2),(R6.mk 32 0 0 33 60 1),(R6.mk 0 32 1 60 33 2),(R6.mk 34 0 0 35 60 1),(R6.mk 0 34 1 60 35 2),(R6.mk 36 0 0 37 60 1),(R6.mk 0 36 1 60 37 2),(R6.mk 38 0 0 39 60 1),(R6.mk 0 38 1 60 39 2),(R6.mk 40 0 0 41 60 1),(R6.mk 0 40 1 60 41 2)]:List R6))))) (xw cJ)) (pp (pp (xI R6 ([(R6.mk 0 0 0 1 60 1),(R6.mk 0 0 1 60 1 2),(R6.mk 2 0 0 3 60 1),(R6.mk 0 2 1 60 3 2),(R6.mk 4 0 0 5 60 1),(R6.mk 0 4 1 60 5 2),(R6.mk 6 0 0 7 60 1),(R6.mk 0 6 1 60 7 2),(R6.mk 8 0 0 9 60 1),(R6.mk 0 8 1 60 9 2),(R6.mk 10 0 0 11 60 1),(R6.mk 0 10 1 60 11 2),(R6.mk 12 0 0 13 60 1),(R6.mk 0 12 1 60 13 2),(R6.mk 14 0 0 15 60 1),(R6.mk 0 14 1 60 15 2),(R6.mk 16 0 0 17 60 1),(R6.mk 0 16 1 60 17 2),(R6.mk 18 0 0 19 60 1),(R6.mk 0 18 1 60 19 2),(R6.mk 20 0 0 21 60 1),(R6.mk 0 20 1 60 21 2),(R6.mk 22 0 0 23 60 1),(R6.mk 0 22 1 60 23 2),(R6.mk 24 0 0 25 60 1),(R6.mk 0 24 1 60 25 2),(R6.mk 26 0 0 27 60 1),(R6.mk 0 26 1 60 27 2),(R6.mk 28 0 0 29 60 1),(R6.mk 0 28 1 60 29 2),(R6.mk 30 0 0 31 60 1),(R6.mk 0 30 1 60 31 2),(R6.mk 32 0 0 33 60 1),(R6.mk 0 32 1 60 33 2),(R6.mk 34 0 0 35 60 1),(R6.mk 0 34 1 60 35 2),(R6.mk 36 0 0 37 60 1),(R6.mk 0 36 1 60 37 2),(R6.mk 38 0 0 39 60 1),(R6.mk 0 38 1 60 39 2),(R6.mk 40 0 0 41 60 1),(R6.mk 0 40 1 60 41 2)]:List R6).length (Zz ([(R6.mk 0 0 0 1 60 1),(R6.mk 0 0 1 60 1 2),(R6.mk 2 0 0 3 60 1),(R6.mk 0 2 1 60 3 2),(R6.mk 4 0 0 5 60 1),(R6.mk 0 4 1 60 5 2),(R6.mk 6 0 0 7 60 1),(R6.mk 0 6 1 60 7 2),(R6.mk 8 0 0 9 60 1),(R6.mk 0 8 1 60 9 2),(R6.mk 10 0 0 11 60 1),(R6.mk 0 10 1 60 11 2),(R6.mk 12 0 0 13 60 1),(R6.mk 0 12 1 60 13 2),(R6.mk 14 0 0 15 60 1),(R6.mk 0 14 1 60 15 2),(R6.mk 16 0 0 17 60 1),(R6.mk 0 16 1 60 17 2),(R6.mk 18 0 0 19 60 1),(R6.mk 0 18 1 60 19 2),(R6.mk 20 0 0 21 60 1),(R6.mk 0 20 1 60 21 2),(R6.mk 22 0 0 23 60 1),(R6.mk 0 22 1 60 23 2),(R6.mk 24 0 0 25 60 1),(R6.mk 0 24 1 60 25 2),(R6.mk 26 0 0 27 60 1),(R6.mk 0 26 1 60 27 2),(R6.mk 28 0 0 29 60 1),(R6.mk 0 28 1 60 29 2),(R6.mk 30 0 0 31 60 1),(R6.mk 0 30 1 60 31 2),(R6.mk 32 0 0 33 60 1),(R6.mk 0 32 1 60 33 2),(R6.mk 34 0 0 35 60 1),(R6.mk 0 34 1 60 35 2),(R6.mk 36 0 0 37 60 1),(R6.mk 0 36 1 60 37 2),(R6.mk 38 0 0 39 60 1),(R6.mk 0 38 1 60 39 2),(R6.mk 40 0 0 41 60 1),(R6.mk 0 40 1 60 41 2)]:List R6))) (xw bT)) nn))))))))))))))))))))))))))))))))))))))))))
theorem mna_ends (n:Nat) (vs:List AVal) (h:Yj (x7f) n (y2d)=.ret vs):Kv prog (Zy prog 10) (Zc prog 10 [] true []) vs:=by have:=Zn (w4t) n _ (x7g);rwa [h] at this
section
variable {L:List R6} (hv: ∀r∈L,Qu r=true) (hz:y8f L=0)
include hv hz
theorem v7e (q:Ax) (s:Bool) {x:Int} (hx:x∈plQ q L):Vb q L x s=0:=by have _u:=hv;exact x1b (w2p hz q s) x hx
end
open Go.Proofs
open Go.Sort Go.Shelf Go.RowKit Go.Lib
theorem w7e (n:Nat):y5c n=0∨y5c n=4:=by
 unfold y5c;cases decide ((n:Int)>400)
 ·exact .inl rfl
 ·exact .inr rfl
theorem z4_rgm {l:List R4} (hv: ∀r∈l,Vp r=true):Xm l=0∨Xm l=4:=by
 unfold Xm;rw [As.2 hv];cases decide (400<l.length)
 ·exact w7e _
 ·exact .inr rfl
theorem v9p (o:Op) {a b:List R4} (la:a.length≤400) (lb:b.length≤400) (va: ∀r∈a,Vp r=true) (vb: ∀r∈b,Vp r=true) (ca:Xt.can a) (cb:Xt.can b):rgE o a b=0∨rgE o a b=4:=by
 have sc: ∀(l:List R4) (x:Int),l.length≤400→(∀r∈l,Vp r=true)→Xt.can l→y6c (D4.inn l x)=0:=fun l x hl hv hc=>
  (y1o _).2 ⟨AF (D4.inn_length l x) hl,Vk hv x,z7u hc x⟩
 have hz: ∀x,rgA o a b x=0∨rgA o a b x=4:=fun x=>by unfold rgA spE;rw [sc a x la va ca,sc b x lb vb cb];exact w7e _
 have hf: ∀cs k i,x4x (rgA o a b) cs k i=0∨x4x (rgA o a b) cs k i=4:=fun cs k=>by
  induction k with
  | zero=>exact fun _=>.inl rfl
  | succ k ih=>
   intro i;show (bif rgA o a b (rd cs i) != 0 then rgA o a b (rd cs i) else x4x (rgA o a b) cs k (i+1))=0∨(bif rgA o a b (rd cs i) != 0 then rgA o a b (rd cs i) else x4x (rgA o a b) cs k (i+1))=4;rcases hz (rd cs i) with h | h <;> rw [h]
   ·exact ih _
   ·exact .inr rfl
 unfold rgE;rw [y1x la va ca,y1x lb vb cb];show eJ _ _=0∨eJ _ _=4;unfold eJ;rcases hf (D4.cuts (a++b)) ((D4.cuts (a++b)).length - 1) 0 with h | h <;> rw [h]
 ·exact w7e _
 ·exact .inr rfl
theorem u6j {l:List R4} (h:Xm l=0):(Zb l).length ≤400:=by obtain ⟨h1,h2,h3⟩:=y3m h;unfold Xm at h;rw [Ay (by omega),As.2 h2,Aa,Ab] at h;rw [h3];exact y5b h
section
variable {L:List R6} (hv: ∀r∈L,Qu r=true)
include hv
theorem w1t (q:Ax) {x:Int} (hx:Ug q L x=0):Xt.can (Yg q L x)∧(∀r∈Yg q L x,Vp r=true)∧(Yg q L x).length ≤400:=by have _u:=hv;obtain ⟨m1,m2,m3⟩:=y3m (l:=z1k q L x) hx;obtain ⟨c,pt⟩:=Km m2 m1;have hl:=u6j hx;unfold Yg;rw [m3] at hl ⊢;exact ⟨c,z1b c fun u v k=>z0p m2 ((pt _).1 k),hl⟩
theorem z4_mfc (q:Ax) (p:Int) (s:Bool):Vb q L p s=0∨Vb q L p s=4:=by
 have z: ∀x,Ug q L x=0∨Ug q L x=4:=fun x=>z4_rgm (x8x q hv x);unfold Vb w1r;rcases z (wrap .i64 (p - 1)) with h1 | h1 <;> rw [h1]
 ·rcases z p with h2 | h2 <;> rw [h2]
  ·obtain ⟨a1,a2,a3⟩:=w1t hv q h1;obtain ⟨b1,b2,b3⟩:=w1t hv q h2;cases s with
   | true=>exact v9p .d a3 b3 a2 b2 a1 b1
   | false=>exact v9p .d b3 a3 b2 a2 b1 a1
  ·exact .inr rfl
 ·exact .inr rfl
theorem z4_mmd :y8f L=0∨y8f L=4:=by
 have e: ∀(E:Int→Int),(∀p,E p=0∨E p=4)→ ∀l,w2m E l=0∨w2m E l=4:=fun E hE l=>by
  induction l with
  | nil=>exact .inl rfl
  | cons p l ih=>
   unfold w2m;rcases hE p with h | h <;> rw [h]
   ·exact ih
   ·exact .inr rfl
 have d: ∀q s,z6p q s L=0∨z6p q s L=4:=fun q s=>e _ (fun p=>z4_mfc hv q p s) _;unfold y8f;rcases d .x true with h | h <;> rw [h]
 rotate_left
 ·exact .inr rfl
 rcases d .x false with h | h <;> rw [h]
 rotate_left
 ·exact .inr rfl
 rcases d .y true with h | h <;> rw [h]
 rotate_left
 ·exact .inr rfl
 rcases d .y false with h | h <;> rw [h]
 rotate_left
 ·exact .inr rfl
 rcases d .z true with h | h <;> rw [h]
 rotate_left
 ·exact .inr rfl
 rcases d .z false with h | h <;> rw [h]
 rotate_left
 ·exact .inr rfl
 cases decide ((((Kq L).length :Nat):Int)>3000)
 ·exact .inl rfl
 ·exact .inr rfl
end
theorem w9z {α:Type} (q:α→Bool): ∀P:List α,P.Pairwise (fun a b=> ¬(q a=true∧q b=true))→P.length≤(P.filter fun a=> !q a).length +1
 | [],_=>AJ _
 | a::P,h=>by
  obtain ⟨h1,h2⟩:=AR.1 h;cases e:q a with
  | true=>
   rw [List.filter_cons_of_neg (by rw [e];decide),List.filter_eq_self.2 fun b hb=>by
    cases e2:q b with
    | false=>rfl
    | true=>exact (h1 b hb ⟨e,e2⟩).elim]
   exact An _
  | false=>rw [List.filter_cons_of_pos (by rw [e];decide)];have:=w9z q P h2;simp only [AV];omega
theorem pig {α β:Type} (p:α→β→Bool): ∀(L:List β) (P:List α),(∀a∈P,∃b∈L,p a b=true)→P.Pairwise (fun a a'=> ∀b∈L,¬(p a b=true∧p a' b=true))→P.length≤L.length
 | [],[],_,_=>An _
 | [],a::P,h,_=>by obtain ⟨b,hb,_⟩:=h a (by simp);cases hb
 | b::L,P,h,hp=>by
  have h1:=w9z (fun a=>p a b) P (hp.imp fun k=>k b (by simp));have h2:=pig p L (P.filter fun a=> !p a b) (fun a ha=>by
   obtain ⟨ha,hn⟩:=A0.1 ha;obtain ⟨b',hb,e⟩:=h a ha;rcases AB.1 hb with rfl | hb
   ·rw [e] at hn;cases hn
   ·exact ⟨b',hb,e⟩) ((hp.imp fun k b' hb=>k b' (List.mem_cons_of_mem _ hb)).sublist List.filter_sublist)
  simp only [AV];omega
def barD (t:Nat):R6:=⟨2*(t:Int),0,0,2*(t:Int)+1,60,1⟩
def barU (t:Nat):R6:=⟨0,2*(t:Int),1,60,2*(t:Int)+1,2⟩
def cmb :List R6:=(List.range 21).flatMap fun t=>[barD t,barU t]
def cmbC :List R6:=(List.range 21).map barD++(List.range 21).map barU
theorem z5e {r:R6}:r∈cmbC↔(∃t,t<21∧r=barD t)∨(∃t,t<21∧r=barU t):=by
 unfold cmbC;rw [AC,AN,AN];constructor
 ·rintro (⟨t,ht,e⟩ | ⟨t,ht,e⟩)
  ·exact .inl ⟨t,AY.1 ht,e.symm⟩
  ·exact .inr ⟨t,AY.1 ht,e.symm⟩
 ·rintro (⟨t,ht,e⟩ | ⟨t,ht,e⟩)
  ·exact .inl ⟨t,AY.2 ht,e.symm⟩
  ·exact .inr ⟨t,AY.2 ht,e.symm⟩
theorem y2u : ∀r∈cmbC,Qu r=true:=As.1 (show cmbC.all Qu=true by kernel_rfl)
def gapG (s:List R2):Nat→Nat→List (Qs R2)
 | 0,_=>[]
 | n+1,t=>⟨2*(t:Int),2*(t:Int)+1,s⟩::gapG s n (t+1)
theorem w2f {s:List R2} (hs:y3k.can s) (hn:s≠ []): ∀n t,z2c y3k (gapG s n t)
 | 0,_=>.nil
 | 1,t=>.one _ ⟨by show 2*(t:Int)<2*(t:Int)+1;omega,hs,hn⟩
 | n+2,t=>.cons _ _ _ ⟨by show 2*(t:Int)<2*(t:Int)+1;omega,hs,hn⟩ ⟨by show 2*(t:Int)+1≤2*((t+1:Nat):Int);omega,fun k=>by
   have:2*(t:Int)+1=2*((t+1:Nat):Int):=k;omega⟩ (w2f hs hn (n+1) (t+1))
def spsU :List R2:=(List.range 21).map fun (t:Nat)=>⟨2*(t:Int),2*(t:Int)+1⟩
theorem v4l :y3k.can spsU:=by
 constructor
 ·exact fun r hr=>by obtain ⟨t,_,rfl⟩:=AN.1 hr;show 2*(t:Int)<2*(t:Int)+1;omega
 ·refine Ci.2 (List.pairwise_lt_range.imp fun {a b} hab=> ?_);show 2*(a:Int)+1<2*(b:Int);omega
theorem canD :Xt.can ((List.range 21).map fun (t:Nat)=>(⟨2*(t:Int),0,2*(t:Int)+1,60⟩:R4)):=
 ⟨gapG [⟨0,60⟩] 21 0,w2f (u4e 0 60 (by decide)) (by simp) 21 0,by kernel_rfl⟩
theorem canU :Xt.can ((List.range 21).map fun (t:Nat)=>(⟨0,2*(t:Int),60,2*(t:Int)+1⟩:R4)):=
 ⟨[⟨0,60,spsU⟩],.one _ ⟨by decide,v4l,by show spsU≠ [];intro h;exact absurd (AX List.length h) (by decide)⟩,by kernel_rfl⟩
theorem v9e :x2e.can cmbC:=
 ⟨[⟨0,1,(List.range 21).map fun (t:Nat)=>(⟨2*(t:Int),0,2*(t:Int)+1,60⟩:R4)⟩,⟨1,2,(List.range 21).map fun (t:Nat)=>(⟨0,2*(t:Int),60,2*(t:Int)+1⟩:R4)⟩],
   .cons _ _ [] ⟨by show (0:Int)<1;decide,canD,by intro h;exact absurd (AX List.length h) (by decide)⟩ ⟨by show (1:Int)≤1;decide,fun _ h=>by
    have h:=AX (fun l=>(rd l 1).a) h;revert h;show¬((2:Int)=0);decide⟩ (.one _ ⟨by show (1:Int)<2;decide,canU,by intro h;exact absurd (AX List.length h) (by decide)⟩),by kernel_rfl⟩
theorem w2r :Xe cmbC=0:=z4p (by decide) y2u v9e
theorem v5b {A B:List R6} (hl:A.length=B.length) (hv:A.all Qu=B.all Qu) (hc:D6.cuts A=D6.cuts B) (hi: ∀x,D6.inn A x=D6.inn B x):Vg A=Vg B∧Yz A=Yz B:=by
 have e1: ∀k i,okF A k i=okF B k i:=fun k=>by
  induction k with
  | zero=>exact fun _=>rfl
  | succ k ih=>intro i;unfold okF v9i;rw [hc,hi,ih]
 have e2: ∀k i,eF A k i=eF B k i:=fun k=>by
  induction k with
  | zero=>exact fun _=>rfl
  | succ k ih=>intro i;unfold eF v9i;rw [hc,hi,ih]
 have e3:D6.out A=D6.out B:=by unfold Dim.out;rw [D6.go_goS,D6.go_goS,hc,show D6.sec A=D6.sec B from funext fun x=>by unfold Dim.sec;rw [hi]]
 have e4:Vg A=Vg B:=by unfold Vg;rw [hl,hv,hc,e1,e2,e3]
 exact ⟨e4,by unfold Yz;rw [e4,e3]⟩
theorem cuts_mem (l:List R6) (x:Int):x∈D6.cuts l↔ ∃r∈l,x=r.c∨x=r.f:=z1h .z l x
theorem v9d :D6.cuts cmb=D6.cuts cmbC:=by have asc: ∀l,(D6.cuts l).Pairwise (· < ·):=fun l=>z2m .z l;refine z2a _ _ (asc _) (asc _) fun x=> ?_;rw [cuts_mem,cuts_mem];have sub: ∀(a b:List R6),(a.all fun r=>b.contains r)=true→ ∀r∈a,r∈b:=fun a b h r hr=>List.contains_iff_mem.1 (As.1 h r hr);exact ⟨fun ⟨r,hr,h⟩=>⟨r,sub cmb cmbC (by kernel_rfl) r hr,h⟩,fun ⟨r,hr,h⟩=>⟨r,sub cmbC cmb (by kernel_rfl) r hr,h⟩⟩
theorem j0k (x:Int):D6.inn cmb x=D6.inn cmbC x:=by
 by_cases h0:x=0
 ·subst h0;kernel_rfl
 by_cases h1:x=1
 ·subst h1;kernel_rfl
 have none: ∀l:List R6,(∀r∈l,r.c=0∧r.f=1∨r.c=1∧r.f=2)→D6.inn l x=[]:=fun l hl=>by
  unfold Dim.inn;rw [BG.2 fun r hr=> ?_]
  ·rfl
  ·show¬((decide (r.c≤x)&&decide (x<r.f))=true);rw [Ac,Aq,Aq];rcases hl r hr with k | k <;> omega
 have hC: ∀r∈cmbC,r.c=0∧r.f=1∨r.c=1∧r.f=2:=fun r hr=>by
  rcases z5e.1 hr with ⟨t,_,rfl⟩ | ⟨t,_,rfl⟩
  ·exact .inl ⟨rfl,rfl⟩
  ·exact .inr ⟨rfl,rfl⟩
 rw [none cmbC hC,none cmb fun r hr=>by
  obtain ⟨t,_,hr⟩:=AO.1 hr;simp only [AB,Bm,Ca] at hr;rcases hr with rfl | rfl
  ·exact .inl ⟨rfl,rfl⟩
  ·exact .inr ⟨rfl,rfl⟩]
theorem v3g :Vg cmb=0∧Yz cmb=cmbC:=by obtain ⟨h1,h2⟩:=v5b (A:=cmb) (B:=cmbC) (by kernel_rfl) (by kernel_rfl) v9d j0k;obtain ⟨s1,s2⟩:=y9p w2r;exact ⟨h1.trans s1,h2.trans s2⟩
theorem v3h (u w:Int):Ax.z.inL cmbC 0 u w↔(0≤u∧u≤40∧u %2=0)∧0≤w∧w<60:=by
 constructor
 ·rintro ⟨r,hr,h1,h2,h3⟩;rcases z5e.1 hr with ⟨t,ht,rfl⟩ | ⟨t,ht,rfl⟩
  ·have h2:2*(t:Int)≤u∧u<2*(t:Int)+1:=h2;have h3:0≤w∧w<60:=h3;omega
  ·have h1:(1:Int)≤0∧(0:Int)<2:=h1;omega
 ·rintro ⟨h2,h3⟩;refine ⟨barD (u / 2).toNat,z5e.2 (.inl ⟨_,by omega,rfl⟩),⟨by show (0:Int)≤0;decide,by show (0:Int)<1;decide⟩,⟨?_,?_⟩,h3⟩
  ·show 2*((u / 2).toNat :Int)≤u;omega
  ·show u<2*((u / 2).toNat :Int)+1;omega
theorem v3f (u w:Int):Ax.z.inL cmbC 1 u w↔(0≤u∧u<60)∧(0≤w∧w≤40∧w %2=0):=by
 constructor
 ·rintro ⟨r,hr,h1,h2,h3⟩;rcases z5e.1 hr with ⟨t,ht,rfl⟩ | ⟨t,ht,rfl⟩
  ·have h1:(0:Int)≤1∧(1:Int)<1:=h1;omega
  ·have h2:0≤u∧u<60:=h2;have h3:2*(t:Int)≤w∧w<2*(t:Int)+1:=h3;omega
 ·rintro ⟨h2,h3⟩;refine ⟨barU (w / 2).toNat,z5e.2 (.inr ⟨_,by omega,rfl⟩),⟨by show (1:Int)≤1;decide,by show (1:Int)<2;decide⟩,h2,⟨?_,?_⟩⟩
  ·show 2*((w / 2).toNat :Int)≤w;omega
  ·show w<2*((w / 2).toNat :Int)+1;omega
theorem v1s {u w:Int} {t:R4} (h:w5n u w t=true):(t.a≤u∧u<t.c)∧(t.b≤w∧w<t.d):=by unfold w5n at h;rw [Ac,Ac,Ac,Aq,Aq,Aq,Aq] at h;exact h
def gpt (k:Nat):Int×Int:=(2*((k / 21:Nat):Int),2*((k %21:Nat):Int)+1)
theorem j0j :y8f cmbC=4:=by
 rcases z4_mmd y2u with h0 | h0
 ·exfalso;have hin:(1:Int)∈plQ .z cmbC:=(z1h .z cmbC 1).2 ⟨barD 0,z5e.2 (.inl ⟨0,by omega,rfl⟩),.inr rfl⟩;have z1:=v7e y2u h0 .z true hin;obtain ⟨_,pt⟩:=v1b y2u .z true 1 (by omega) z1;have pt: ∀u w,(∃r∈Vw .z cmbC 1 true,(r.a≤u∧u<r.c)∧(r.b≤w∧w<r.d))↔Ax.z.inL cmbC 0 u w∧ ¬Ax.z.inL cmbC 1 u w:=fun u w=>by rw [←v6o];exact pt u w
  have cX:=x7j .z cmbC 1 true;have key:=pig (fun (a:Int×Int) (r:R4)=>w5n a.1 a.2 r) (Vw .z cmbC 1 true) ((List.range 441).map gpt) (fun a ha=>by
   obtain ⟨k,hk,rfl⟩:=AN.1 ha;have hk:=AY.1 hk;obtain ⟨r,hr,h1,h2⟩:=(pt (gpt k).1 (gpt k).2).2 ⟨(v3h _ _).2 (by unfold gpt;simp only;omega),fun h=>by
    have:=(v3f _ _).1 h;unfold gpt at this;simp only at this;omega⟩
   refine ⟨r,hr,?_⟩;unfold w5n;rw [Ah h1.1,Ah h1.2,Ah h2.1,Ah h2.2];rfl) (by
   refine Ci.2 (List.Pairwise.imp_of_mem ?_ List.pairwise_lt_range);intro k k' hk hk' hlt r hr ⟨p1,p2⟩;have hk:=AY.1 hk;have hk':=AY.1 hk';have q1:(r.a≤2*((k / 21:Nat):Int)∧2*((k / 21:Nat):Int)<r.c)∧(r.b≤2*((k %21:Nat):Int)+1∧2*((k %21:Nat):Int)+1<r.d):=v1s p1;have q2:(r.a≤2*((k' / 21:Nat):Int)∧2*((k' / 21:Nat):Int)<r.c)∧(r.b≤2*((k' %21:Nat):Int)+1∧2*((k' %21:Nat):Int)+1<r.d):=v1s p2;clear p1 p2;by_cases e:k / 21=k' / 21
   ·have:=((pt (2*((k / 21:Nat):Int)) (2*((k %21:Nat):Int)+2)).1 ⟨r,hr,by omega,by omega⟩).2;exact this ((v3f _ _).2 (by omega))
   ·have:=((pt (2*((k / 21:Nat):Int)+1) (2*((k %21:Nat):Int)+1)).1 ⟨r,hr,?_,by omega⟩).1
    ·have:=(v3h _ _).1 this;omega
    ·have:k / 21≤k' / 21:=Nat.div_le_div_right (Nat.le_of_lt hlt);omega)
  rw [A3,B4] at key;omega
 ·exact h0
theorem j0i :Jv (Yz cmb)=4:=by rw [v3g.2];unfold Jv Qa;rw [w2r,j0j];rfl
def unt :List R6:=[⟨0,0,0,1,1,1⟩]
def M6 :List R7:=[⟨0,1,0,0,1,1,1⟩,⟨1,0,0,0,0,1,1⟩,⟨2,0,1,0,1,1,1⟩,⟨3,0,0,0,1,0,1⟩,⟨4,0,0,1,1,1,1⟩,⟨5,0,0,0,1,1,0⟩]
def M6r :List R7:=[⟨1,0,0,0,0,1,1⟩,⟨2,0,1,0,1,1,1⟩,⟨3,0,0,0,1,0,1⟩,⟨4,0,0,1,1,1,1⟩,⟨5,0,0,0,1,1,0⟩,⟨0,1,0,0,1,1,1⟩]
theorem x5t :Xe unt=0:=by refine z4p (by decide) ?_ ⟨[⟨0,1,[⟨0,0,1,1⟩]⟩],.one _ ⟨by decide,⟨[⟨0,1,[⟨0,1⟩]⟩],.one _ ⟨by decide,u4e 0 1 (by decide),by simp⟩,rfl⟩,by simp⟩,rfl⟩;intro r hr;obtain rfl:=AM.1 hr;rfl
theorem w1s :Kq unt=M6:=by
 obtain ⟨_,hv,_,hL⟩:=Wt x5t;have hr:=hv ⟨0,0,0,1,1,1⟩ (by simp [unt]);have up: ∀(q:Ax) (s:Bool),dM q s unt=[match s with | true=>qd q true (q.hi ⟨0,0,0,1,1,1⟩) (q.rc ⟨0,0,0,1,1,1⟩) | false=>qd q false (q.lo ⟨0,0,0,1,1,1⟩) (q.rc ⟨0,0,0,1,1,1⟩)]:=fun q s=>by
  have hlt:=(q.val hr).2.1;rw [w6e hv (by decide) hL,show plQ q unt=_ from u2d q _ hlt];cases s with
  | true=>show (upF q unt _).map _++((upF q unt _).map _++[])=_;rw [show∀p,upF q unt p=_ from fun p=>(Qw q hr p).1,show∀p,upF q unt p=_ from fun p=>(Qw q hr p).1,At (by omega),Aw rfl];rfl
  | false=>show (dnF q unt _).map _++((dnF q unt _).map _++[])=_;rw [show∀p,dnF q unt p=_ from fun p=>(Qw q hr p).2,show∀p,dnF q unt p=_ from fun p=>(Qw q hr p).2,Aw rfl,At (by omega)];rfl
 unfold Kq;rw [up,up,up,up,up,up];rfl
theorem v0x :Jv unt=0∧Zu unt=M6:=by obtain ⟨h1,h2⟩:=x6y x5t (by decide);exact ⟨h1,h2.trans w1s⟩
theorem w0h :Xe []=0:=z4p (by decide) (fun r hr=>by cases hr) x2e.nil
theorem w1o :Kq []=[]:=by
 have p: ∀q,plQ q []=[]:=fun q=>z2a _ _ (z2m q _) .nil fun x=>by rw [z1h];simp
 unfold Kq dM;rw [p,p,p];rfl
theorem w1n :Jv []=0∧Zu []=[]:=by obtain ⟨h1,h2⟩:=x6y w0h (by decide);exact ⟨h1,h2.trans w1o⟩
theorem w1h :Wr []=0∧y0i []=[]:=by have:=back w0h (by decide);rwa [w1o] at this
theorem v6r {R:List R7} (hc:z3k R=0) (ne: ∀bx,Kq bx≠R):Wr R=28:=by
 unfold Wr z5p u2y;rw [hc];show (match goP R (plZ R) [] [] with | none=>(28:Int) | some bx=>w6z R bx)=28;cases goP R (plZ R) [] [] with
 | none=>rfl
 | some bx=>
  show w6z R bx=28;unfold w6z;cases g1:(Vg bx != 0) with
  | true=>rfl
  | false=>
   cases g2:(Qa (Yz bx) != 0) with
   | true=>rfl
   | false=>have s2:y8f (Yz bx)=0:=(by simpa [Qa] using g2);have n2:Ve (Yz bx)≠R:=fun q=>ne (Yz bx) (by rw [←q];unfold Ve;rw [s2];rfl);rw [show y0e (Ve (Yz bx)) R=false from Ay n2];rfl
theorem u5v :Wr M6r=28:=v6r (by kernel_rfl) fun bx e=>by
 have h:=v7g bx;rw [e] at h;have k:=(AR.1 h).1 ⟨0,1,0,0,1,1,1⟩ (by simp);rcases k with k | k
 ·have k:(1:Int)<0:=k;omega
 ·have k:(1:Int)=0:=k.1;omega
theorem v8n :Wr (M6.take 5)=28:=by have:=(v1h x5t (by decide) (M6.take 5) [] ⟨5,0,0,0,1,1,0⟩ (by rw [w1s];rfl)).1;rwa [AA] at this
def pnb :List R6:=[⟨0,0,0,1,2,3⟩,⟨1,2,0,3,3,3⟩]
theorem srt03 :Xv [0,3]=[0,3]:=List.mergeSort_of_pairwise (by simp)
theorem w8g :Xe pnb=0:=by
 refine z4p (by decide) ?_ ⟨[⟨0,3,[⟨0,0,1,2⟩,⟨1,2,3,3⟩]⟩],.one _ ⟨by decide,⟨[⟨0,1,[⟨0,2⟩]⟩,⟨1,3,[⟨2,3⟩]⟩],?_,rfl⟩,by simp⟩,rfl⟩
 ·intro r hr;simp only [pnb,AB,Bm,Ca] at hr;rcases hr with rfl | rfl <;> rfl
 ·exact .cons _ _ [] ⟨by decide,u4e 0 2 (by decide),by simp⟩ ⟨by decide,fun _=>by simp⟩ (.one _ ⟨by decide,u4e 2 3 (by decide),by simp⟩)
theorem w9y :z5q pnb=3∧y0j pnb=0:=by
 refine ⟨?_,w8g⟩;unfold z5q;rw [w8g];have ex:y6d .x pnb pnb.length=0:=by kernel_rfl
 have ey:y6d .y pnb pnb.length=0:=by kernel_rfl
 have ez:y6d .z pnb pnb.length=3:=by
  show 0+v5m .z pnb 0+v5m .z pnb 1=3;have e0:v5m .z pnb 0=0:=by kernel_rfl
  have e1:v5m .z pnb 1=w4q .z pnb 1 2 0 3 true+0:=by kernel_rfl
  rw [e0,e1,Bp];unfold w4q;rw [show ([0,3]++cutO .z 0 3 pnb:List Int)=[0,3] by kernel_rfl,srt03];have e2:(0:Int)+0+(bif decide ((0:Int)≥3) then 0 else wrap .i64 (sgL (gO .z pnb 1 2 0) [0,3]))=3:=by kernel_rfl
  exact e2
 rw [ex,ey,ez];rfl
theorem mna_run : ∃N,Yj x7f N y2d=.ret [.bool true]:=by
 refine ⟨0,?_⟩;have e1:([(R6.mk 0 0 0 1 1 1)]:List R6)=unt:=rfl;have e2:([(R6.mk 0 0 0 1 2 3),(R6.mk 1 2 0 3 3 3)]:List R6)=pnb:=rfl;have e3:([(R6.mk 0 0 0 1 60 1),(R6.mk 0 0 1 60 1 2),(R6.mk 2 0 0 3 60 1),(R6.mk 0 2 1 60 3 2),(R6.mk 4 0 0 5 60 1),(R6.mk 0 4 1 60 5 2),(R6.mk 6 0 0 7 60 1),(R6.mk 0 6 1 60 7 2),(R6.mk 8 0 0 9 60 1),(R6.mk 0 8 1 60 9 2),(R6.mk 10 0 0 11 60 1),(R6.mk 0 10 1 60 11 2),(R6.mk 12 0 0 13 60 1),(R6.mk 0 12 1 60 13 2),(R6.mk 14 0 0 15 60 1),(R6.mk 0 14 1 60 15 2),(R6.mk 16 0 0 17 60 1),(R6.mk 0 16 1 60 17 2),(R6.mk 18 0 0 19 60 1),(R6.mk 0 18 1 60 19 2),(R6.mk 20 0 0 21 60 1),(R6.mk 0 20 1 60 21 2),(R6.mk 22 0 0 23 60 1),(R6.mk 0 22 1 60 23 2),(R6.mk 24 0 0 25 60 1),(R6.mk 0 24 1 60 25 2),(R6.mk 26 0 0 27 60 1),(R6.mk 0 26 1 60 27 2),(R6.mk 28 0 0 29 60 1),(R6.mk 0 28 1 60 29 2),(R6.mk 30 0 0 31 60 1),(R6.mk 0 30 1 60 31 2),(R6.mk 32 0 0 33 60 1),(R6.mk 0 32 1 60 33 2),(R6.mk 34 0 0 35 60 1),(R6.mk 0 34 1 60 35 2),(R6.mk 36 0 0 37 60 1),(R6.mk 0 36 1 60 37 2),(R6.mk 38 0 0 39 60 1),(R6.mk 0 38 1 60 39 2),(R6.mk 40 0 0 41 60 1),(R6.mk 0 40 1 60 41 2)]:List R6)=cmb:=by kernel_rfl
 have l5:lst R7 5 (fun k=>(Zz M6) (0+k))=M6.take 5:=v7w M6 (off:=0) (n:=5) (by decide);have lr:lst R7 ((0+(M6.length - 1))+1) (fun k=>(Xk (fun k=>(Xk (fun k=>(([]:List AVal).drop (k*7)).take 7) 0 (fun k=>(Zz M6) (1+k))) (0+k)) (0+(M6.length - 1)) (fun k=>([(.int .u8 (rd M6 0).a),(.int .i64 (rd M6 0).b),(.int .i64 (rd M6 0).c),(.int .i64 (rd M6 0).d),(.int .i64 (rd M6 0).e),(.int .i64 (rd M6 0).f),(.int .i64 (rd M6 0).g)].drop (k*7)).take 7)) (0+k))=M6r:=by kernel_rfl
 have fl:Ka (Xk (fun k=>(Xk (fun k=>(([]:List AVal).drop (k*7)).take 7) 0 (fun k=>(Zz M6) (1+k))) (0+k)) (0+(M6.length - 1)) (fun k=>([(.int .u8 (rd M6 0).a),(.int .i64 (rd M6 0).b),(.int .i64 (rd M6 0).c),(.int .i64 (rd M6 0).d),(.int .i64 (rd M6 0).e),(.int .i64 (rd M6 0).f),(.int .i64 (rd M6 0).g)].drop (k*7)).take 7))=true:=y4p (z2u (y4p (z9l 7 7 rfl) (z2u (Xw _)))) (z9l 7 7 rfl);have fz:Ka (fun _=>[(.int .u8 0),(.int .i64 0),(.int .i64 0),(.int .i64 0),(.int .i64 0),(.int .i64 0),(.int .i64 0)])=true:=Yh fun _=>rfl;have z1:We (lst R7 3001 (fun k=>(fun _=>[(.int .u8 0),(.int .i64 0),(.int .i64 0),(.int .i64 0),(.int .i64 0),(.int .i64 0),(.int .i64 0)]) (0+k)))=true:=by kernel_rfl
 have z2:z3k (lst R7 3001 (fun k=>(fun _=>[(.int .u8 0),(.int .i64 0),(.int .i64 0),(.int .i64 0),(.int .i64 0),(.int .i64 0),(.int .i64 0)]) (0+k)))=4:=by unfold z3k;rw [z4z];rfl
 have d1:Wr [(R7.mk 6 0 0 0 1 1 0)]=8:=by unfold Wr z5p u2y;rw [show z3k [(R7.mk 6 0 0 0 1 1 0)]=8 by kernel_rfl];rfl
 have d2:z0x [(R7.mk 4 0 0 0 1 1 1)]=8:=by kernel_rfl
 have d3:z0x [(R7.mk 0 0 0 0 0 1 0)]=8:=by kernel_rfl
 have d4:y0l M6 3=2:=by kernel_rfl
 have d5:Jv [(R6.mk 0 0 0 0 0 0)]=8:=by kernel_rfl
 have w1:z0e (M6.take 5)=true:=by kernel_rfl
 have w2:z0e M6r=true:=by kernel_rfl
 have w3:z7o M6 3=true:=by kernel_rfl
 unfold y2d;simp only [Za,e1,e2,e3,v0x.1,v0x.2,l5,lr,fl,fz,z1,z2,d1,d2,d3,d4,d5,w1,w2,w3,v8n,u5v,w1n.1,w1n.2,w1h.1,w1h.2,w9y.1,w9y.2,v3g.1,j0i,show∀l,Kt l=true from fun _=>rfl,show∀l,z1t l=true from fun _=>rfl,show∀l,z1m l=true from fun _=>rfl];rfl
end Go.Am
end
