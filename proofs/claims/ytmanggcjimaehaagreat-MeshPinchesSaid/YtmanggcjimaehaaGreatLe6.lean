/- A part of a proof: several texts in one. -/
import Derived.Test.YtmanggcjimaehaaGreatLe5
set_option maxRecDepth 1000000
set_option maxHeartbeats 8000000
set_option linter.unusedVariables false
set_option linter.unusedSimpArgs false
noncomputable section
namespace Go.Am
open IntKind (wrap)
open Go.Proofs Go.Sort Go.Shelf Go.RowKit Go.Lib
theorem chg {L:List R2} (h:Can L) {y:Int} (hy:y∈y0q L) (hS:pt L (y - 1)↔pt L y):False:=by
 obtain ⟨s,hs,h1⟩:=AP.1 hy;have hp:=h.pos s hs;have sepL: ∀t∈L,t=s∨t.b<s.a∨s.b<t.a:=fun t ht=>by
  obtain ⟨i,hi,ei⟩:=AX hs;obtain ⟨j,hj,ej⟩:=AX ht;have pw:=Bl.1 h.sep;rcases Bu i j with q | q | q
  ·have:=pw i j hi hj q;rw [ei,ej] at this;exact .inr (.inr this)
  ·subst q;exact .inl (ej.symm.trans ei)
  ·have:=pw j i hj hi q;rw [ei,ej] at this;exact .inr (.inl this)
 simp only [AA,Bz,Co] at h1;rcases h1 with rfl | rfl
 ·obtain ⟨t,ht,t1,t2⟩:=hS.2 ⟨s,hs,AZ _,hp⟩;rcases sepL t ht with rfl | q | q <;> omega
 ·obtain ⟨t,ht,t1,t2⟩:=hS.1 ⟨s,hs,by omega,by omega⟩;rcases sepL t ht with rfl | q | q <;> omega
theorem x5a : ∀(l S:List Int),l.Pairwise (· ≠ ·)→(∀x∈l,x∈S)→l.length≤S.length
 | [],S,_,_=>AJ _
 | x::l,S,h,hs=>by obtain ⟨h1,h2⟩:=AQ.1 h;have hx:=hs x (by simp);have:=x5a l (S.erase x) h2 fun y hy=>(List.mem_erase_of_ne (fun e=>h1 y hy e.symm)).2 (hs y (by simp [hy]));rw [List.length_erase_of_mem hx] at this;have:=List.length_pos_of_mem hx;simp only [AV];omega
theorem j0e {a b:List R2} (ha:a.all z1c=true) (hb:b.all z1c=true):(spJ 2 a b).length +(spJ 2 b a).length ≤a.length+b.length:=by
 obtain ⟨c1,p1⟩:=z9o 2 ha hb;obtain ⟨c2,p2⟩:=z9o 2 hb ha;have q1: ∀y,pt (spJ 2 a b) y↔pt a y∧ ¬pt b y:=fun y=>by rw [show pt (spJ 2 a b) y↔_ from p1 y];unfold opB;simp
 have q2: ∀y,pt (spJ 2 b a) y↔pt b y∧ ¬pt a y:=fun y=>by rw [show pt (spJ 2 b a) y↔_ from p2 y];unfold opB;simp
 have f: ∀y:Int,∃z,(z=2*y∧ ¬(pt a (y - 1)↔pt a y))∨(z=2*y+1∧(pt a (y - 1)↔pt a y)):=fun y=>by
  by_cases h:pt a (y - 1)↔pt a y
  ·exact ⟨_,.inr ⟨rfl,h⟩⟩
  ·exact ⟨_,.inl ⟨rfl,h⟩⟩
 have g: ∀y:Int,∃z,(z=2*y+1∧ ¬(pt b (y - 1)↔pt b y))∨(z=2*y∧(pt b (y - 1)↔pt b y)):=fun y=>by
  by_cases h:pt b (y - 1)↔pt b y
  ·exact ⟨_,.inr ⟨rfl,h⟩⟩
  ·exact ⟨_,.inl ⟨rfl,h⟩⟩
 obtain ⟨f,hf⟩:=Classical.axiomOfChoice f;obtain ⟨g,hg⟩:=Classical.axiomOfChoice g;have key:=x5a ((y0q (spJ 2 a b)).map f++(y0q (spJ 2 b a)).map g) ((y0q a).map (2* ·)++(y0q b).map (2* · +1)) (by
  refine BK.2 ⟨List.pairwise_map.2 ((y6t c1).imp fun {x y} h=> ?_),List.pairwise_map.2 ((y6t c2).imp fun {x y} h=> ?_),?_⟩
  ·have:=hf x;have:=hf y;omega
  ·have:=hg x;have:=hg y;omega
  ·intro x hx z hz;obtain ⟨y,hy,rfl⟩:=AO.1 hx;obtain ⟨y',hy',rfl⟩:=AO.1 hz;intro e;have e1:y'=y:=by have:=hf y;have:=hg y';omega
   subst e1;have n1:=chg c1 hy;have n2:=chg c2 hy';rw [q1,q1] at n1;rw [q2,q2] at n2;rcases hf y' with ⟨e1,h1⟩ | ⟨e1,h1⟩ <;> rcases hg y' with ⟨e2,h2⟩ | ⟨e2,h2⟩
   ·omega
   ·by_cases h3:pt b y'
    ·exact n1 (by simp [h2,h3])
    ·exact n2 (by simp [h2,h3])
   ·by_cases h3:pt a y'
    ·exact n2 (by simp [h1,h3])
    ·exact n1 (by simp [h1,h3])
   ·omega) (by
  intro x hx;rcases AD.1 hx with hx | hx
  ·obtain ⟨y,hy,rfl⟩:=AO.1 hx;have n1:=chg c1 hy;rw [q1,q1] at n1;rcases hf y with ⟨e1,h1⟩ | ⟨e1,h1⟩
   ·refine AD.2 (.inl (AO.2 ⟨y,AL fun hn=>h1 (z9v hn),e1.symm⟩))
   ·refine AD.2 (.inr (AO.2 ⟨y,AL fun hn=>n1 (by rw [h1,z9v hn]),e1.symm⟩))
  ·obtain ⟨y,hy,rfl⟩:=AO.1 hx;have n1:=chg c2 hy;rw [q2,q2] at n1;rcases hg y with ⟨e1,h1⟩ | ⟨e1,h1⟩
   ·refine AD.2 (.inr (AO.2 ⟨y,AL fun hn=>h1 (z9v hn),e1.symm⟩))
   ·refine AD.2 (.inl (AO.2 ⟨y,AL fun hn=>n1 (by rw [h1,z9v hn]),e1.symm⟩)))
 simp only [Az,A3,z1o] at key;omega
theorem y0s : ∀(l m:List Int),l.Pairwise (· < ·)→m.Pairwise (· < ·)→(∀x,x∈l↔x∈m)→l=m
 | [],[],_,_,_=>rfl
 | [],y::m,_,_,h=>by have:=(h y).2 (by simp);cases this
 | x::l,[],_,_,h=>by have:=(h x).1 (by simp);cases this
 | x::l,y::m,hl,hm,h=>by
  obtain ⟨l1,l2⟩:=AQ.1 hl;obtain ⟨m1,m2⟩:=AQ.1 hm;have e:x=y:=by
   have hx:=(h x).1 (by simp);have hy:=(h y).2 (by simp);rcases AA.1 hx with hx | hx
   ·exact hx
   ·rcases AA.1 hy with hy | hy
    ·exact hy.symm
    ·have:=l1 y hy;have:=m1 x hx;omega
  subst e
  congr 1
  refine y0s l m l2 m2 fun z=>⟨fun hz=> ?_,fun hz=> ?_⟩
  ·have:=l1 z hz;rcases AA.1 ((h z).1 (by simp [hz])) with q | q
   ·omega
   ·exact q
  ·have:=m1 z hz;rcases AA.1 ((h z).2 (by simp [hz])) with q | q
   ·omega
   ·exact q
namespace Dim
variable {α β:Type} {D:Dim α β}
theorem w6k (l:List α):(D.cuts l).Pairwise (· < ·):=by show (Jc (D.ends l)).Pairwise (· < ·);rw [Jj];exact (Xn _).1
theorem w6j (l:List α) (x:Int):x∈D.cuts l↔x∈D.ends l:=by show x∈Jc (D.ends l)↔_;rw [Jj];exact (Xn _).2 x
theorem w6i (l:List α) (x:Int):x∈D.ends l↔ ∃r∈l,x=D.lo r∨x=D.hi r:=by
 induction l with
 | nil=>exact ⟨fun h=>(by cases h),fun ⟨r,h,_⟩=>(by cases h)⟩
 | cons r l ih=>
  show x∈D.lo r::D.hi r::D.ends l↔_;rw [AA,AA,ih];constructor
  ·rintro (h | h | ⟨s,hs,h⟩)
   ·exact ⟨r,by simp,.inl h⟩
   ·exact ⟨r,by simp,.inr h⟩
   ·exact ⟨s,by simp [hs],h⟩
  ·rintro ⟨s,hs,h⟩;rcases AA.1 hs with rfl | hs
   ·rcases h with h | h
    ·exact .inl h
    ·exact .inr (.inl h)
   ·exact .inr (.inr ⟨s,hs,h⟩)
theorem cuts_comm (a b:List α):D.cuts (a++b)=D.cuts (b++a):=y0s _ _ (w6k _) (w6k _) fun x=>by
 rw [w6j,w6j,w6i,w6i];constructor <;> exact fun ⟨r,hr,h⟩=>⟨r,by rw [AD] at*;exact hr.symm,h⟩
end Dim
theorem u0z {a b:List R4} (ha: ∀r∈a,Wh r=true) (hb: ∀r∈b,Wh r=true):(rgJ 2 a b).length +(rgJ 2 b a).length ≤(a.length+b.length)*(a.length+b.length):=by
 have hv: ∀r∈a++b,D4.lo r<D4.hi r:=fun r hr=>by
  have hv:Wh r=true:=by
   rcases AD.1 hr with h | h
   ·exact ha r h
   ·exact hb r h
  simp only [Wh,Ac,Al] at hv;exact hv.1
 have g1:=D4.goS_length (fun x=>spJ 2 (D4.inn a x) (D4.inn b x)) (D4.cuts (a++b)) ((D4.cuts (a++b)).length - 1) 0 ⟨[],[],0,0⟩;have g2:=D4.goS_length (fun x=>spJ 2 (D4.inn b x) (D4.inn a x)) (D4.cuts (a++b)) ((D4.cuts (a++b)).length - 1) 0 ⟨[],[],0,0⟩;have h2:=D4.open_sum (a++b) hv ((D4.cuts (a++b)).length - 1) (Nat.sub_le _ _);have e1:(rgJ 2 b a).length =(D4.goS (fun x=>spJ 2 (D4.inn b x) (D4.inn a x)) (D4.cuts (a++b)) ((D4.cuts (a++b)).length - 1) 0 ⟨[],[],0,0⟩).out.length :=by unfold rgJ;rw [Dim.cuts_comm b a]
 have e2:(rgJ 2 a b).length =(D4.goS (fun x=>spJ 2 (D4.inn a x) (D4.inn b x)) (D4.cuts (a++b)) ((D4.cuts (a++b)).length - 1) 0 ⟨[],[],0,0⟩).out.length :=rfl;rw [e1,e2];rw [Az] at h2;refine AG (Nat.add_le_add g1 g2) (AG ?_ h2);simp only [B2,Ag];generalize (D4.cuts (a++b)).length - 1=k
 induction k with
 | zero=>exact Aq _
 | succ k ih=>rw [BD,Bf,Bf,Bf,Cb,Cb,Cb];have:=j0e (Vq ha (rd (D4.cuts (a++b)) k)) (Vq hb (rd (D4.cuts (a++b)) k));simp only [AW,Ba,BI,List.sum_nil];rw [D4.inn_append,Az];omega
open Go.Proofs Go.Sort Go.Shelf Go.RowKit Go.Lib
def ind (a b t:Int):Int:=if a≤t∧t<b then 1 else 0
def x6z (lo:Int) (n:Nat):List Int:=(List.range n).map fun (k:Nat)=>lo+(k:Int)
theorem v6m (a b lo:Int): ∀n:Nat,sm (x6z lo n) (ind a b)=ovl a b lo (lo+n)
 | 0=>by show (0:Int)=_;unfold ovl;omega
 | n+1=>by unfold x6z;rw [BD,Bf,Uy];have:=v6m a b lo n;unfold x6z at this;rw [this,AW,Ba,Xd,z1e];unfold ind ovl;split <;> omega
theorem w0r (a b c d t:Int):ind a b t*ind c d t=ind (max a c) (min b d) t:=by
 unfold ind;by_cases h1:a≤t∧t<b
 ·by_cases h2:c≤t∧t<d
  ·rw [Au h1,Au h2,Au (by omega)];rfl
  ·rw [Au h1,Ao h2,Ao (by omega)];rfl
 ·rw [Ao h1,Cv,Ao (by omega)]
theorem z2m (a b t:Int):0≤ind a b t:=by unfold ind;split <;> omega
theorem ind_le (a b t:Int):ind a b t≤1:=by unfold ind;split <;> omega
def Pts (p:List Int):Prop:=(∀a b,-1000005≤a∧b≤1000005→sm p (ind a b)=max 0 (b - a))∧p.length=2000010
def S3 (p:List Int) (f:Int→Int→Int→Int):Int:=sm p fun x=>sm p fun y=>sm p fun z=>f x y z
theorem x3n {p:List Int} {f g:Int→Int→Int→Int} (h: ∀x y z,f x y z=g x y z):S3 p f=S3 p g:=by
 have:f=g:=by funext x y z;exact h x y z
 rw [this]
theorem j7f {p:List Int} {α:Type} (l:List α) (f:α→Int→Int→Int→Int):S3 p (fun x y z=>sm l fun a=>f a x y z)=sm l fun a=>S3 p (f a):=by unfold S3;rw [Um l p];refine Zp fun x _=> ?_;rw [Um l p];exact Zp fun y _=>Um _ _ _
theorem u9t {p:List Int} (f g h:Int→Int):S3 p (fun x y z=>f x*g y*h z)=sm p f*sm p g*sm p h:=by unfold S3;simp only [z2v,Int.mul_assoc];rw [←y4t];refine Zp fun x _=> ?_;rw [←y4t]
def inR (r:R6) (x y z:Int):Int:=ind r.a r.d x*ind r.b r.e y*ind r.c r.f z
theorem x0e (r:R6) (x y z:Int):0≤inR r x y z:=Int.mul_nonneg (Int.mul_nonneg (z2m ..) (z2m ..)) (z2m ..)
theorem w5t (r:R6) (x y z:Int):inR r x y z=if (r.a≤x∧x<r.d)∧(r.b≤y∧y<r.e)∧(r.c≤z∧z<r.f) then 1 else 0:=by unfold inR ind;by_cases h1:r.a≤x∧x<r.d <;> by_cases h2:r.b≤y∧y<r.e <;> by_cases h3:r.c≤z∧z<r.f <;> simp [h1,h2,h3]
def j2r (r:R6):Prop:= -1000002≤r.a∧r.d≤1000002∧ -1000002≤r.b∧r.e≤1000002∧ -1000002≤r.c∧r.f≤1000002
theorem ov_S3 {p:List Int} (hp:Pts p) (r s:R6) (hr:j2r r):S3 p (fun x y z=>inR r x y z*inR s x y z)=ov r s:=by
 obtain ⟨h1,h2,h3,h4,h5,h6⟩:=hr;have e:(fun x y z=>inR r x y z*inR s x y z)=fun x y z=>ind (max r.a s.a) (min r.d s.d) x*ind (max r.b s.b) (min r.e s.e) y*ind (max r.c s.c) (min r.f s.f) z:=by
  funext x y z
  rw [←w0r,←w0r,←w0r];unfold inR;simp only [BM,Int.mul_left_comm,Int.mul_assoc]
 rw [e,u9t,hp.1 _ _ (by omega),hp.1 _ _ (by omega),hp.1 _ _ (by omega)];rfl
def cnt (X:List R6) (x y z:Int):Int:=sm X fun r=>inR r x y z
theorem v0t (X:List R6) (x y z:Int):0≤cnt X x y z:=y4s fun r _=>x0e r x y z
theorem u9k : ∀(X:List R6),X.Pairwise Ap6→ ∀x y z,cnt X x y z≤1
 | [],_,x,y,z=>by show (0:Int)≤1;omega
 | r::X,h,x,y,z=>by
  obtain ⟨h1,h2⟩:=AQ.1 h;have ih:=u9k X h2 x y z;have e:cnt (r::X) x y z=inR r x y z+cnt X x y z:=Xd _ _ _;rw [e,w5t];split
  ·rename_i hp;have:cnt X x y z=0:=by
    have:cnt X x y z=sm X fun _=>0:=Zp fun s hs=>by rw [w5t];refine Ao fun hq=> ?_;have:=h1 s hs;unfold Ap6 at this;omega
    rw [this,Wc]
   omega
  ·omega
theorem S2_S3 {p:List Int} (hp:Pts p) (X Y:List R6) (hX: ∀r∈X,j2r r):S2 X Y=S3 p fun x y z=>cnt X x y z*cnt Y x y z:=by
 have e:(fun x y z=>cnt X x y z*cnt Y x y z)=fun x y z=>sm X fun r=>sm Y fun s=>inR r x y z*inR s x y z:=by
  funext x y z
  unfold cnt;rw [←y4t];exact Zp fun r _=>(z2v _ _ _).symm
 rw [e,j7f];unfold S2;refine Zp fun r hr=> ?_;rw [j7f];exact Zp fun s _=>(ov_S3 hp r s (hX r hr)).symm
theorem sm_pos {α:Type} {l:List α} {f:α→Int} (h:sm l f≠0): ∃x∈l,f x≠0:=AL fun hn=>h (by
 have:sm l f=sm l fun _=>0:=Zp fun x hx=>AL fun e=>hn ⟨x,hx,e⟩;rw [this,Wc])
theorem x9e {p:List Int} (hp:Pts p) {t:Int} (h: -1000005≤t∧t<1000005):t∈p:=by
 have h1:=hp.1 t (t+1) (by omega);have h2:sm p (ind t (t+1))≠0:=by rw [h1];omega
 obtain ⟨x,hx,hn⟩:=sm_pos h2;unfold ind at hn;split at hn
 ·have:x=t:=by omega
  rwa [←this]
 ·exact absurd rfl hn
def inS (X:List R6) (x y z:Int):Prop:= ∃r∈X,(r.a≤x∧x<r.d)∧(r.b≤y∧y<r.e)∧(r.c≤z∧z<r.f)
theorem v6o (X:List R6) (x y z:Int):inS X x y z↔ptL x7x.inB X (z,x,y):=by
 constructor
 ·rintro ⟨r,hr,h1,h2,h3⟩;exact ⟨r,hr,h3.1,h3.2,h1.1,h1.2,h2.1,h2.2⟩
 ·rintro ⟨r,hr,h1,h2,h3,h4,h5,h6⟩;exact ⟨r,hr,⟨h3,h4⟩,⟨h5,h6⟩,h1,h2⟩
theorem x0q (X:List R6) (hX:X.Pairwise Ap6) (x y z:Int):(inS X x y z→cnt X x y z=1)∧(¬inS X x y z→cnt X x y z=0):=by
 have h0:=v0t X x y z;have h1:=u9k X hX x y z;constructor
 ·rintro ⟨r,hr,hp⟩;have:cnt X x y z≠0:=fun e=>by have:=w7p (fun r _=>x0e r x y z) e r hr;rw [w5t,Au hp] at this;cases this
  omega
 ·intro hn;have:cnt X x y z=sm X fun _=>0:=Zp fun r hr=>by rw [w5t];exact Ao fun hp=>hn ⟨r,hr,hp⟩
  rw [this,Wc]
structure Sol (X:List R6):Prop where
 len:X.length≤400
 val: ∀r∈X,Jf r=true
 ap:X.Pairwise Ap6
theorem Sol.of {X:List R6} (h:Yo X=0):Sol X:=⟨(Wx h).1,(Wx h).2.1,(Wx h).2.2.2⟩
theorem Sol.bnd {X:List R6} (h:Sol X) {x y z:Int} (hp:inS X x y z):(-1000000≤x∧x<1000000)∧(-1000000≤y∧y<1000000)∧(-1000000≤z∧z<1000000):=by obtain ⟨r,hr,h1,h2,h3⟩:=hp;have:=Kq (h.val r hr);omega
theorem bx_S3 {p:List Int} (hp:Pts p) (r:R6) (hr:Jf r=true):S3 p (inR r)=bxV r:=by have hv:=Kq hr;show S3 p (fun x y z=>ind r.a r.d x*ind r.b r.e y*ind r.c r.f z)=_;rw [u9t,hp.1 _ _ (by omega),hp.1 _ _ (by omega),hp.1 _ _ (by omega)];unfold bxV;rw [show max 0 (r.d - r.a)=r.d - r.a by omega,show max 0 (r.e - r.b)=r.e - r.b by omega,show max 0 (r.f - r.c)=r.f - r.c by omega]
theorem w3d {p:List Int} (hp:Pts p) {X:List R6} (h:Sol X):sm X bxV=S3 p (cnt X):=by show _=S3 p (fun x y z=>sm X fun r=>inR r x y z);rw [j7f];exact Zp fun r hr=>(bx_S3 hp r (h.val r hr)).symm
theorem Sol.pts {p:List Int} (hp:Pts p) {X:List R6} (h:Sol X) {x y z:Int} (hq:inS X x y z):x∈p∧y∈p∧z∈p:=by have:=h.bnd hq;exact ⟨x9e hp (by omega),x9e hp (by omega),x9e hp (by omega)⟩
namespace Dim
variable {α β:Type} {D:Dim α β}
theorem j3z (hD:D.Fair) (s:List β) (a b x:Int):D.inn (s.map (D.put a b)) x=if a≤x∧x<b then s else []:=by
 unfold inn;have e:(s.map (D.put a b)).filter (fun r=>decide (D.lo r≤x)&&decide (x<D.hi r))=if a≤x∧x<b then s.map (D.put a b) else []:=by
  split
  ·rename_i h;refine List.filter_eq_self.2 fun r hr=> ?_;obtain ⟨c,_,rfl⟩:=AO.1 hr;rw [hD.lo_put,hD.hi_put,Ah h.1,Ah h.2];rfl
  ·rename_i h;refine BO.2 fun r hr hq=>h ?_;obtain ⟨c,_,rfl⟩:=AO.1 hr;rw [hD.lo_put,hD.hi_put,Ac] at hq;exact ⟨AF hq.1,AF hq.2⟩
 rw [e];split
 ·rw [List.map_map];exact (Ce fun c _=>hD.pr_put a b c).trans (List.map_id _)
 ·rfl
theorem inn_can (hD:D.Fair) {γ:Type} (M:Sem β γ) (x:Int): ∀G:List (z0l β),z2s M G→M.can (D.inn (D.flat G) x)
 | [],_=>M.nil
 | g::r,h=>by
  rw [show D.flat (g::r)=g.s.map (D.put g.a g.b)++D.flat r from rfl,D.inn_append,j3z hD];split
  ·rename_i hx;have e:D.inn (D.flat r) x=[]:=by unfold inn;rw [Cq,BO];intro a ha hq;obtain ⟨k,hk,ha⟩:=AP.1 ha;obtain ⟨c,_,rfl⟩:=AO.1 ha;rw [hD.lo_put,Ac] at hq;have h1:=AF hq.1;have:=h.later k hk;omega
   rw [e,AB];exact h.head.2.1
  ·rw [Br];exact inn_can hD M x r h.tail
end Dim
theorem x1i {L:List R6} (hl:L.length≤400) (hv: ∀r∈L,Jf r=true) (hc:x7x.can L):Yo L=0:=by
 have hi: ∀z,D4.out (D6.inn L z)=D6.inn L z:=fun z=>by obtain ⟨h1,h2⟩:=Kt (y0r hv z) (AG (D6.inn_length L z) hl);obtain ⟨G,hG,e⟩:=hc;exact Wz.uniq _ _ h1 (by rw [e];exact Dim.inn_can z3y Wz z G hG) h2
 have hs:Secs L:=fun z=>by rw [hi z];exact AG (D6.inn_length L z) hl
 obtain ⟨h1,h2⟩:=j0m hv hl hs;have e:=x7x.uniq _ _ h1 hc h2;have ok: ∀k i,okF L k i=true:=fun k=>by
  induction k with
  | zero=>intro i;rfl
  | succ k ih=>intro i;show (bif Xw (D6.inn L (rd (D6.cuts L) i)) != 0 then false else okF L k (i+1))=true;rw [(z7w (y0r hv _) (AG (D6.inn_length L _) hl) (hs _)).2];exact ih (i+1)
 unfold Yo;rw [Ay (by omega),At.2 hv,ok,e,Ay (by omega),show Km L L=true from Ah rfl];rfl
theorem j6v {L:List R6} (hc:x7x.can L) (hb: ∀x y z,inS L x y z→(-1000000≤x∧x<1000000)∧(-1000000≤y∧y<1000000)∧(-1000000≤z∧z<1000000)): ∀r∈L,Jf r=true:=fun r hr=>by
 have hp:r.a<r.d∧r.b<r.e∧r.c<r.f:=by obtain ⟨G,hG,e⟩:=hc;rw [e] at hr;obtain ⟨g,hg,hr⟩:=AP.1 hr;obtain ⟨b,hb,rfl⟩:=AO.1 hr;obtain ⟨h1,⟨H,hH,e2⟩,_⟩:=hG.all g hg;rw [e2] at hb;obtain ⟨k,hk,hb⟩:=AP.1 hb;obtain ⟨c,hc,rfl⟩:=AO.1 hb;obtain ⟨h2,h3,_⟩:=hH.all k hk;exact ⟨h2,Can.pos h3 c hc,h1⟩
 have h1:=hb r.a r.b r.c ⟨r,hr,by omega,by omega,by omega⟩;have h2:=hb (r.d - 1) (r.e - 1) (r.f - 1) ⟨r,hr,by omega,by omega,by omega⟩;rw [x3w];simp only [x6y,Ac,Al];omega
open Go.Proofs Go.Sort Go.Shelf Go.RowKit Go.Lib
def Ax.inB (q:Ax) (r:R6) (p u v:Int):Prop:=(q.lo r≤p∧p<q.hi r)∧((q.rc r).a ≤u∧u<(q.rc r).c)∧((q.rc r).b ≤v∧v<(q.rc r).d)
def Ax.inL (q:Ax) (L:List R6) (p u v:Int):Prop:= ∃r∈L,q.inB r p u v
def Ax.to (q:Ax) (p u v:Int):Int×Int×Int:=match q with
 | .x =>(p,u,v)
 | .y =>(u,p,v)
 | .z =>(u,v,p)
theorem Ax.inL_S (q:Ax) (L:List R6) (p u v:Int):q.inL L p u v↔inS L (q.to p u v).1 (q.to p u v).2.1 (q.to p u v).2.2:=by
 cases q <;> constructor <;> rintro ⟨r,hr,h1,h2,h3⟩
 ·exact ⟨r,hr,h1,h2,h3⟩
 ·exact ⟨r,hr,h1,h2,h3⟩
 ·exact ⟨r,hr,h2,h1,h3⟩
 ·exact ⟨r,hr,h2,h1,h3⟩
 ·exact ⟨r,hr,h2,h3,h1⟩
 ·exact ⟨r,hr,h3,h1,h2⟩
theorem u7j (l:List R4) (u v:Int):ptL Wz.inB l (u,v)↔ ∃r∈l,(r.a≤u∧u<r.c)∧(r.b≤v∧v<r.d):=by
 constructor
 ·rintro ⟨r,hr,h1,h2,h3,h4⟩;exact ⟨r,hr,⟨h1,h2⟩,h3,h4⟩
 ·rintro ⟨r,hr,⟨h1,h2⟩,h3,h4⟩;exact ⟨r,hr,h1,h2,h3,h4⟩
theorem y1r (q:Ax) (L:List R6) (p u v:Int):ptL Wz.inB (z1t q L p) (u,v)↔q.inL L p u v:=by
 rw [u7j];constructor
 ·rintro ⟨s,hs,h⟩;obtain ⟨r,hr,rfl⟩:=AO.1 hs;obtain ⟨h1,h2⟩:=A1.1 hr;simp only [Ac,Al] at h2;exact ⟨r,h1,h2,h⟩
 ·rintro ⟨r,hr,h1,h2⟩;exact ⟨q.rc r,AO.2 ⟨r,A1.2 ⟨hr,by simp only [Ac,Al];exact h1⟩,rfl⟩,h2⟩
theorem Ax.val (q:Ax) {r:R6} (h:Jf r=true):Wh (q.rc r)=true∧q.lo r<q.hi r∧ -1000000≤q.lo r∧q.hi r≤1000000:=by
 have:=Kq h;cases q
 ·refine ⟨?_,by show r.a<r.d;omega,by show _≤r.a;omega,by show r.d≤_;omega⟩;show Wh ⟨r.b,r.c,r.e,r.f⟩=true;simp only [Wh,Ac,Al]
  (repeat' apply And.intro) <;> omega
 ·refine ⟨?_,by show r.b<r.e;omega,by show _≤r.b;omega,by show r.e≤_;omega⟩;show Wh ⟨r.a,r.c,r.d,r.f⟩=true;simp only [Wh,Ac,Al]
  (repeat' apply And.intro) <;> omega
 ·refine ⟨?_,by show r.c<r.f;omega,by show _≤r.c;omega,by show r.f≤_;omega⟩;show Wh ⟨r.a,r.b,r.d,r.e⟩=true;simp only [Wh,Ac,Al]
  (repeat' apply And.intro) <;> omega
theorem w1v (q:Ax) {L:List R6} (hv: ∀r∈L,Jf r=true) (p:Int): ∀s∈z1t q L p,Wh s=true:=fun s hs=>by obtain ⟨r,hr,rfl⟩:=AO.1 hs;exact (q.val (hv r (A1.1 hr).1)).1
theorem w1w (q:Ax) (L:List R6) (p:Int):(z1t q L p).length ≤L.length:=by unfold z1t;rw [A3];exact BU _ _
theorem Qk {l:List R4} (hc:Wz.can l) (hb: ∀u v,ptL Wz.inB l (u,v)→(-1000000≤u∧u<1000000)∧(-1000000≤v∧v<1000000)): ∀r∈l,Wh r=true:=fun r hr=>by
 have hp:r.a<r.c∧r.b<r.d:=by obtain ⟨G,hG,e⟩:=hc;rw [e] at hr;obtain ⟨g,hg,hr⟩:=AP.1 hr;obtain ⟨b,hb,rfl⟩:=AO.1 hr;obtain ⟨h1,h2,_⟩:=hG.all g hg;exact ⟨h1,Can.pos h2 b hb⟩
 have h1:=hb r.a r.b ((u7j _ _ _).2 ⟨r,hr,by omega,by omega⟩);have h2:=hb (r.c - 1) (r.d - 1) ((u7j _ _ _).2 ⟨r,hr,by omega,by omega⟩);simp only [Wh,Ac,Al];omega
theorem z1b {l:List R4} (hv: ∀r∈l,Wh r=true) {u v:Int} (h:ptL Wz.inB l (u,v)):(-1000000≤u∧u<1000000)∧(-1000000≤v∧v<1000000):=by obtain ⟨r,hr,h1,h2⟩:=(u7j _ _ _).1 h;have:=hv r hr;simp only [Wh,Ac,Al] at this;omega
structure Few (c l:List R4) (n:Nat):Prop where
 can:Wz.can l
 pts: ∀u v,ptL Wz.inB l (u,v)↔ptL Wz.inB c (u,v)
 val: ∀r∈l,Wh r=true
 len:l.length≤n*n
 sec: ∀x,(D4.inn l x).length ≤n
theorem v4v {l:List R4} (hv: ∀r∈l,Wh r=true) (hl:l.length≤400):(D4.out l).length ≤l.length*l.length:=by
 have h:=Qz 0 hv (fun r (h:r∈([]:List R4))=>by cases h);have e:rgJ 0 l []=D4.out l:=Wz.uniq _ _ h.1 (Kt hv hl).1 fun p=>by rw [h.2.1,(Kt hv hl).2];have: ¬ptL Wz.inB ([]:List R4) p:=z4w _ _;by_cases hp:ptL Wz.inB l p <;> simp [opB,hp,this]
 have:=h.2.2;rw [e] at this;exact this
theorem z8l {l:List R4} (hc:Wz.can l) (x:Int):y8r.can (D4.inn l x):=by obtain ⟨G,hG,e⟩:=hc;rw [e];exact Dim.inn_can y7j y8r x G hG
theorem j4k {c:List R4} (hv: ∀r∈c,Wh r=true) (hl:c.length≤20):Few c (D4.out c) c.length:=by
 obtain ⟨h1,h2⟩:=Kt hv (by omega);refine ⟨h1,fun u v=>h2 (u,v),Qk h1 fun u v h=>z1b hv ((h2 _).1 h),v4v hv (by omega),fun x=> ?_⟩;have h3:=z1v 0 (a:=D4.inn c x) (b:=[]) (Vq hv x) rfl;have h4:=z9o 0 (a:=D4.inn c x) (b:=[]) (Vq hv x) rfl;have e:spJ 0 (D4.inn c x) []=D4.inn (D4.out c) x:=y8r.uniq _ _ h4.1 (z8l h1 x) fun y=>by
  rw [h4.2];have a1:=z4x c x y;have a2:=z4x (D4.out c) x y;have: ¬pt [] y:=fun ⟨_,h,_⟩=>by cases h
  show _↔pt (D4.inn (D4.out c) x) y;rw [a2,h2,←a1];by_cases hp:pt (D4.inn c x) y <;> simp [opB,hp,this]
 rw [←e];have:=D4.inn_length c x;simp only [B2] at h3;omega
theorem j4j {c:List R4} (hv: ∀r∈c,Wh r=true) (hl:c.length≤20):Zc c=D4.out c∧Xw c=0:=by refine z7w hv (by omega) (AG (v4v hv (by omega)) ?_);exact AG (Cf hl hl) (by decide)
theorem y3b {l:List R4} (hl:l.length≤400) (hv: ∀r∈l,Wh r=true) (hc:Wz.can l):y7k l=0:=by
 obtain ⟨h1,h2⟩:=Kt hv hl;have e:D4.out l=l:=Wz.uniq _ _ h1 hc h2;have m1:z1k l=0:=by show y6q (D4.out l).length =0;rw [e];unfold y6q;rw [Ay (by omega)];rfl
 have m0:Wp l=l:=by unfold Wp x2u;rw [show u8y l=0 from m1,e];rfl
 unfold y7k rgcF;rw [Ay (by omega),At.2 hv,m1,m0,show Ja l l=true from Ah rfl];rfl
theorem v7d {E:Int→Int} {cs:List Int} (h: ∀x,E x=0): ∀k i,x7a E cs k i=0
 | 0,i=>rfl
 | k+1,i=>by show (bif E (rd cs i) != 0 then E (rd cs i) else x7a E cs k (i+1))=0;rw [h];exact v7d h k (i+1)
theorem x1r (o:Op) {a b:List R4} (la:a.length≤400) (lb:b.length≤400) (va: ∀r∈a,Wh r=true) (vb: ∀r∈b,Wh r=true) (ca:Wz.can a) (cb:Wz.can b)
  (sa: ∀x,(D4.inn a x).length +(D4.inn b x).length ≤400) (lj:(rgJ o.k a b).length ≤400):rgE o a b=0:=by
 have sc: ∀(l:List R4) (x:Int),l.length≤400→(∀r∈l,Wh r=true)→Wz.can l→y7o (D4.inn l x)=0:=fun l x hl hv hc=>
  (y2r _).2 ⟨AG (D4.inn_length l x) hl,Vq hv x,z8l hc x⟩
 have hz: ∀x,rgA o a b x=0:=fun x=>by unfold rgA spE;rw [sc a x la va ca,sc b x lb vb cb];have:=z1v o.k (Vq va x) (Vq vb x);show y6q _=0;unfold y6q;rw [Ay (by have:=sa x;omega)];rfl
 unfold rgE;rw [y3b la va ca,y3b lb vb cb,v7d hz];show y6q _=0;unfold y6q;rw [Ay (by omega)];rfl
def hiL (q:Ax) (L:List R6) (p:Int):List R4:=(L.filter fun r=>decide (q.hi r=p)).map q.rc
def loL (q:Ax) (L:List R6) (p:Int):List R4:=(L.filter fun r=>decide (q.lo r=p)).map q.rc
theorem y4h (q:Ax) {L:List R6} (hv: ∀r∈L,q.lo r<q.hi r) (p:Int):(hiL q L p).length +(loL q L p).length ≤L.length:=by
 unfold hiL loL;rw [A3,A3]
 induction L with
 | nil=>exact Aq _
 | cons r L ih=>
  have ih:=ih fun s hs=>hv s (by simp [hs]);have:=hv r (by simp);rw [Be,Be];by_cases h1:q.hi r=p
  ·rw [Au (by simp [h1]),Ao (by simp;omega)];simp only [AV];omega
  ·rw [Ao (by simp [h1])];by_cases h2:q.lo r=p
   ·rw [Au (by simp [h2])];simp only [AV];omega
   ·rw [Ao (by simp [h2])];simp only [AV];omega
theorem v6p (q:Ax) (L:List R6) (p u v:Int):ptL Wz.inB (hiL q L p) (u,v)↔ ∃r∈L,q.hi r=p∧((q.rc r).a ≤u∧u<(q.rc r).c)∧((q.rc r).b ≤v∧v<(q.rc r).d):=by
 rw [u7j];constructor
 ·rintro ⟨s,hs,h⟩;obtain ⟨r,hr,rfl⟩:=AO.1 hs;obtain ⟨h1,h2⟩:=A1.1 hr;exact ⟨r,h1,AF h2,h⟩
 ·rintro ⟨r,hr,h1,h2⟩;exact ⟨q.rc r,AO.2 ⟨r,A1.2 ⟨hr,Ah h1⟩,rfl⟩,h2⟩
theorem v6a (q:Ax) (L:List R6) (p u v:Int):ptL Wz.inB (loL q L p) (u,v)↔ ∃r∈L,q.lo r=p∧((q.rc r).a ≤u∧u<(q.rc r).c)∧((q.rc r).b ≤v∧v<(q.rc r).d):=by
 rw [u7j];constructor
 ·rintro ⟨s,hs,h⟩;obtain ⟨r,hr,rfl⟩:=AO.1 hs;obtain ⟨h1,h2⟩:=A1.1 hr;exact ⟨r,h1,AF h2,h⟩
 ·rintro ⟨r,hr,h1,h2⟩;exact ⟨q.rc r,AO.2 ⟨r,A1.2 ⟨hr,Ah h1⟩,rfl⟩,h2⟩
theorem Ap6.not (q:Ax) {r s:R6} (h:Ap6 r s) {p u v:Int} (h1:q.inB r p u v) (h2:q.inB s p u v):False:=by obtain ⟨a1,a2,a3⟩:=h1;obtain ⟨b1,b2,b3⟩:=h2;unfold Ap6 at h;cases q <;> simp only [Ax.lo,Ax.hi,Ax.rc] at* <;> omega
theorem u7n {L:List R6} (hL:L.Pairwise Ap6) (q:Ax) {r s:R6} (hr:r∈L) (hs:s∈L) {p u v:Int} (h1:q.inB r p u v) (h2:q.inB s p u v):r=s:=by
 obtain ⟨i,hi,ei⟩:=AX hr;obtain ⟨j,hj,ej⟩:=AX hs;have pw:=Bl.1 hL;rcases Bu i j with h | h | h
 ·have:=pw i j hi hj h;rw [ei,ej] at this;exact (this.not q h1 h2).elim
 ·subst h;exact ei.symm.trans ej
 ·have:=pw j i hj hi h;rw [ei,ej] at this;exact (this.not q h2 h1).elim
theorem x1b (q:Ax) {L:List R6} (hL:L.Pairwise Ap6) (hv: ∀r∈L,q.lo r<q.hi r) (p u v:Int):
  (q.inL L (p - 1) u v∧ ¬q.inL L p u v)↔(ptL Wz.inB (hiL q L p) (u,v)∧ ¬ptL Wz.inB (loL q L p) (u,v)):=by
 rw [v6p,v6a];constructor
 ·rintro ⟨⟨r,hr,h1,h2⟩,h3⟩;refine ⟨⟨r,hr,?_,h2⟩,fun ⟨s,hs,k1,k2⟩=>h3 ⟨s,hs,⟨by omega,by have:=hv s hs;omega⟩,k2⟩⟩;refine AL fun hn=>h3 ⟨r,hr,⟨by omega,by omega⟩,h2⟩
 ·rintro ⟨⟨r,hr,h1,h2⟩,h3⟩;have hlt:=hv r hr;have hb:q.inB r (p - 1) u v:=⟨⟨by omega,by omega⟩,h2⟩
  refine ⟨⟨r,hr,hb⟩,fun ⟨s,hs,k1,k2⟩=> ?_⟩;by_cases e:q.lo s=p
  ·exact h3 ⟨s,hs,e,k2⟩
  ·have:=u7n hL q hr hs hb ⟨⟨by omega,by omega⟩,k2⟩;subst this;omega
theorem y0n (q:Ax) {L:List R6} (hL:L.Pairwise Ap6) (hv: ∀r∈L,q.lo r<q.hi r) (p u v:Int):
  (q.inL L p u v∧ ¬q.inL L (p - 1) u v)↔(ptL Wz.inB (loL q L p) (u,v)∧ ¬ptL Wz.inB (hiL q L p) (u,v)):=by
 rw [v6p,v6a];constructor
 ·rintro ⟨⟨r,hr,h1,h2⟩,h3⟩;refine ⟨⟨r,hr,?_,h2⟩,fun ⟨s,hs,k1,k2⟩=>h3 ⟨s,hs,⟨by have:=hv s hs;omega,by omega⟩,k2⟩⟩;refine AL fun hn=>h3 ⟨r,hr,⟨by omega,by omega⟩,h2⟩
 ·rintro ⟨⟨r,hr,h1,h2⟩,h3⟩;have hlt:=hv r hr;have hb:q.inB r p u v:=⟨⟨by omega,by omega⟩,h2⟩
  refine ⟨⟨r,hr,hb⟩,fun ⟨s,hs,k1,k2⟩=> ?_⟩;by_cases e:q.hi s=p
  ·exact h3 ⟨s,hs,e,k2⟩
  ·have:=u7n hL q hr hs hb ⟨⟨by omega,by omega⟩,k2⟩;subst this;omega
def upF (q:Ax) (L:List R6) (p:Int):List R4:=rgJ 2 (D4.out (z1t q L (p - 1))) (D4.out (z1t q L p))
def dnF (q:Ax) (L:List R6) (p:Int):List R4:=rgJ 2 (D4.out (z1t q L p)) (D4.out (z1t q L (p - 1)))
section
variable (q:Ax) {L:List R6} (hv: ∀r∈L,Jf r=true) (hl:L.length≤20) (hL:L.Pairwise Ap6)
include hv hl
theorem fw (p:Int):Few (z1t q L p) (D4.out (z1t q L p)) (z1t q L p).length :=j4k (w1v q hv p) (AG (w1w q L p) hl)
theorem y4g (p:Int):Wz.can (upF q L p)∧ ∀u v,ptL Wz.inB (upF q L p) (u,v)↔(q.inL L (p - 1) u v∧ ¬q.inL L p u v):=by have f1:=fw q hv hl (p - 1);have f2:=fw q hv hl p;obtain ⟨h1,h2,_⟩:=Qz 2 f1.val f2.val;refine ⟨h1,fun u v=> ?_⟩;rw [show ptL Wz.inB (upF q L p) (u,v)↔_ from h2 (u,v),←y1r,←y1r,←f1.pts,←f2.pts];simp [opB]
theorem y6m (p:Int):Wz.can (dnF q L p)∧ ∀u v,ptL Wz.inB (dnF q L p) (u,v)↔(q.inL L p u v∧ ¬q.inL L (p - 1) u v):=by have f1:=fw q hv hl (p - 1);have f2:=fw q hv hl p;obtain ⟨h1,h2,_⟩:=Qz 2 f2.val f1.val;refine ⟨h1,fun u v=> ?_⟩;rw [show ptL Wz.inB (dnF q L p) (u,v)↔_ from h2 (u,v),←y1r,←y1r,←f1.pts,←f2.pts];simp [opB]
include hL
theorem x1a (p:Int):(upF q L p).length +(dnF q L p).length ≤((hiL q L p).length +(loL q L p).length)*((hiL q L p).length +(loL q L p).length):=by
 have hr: ∀r∈L,q.lo r<q.hi r:=fun r h=>(q.val (hv r h)).2.1;have va: ∀s∈hiL q L p,Wh s=true:=fun s hs=>by obtain ⟨r,hr,rfl⟩:=AO.1 hs;exact (q.val (hv r (A1.1 hr).1)).1
 have vb: ∀s∈loL q L p,Wh s=true:=fun s hs=>by obtain ⟨r,hr,rfl⟩:=AO.1 hs;exact (q.val (hv r (A1.1 hr).1)).1
 obtain ⟨a1,a2,_⟩:=Qz 2 va vb;obtain ⟨b1,b2,_⟩:=Qz 2 vb va;obtain ⟨u1,u2⟩:=y4g q hv hl p;obtain ⟨d1,d2⟩:=y6m q hv hl p;have e1:upF q L p=rgJ 2 (hiL q L p) (loL q L p):=Wz.uniq _ _ u1 a1 fun ⟨u,v⟩=>by rw [u2,x1b q hL hr,a2];simp [opB]
 have e2:dnF q L p=rgJ 2 (loL q L p) (hiL q L p):=Wz.uniq _ _ d1 b1 fun ⟨u,v⟩=>by rw [d2,y0n q hL hr,b2];simp [opB]
 rw [e1,e2];exact u0z va vb
theorem x0i (p:Int):Xw (z1t q L p)=0∧Zc (z1t q L p)=D4.out (z1t q L p)∧rgE .d (D4.out (z1t q L (p - 1))) (D4.out (z1t q L p))=0∧rgE .d (D4.out (z1t q L p)) (D4.out (z1t q L (p - 1)))=0:=by
 have hr: ∀r∈L,q.lo r<q.hi r:=fun r h=>(q.val (hv r h)).2.1;have f1:=fw q hv hl (p - 1);have f2:=fw q hv hl p;have l1:=w1w q L (p - 1);have l2:=w1w q L p;have t:=y4h q hr p;have hud:=x1a q hv hl hL p;have h4:((hiL q L p).length +(loL q L p).length)*((hiL q L p).length +(loL q L p).length)≤400:=AG (Cf (AG t hl) (AG t hl)) (by decide);obtain ⟨m0,m1⟩:=j4j (w1v q hv p) (AG l2 hl);have n1:=AG f1.len (AG (Cf (AG l1 hl) (AG l1 hl)) (show 20*20≤400 by decide));have n2:=AG f2.len (AG (Cf (AG l2 hl) (AG l2 hl)) (show 20*20≤400 by decide));refine ⟨m1,m0,x1r .d n1 n2 f1.val f2.val f1.can f2.can (fun x=> ?_) ?_,x1r .d n2 n1 f2.val f1.val f2.can f1.can (fun x=> ?_) ?_⟩
 ·have:=f1.sec x;have:=f2.sec x;omega
 ·show (upF q L p).length ≤400;omega
 ·have:=f1.sec x;have:=f2.sec x;omega
 ·show (dnF q L p).length ≤400;omega
end
open Go.Proofs.Tryz
def prH (q:Ax) (L:List R6) (P Q:R4) (lo hi:Int):Int:=bif P.c != Q.a then 0 else bif P.d != Q.b then (bif Q.d != P.b then 0 else w8w q L P.c P.b lo hi (P.d == Q.b)) else w8w q L P.c P.d lo hi (P.d == Q.b)
def prO (q:Ax) (L:List R6) (r s:R6):Int:=bif decide ((q.rc s).a <(q.rc r).a) then prH q L (q.rc s) (q.rc r) (Jg (q.lo r) (q.lo s)) (Jm (q.hi r) (q.hi s)) else prH q L (q.rc r) (q.rc s) (Jg (q.lo r) (q.lo s)) (Jm (q.hi r) (q.hi s))
def j1l (q:Ax) (L:List R6) (i:Nat):Int:=sm (Je L 0 i) (prO q L (rd L i))
def y3f (q:Ax) (L:List R6):Nat→Int
 | 0=>0
 | k+1=>y3f q L k+j1l q L k
theorem u7i (q:Ax) (r:R6):q.u r.a r.b=(q.rc r).a :=by cases q <;> rfl
theorem u7g (q:Ax) (r:R6):q.w r.b r.c=(q.rc r).b :=by cases q <;> rfl
theorem u7h (q:Ax) (r:R6):q.u r.d r.e=(q.rc r).c :=by cases q <;> rfl
theorem u7f (q:Ax) (r:R6):q.w r.e r.f=(q.rc r).d :=by cases q <;> rfl
theorem x4u (q:Ax) (r:R6):q.l r.a r.b r.c=q.lo r:=by cases q <;> rfl
theorem x4v (q:Ax) (r:R6):q.l r.d r.e r.f=q.hi r:=by cases q <;> rfl
section
variable (L:List R6) (hl:L.length≤400) (hv: ∀r∈L,Jf r=true)
include hl hv
theorem u8h (q:Ax) {r s:R6} (hr:r∈L) (hs:s∈L) (lo hi:Int) (b:Bool):Qa q L (q.rc r).c (q.rc s).b lo hi b=true∧Qa q L (q.rc r).c (q.rc s).d lo hi b=true:=by have h1:=(q.val (hv r hr)).1;have h2:=(q.val (hv s hs)).1;simp only [Wh,Ac,Al] at h1 h2;exact ⟨Ah (by omega),Ah (by omega)⟩
theorem u8j (q:Ax) (i:Nat) (hi:i<L.length): ∀(k j:Nat) (S:Int),j+k=i→
  ∃n,∀N,Yz (We L) (N+n) (.to (.h1 q (wrap .i64 S) (i:Int) (Je L 0 i) (i:Int) (j:Int) (rd L i).a (rd L i).b (rd L i).c (rd L i).d (rd L i).e (rd L i).f))=Yz (We L) N (.to (.h0 q (wrap .i64 (S+sm ((Je L 0 i).drop j) (prO q L (rd L i)))) ((i+1:Nat):Int)))
 | 0,j,S,h=>by
  refine ⟨1,fun N=> ?_⟩;have e:(Je L 0 i).length =i:=Qg ..;have g:decide ((j:Int)<(i:Int))=false:=Ay (by omega);have w3:wrap .i64 ((i:Int)+1)=((i+1:Nat):Int):=by rw [Zq (by omega)];rfl
  rw [Av (by omega),Zv,z1e,A5];simp only [We,g,w3,Aa]
 | k+1,j,S,h=>by
  have e:(Je L 0 i).length =i:=Qg ..;obtain ⟨n,hn⟩:=u8j q i hi k (j+1) (S+prO q L (rd L i) (rd (Je L 0 i) j)) (by omega);refine ⟨n+1,fun N=> ?_⟩;have hn:=hn N;rw [Yq (show j<(Je L 0 i).length by omega),Xd,←Int.add_assoc,←hn,←AE,Zv]
  congr 1
  have hj:rd (Je L 0 i) j∈L:=by
   have e2:Je L 0 i=L.take i:=by rw [w4h (show 0+i≤L.length by omega),A0]
   rw [Xz (show j<(Je L 0 i).length by omega)];have hm: ∀M:List R6,M=L.take i→ ∀(h:j<M.length),M[j]∈L:=fun M hM h=>by subst hM;exact BZ (AS h)
   exact hm _ e2 _
  have hr:rd L i∈L:=by rw [Xz hi];exact AS hi
  have g1:decide ((j:Int)<(i:Int))=true:=Ah (by omega);have g2:decide (0≤(j:Int)∧(j:Int)<(((Je L 0 i).length :Nat):Int))=true:=Ah (by omega);have w3:wrap .i64 ((j:Int)+1)=((j+1:Nat):Int):=by rw [Zq (by omega)];rfl
  have wp: ∀y,wrap .i64 (wrap .i64 S+y)=wrap .i64 (S+y):=fun y=>Cg.eq ((Cg.wrap S).add (Cg.refl y));have o1:=fun lo hi b=>u8h L hl hv q hr hr lo hi b;have o2:=fun lo hi b=>u8h L hl hv q hj hj lo hi b;generalize hsd:rd (Je L 0 i) j=s at*;unfold prO prH;rcases Yp (decide ((q.rc s).a <(q.rc (rd L i)).a)) with q1 | q1
  ·rcases Yp ((q.rc s).c != (q.rc (rd L i)).a) with q2 | q2
   ·simp only [We,Zm,u7i,u7g,u7h,u7f,x4u,x4v,g1,g2,w3,Zj,hsd,q1,q2,Ai,Ab,Aa,A5]
   rcases Yp ((q.rc s).d != (q.rc (rd L i)).b) with q3 | q3
   ·rcases Yp ((q.rc (rd L i)).d != (q.rc s).b) with q4 | q4
    ·simp only [We,Zm,u7i,u7g,u7h,u7f,x4u,x4v,g1,g2,w3,Zj,hsd,q1,q2,q3,q4,Ai,Ab,Aa,A5]
    ·simp only [We,Zm,u7i,u7g,u7h,u7f,x4u,x4v,g1,g2,w3,Zj,hsd,q1,q2,q3,q4,wp,o2,Ai,Ab,Aa]
   ·simp only [We,Zm,u7i,u7g,u7h,u7f,x4u,x4v,g1,g2,w3,Zj,hsd,q1,q2,q3,wp,o2,Ai,Ab,Aa]
  ·rcases Yp ((q.rc (rd L i)).c != (q.rc s).a) with q2 | q2
   ·simp only [We,Zm,u7i,u7g,u7h,u7f,x4u,x4v,g1,g2,w3,Zj,hsd,q1,q2,Ai,Ab,Aa,A5]
   rcases Yp ((q.rc (rd L i)).d != (q.rc s).b) with q3 | q3
   ·rcases Yp ((q.rc s).d != (q.rc (rd L i)).b) with q4 | q4
    ·simp only [We,Zm,u7i,u7g,u7h,u7f,x4u,x4v,g1,g2,w3,Zj,hsd,q1,q2,q3,q4,Ai,Ab,Aa,A5]
    ·simp only [We,Zm,u7i,u7g,u7h,u7f,x4u,x4v,g1,g2,w3,Zj,hsd,q1,q2,q3,q4,wp,o1,Ai,Ab,Aa]
   ·simp only [We,Zm,u7i,u7g,u7h,u7f,x4u,x4v,g1,g2,w3,Zj,hsd,q1,q2,q3,wp,o1,Ai,Ab,Aa]
theorem w5a (q:Ax) (B:Int): ∀(k i:Nat),i+k=L.length→
  ∃n,∀N,Yz (We L) (N+n) (.to (.h0 q (wrap .i64 (B+y3f q L i)) (i:Int)))=Yz (We L) N (mpgE q (wrap .i64 (B+y3f q L L.length)))
 | 0,i,h=>by
  refine ⟨1,fun N=> ?_⟩;have:i=L.length:=by omega
  subst this;rw [Zv];have g:decide ((L.length:Int)<(L.length:Int))=false:=Ay (by omega);simp only [We,g,Aa]
 | k+1,i,h=>by
  have hi:i<L.length:=by omega
  obtain ⟨n,hn⟩:=w5a q B k (i+1) (by omega);obtain ⟨m,hm⟩:=u8j L hl hv q i hi i 0 (B+y3f q L i) (Ag _);refine ⟨n+m+1,fun N=> ?_⟩;have hn:=hn N;have hm:=hm (N+n);rw [show N+(n+m+1)=(N+n+m)+1 by omega,Zv];have g1:decide ((i:Int)<(L.length:Int))=true:=Ah (by omega);have g2:decide (0≤(i:Int)∧(i:Int)<(L.length:Int))=true:=Ah (by omega);have g3:decide (0≤i)=true:=Ah (by omega);have g4:decide (i≤L.length)=true:=Ah (by omega);have g5:decide (0≤(i:Int))=true:=Ah (by omega);have hs:We L (.h0 q (wrap .i64 (B+y3f q L i)) (i:Int))=.to (.h1 q (wrap .i64 (B+y3f q L i)) (i:Int) (Je L 0 i) (i:Int) 0 (rd L i).a (rd L i).b (rd L i).c (rd L i).d (rd L i).e (rd L i).f):=by simp only [We,g1,g2,g3,g4,g5,Zj,Ai,Ab]
  rw [hs];rw [z3r] at hm;rw [hm,A0,Int.add_assoc];exact hn
end
def z2e (L:List R6):Int:=bif Yo L != 0 then 0 else wrap .i64 (y3f .x L L.length+y3f .y L L.length+y3f .z L L.length)
def z8g (L:List R6):Int:=Yo L
def z0o (L:List R6):Bool:=true
theorem j3a (L:List R6) (h:z0o L=true): ∃n,Yz (We L) n (y3j L)=.ret [.int .i64 (z2e L),.int .i64 (z8g L)]:=by
 unfold y3j z2e z8g;simp only [Zm,show Ks L=true from rfl,Ab];rcases Yp (Yo L != 0) with q1 | q1
 ·exact ⟨0,by simp only [q1,Ab];rfl⟩
 ·have hl:=y8x q1;have hz:Yo L=0:=by simpa using q1
  have hv:=(Wx hz).2.1;obtain ⟨n1,h1⟩:=w5a L hl hv .x 0 L.length 0 (Ag _);obtain ⟨n2,h2⟩:=w5a L hl hv .y (y3f .x L L.length) L.length 0 (Ag _);obtain ⟨n3,h3⟩:=w5a L hl hv .z (y3f .x L L.length+y3f .y L L.length) L.length 0 (Ag _);refine ⟨0+n3+n2+n1,?_⟩;have h1:=h1 (0+n3+n2);have h2:=h2 (0+n3);have h3:=h3 0;rw [z3r,show y3f Ax.x L 0=0 from rfl,A5,show wrap .i64 0=0 from rfl,BN] at h1;rw [z3r,show y3f Ax.y L 0=0 from rfl,A5] at h2;rw [z3r,show y3f Ax.z L 0=0 from rfl,A5] at h3;simp only [q1,Aa];rw [h1];show Yz (We L) (0+n3+n2) (.to (.h0 .y _ 0))=_;rw [h2];show Yz (We L) (0+n3) (.to (.h0 .z _ 0))=_;rw [h3,hz];rfl
def fMpg :List AVal→Option (AVal×Bool)
 | [a0]=>match asL R6 a0 with
  | some (L0,g0,n0)=>some (.tup [.int .i64 (z2e L0),.int .i64 (z8g L0)],isT R6 n0 g0&&(z0o L0))
  | _=>none
 | _=>none
theorem j5h {S:Specs} (hS:Zu prog S):Zu prog (S.with v5k fMpg):=by
 refine z0v hS (by kernel_rfl) fun args v h=> ?_;unfold fMpg at h;split at h
 ·rename_i a0;split at h
  ·rename_i L0 g0 n0 e0;simp only [Ae,Ad,Ac] at h;obtain ⟨rfl,ho0,hw⟩:=h;obtain ⟨N,hN⟩:=j3a L0 hw;exact ⟨_,_,(.cons (asL_le e0 ho0) .nil),rfl,u1w L0 N _ hN,3,rfl⟩
  ·cases h
 ·cases h
def Nk :Specs:=Ni.with v5k fMpg
theorem y2f :Zu prog Nk:=j5h z6d
inductive rfkS where
def rfkC (aL:Int) (aN:Int) (aM:Int) (aS:Int):rfkS→Cfg
 :=nofun
def x8v (aL:Int) (aN:Int) (aM:Int) (aS:Int):rfkS→Xp rfkS
 :=nofun
def y3c (aL:Int) (aN:Int) (aM:Int) (aS:Int):Xp rfkS:=(bif (decide (aL≥24)) then (.ret [(.int .i64 8)]) else (bif (decide (aN≥(-1000000))) then (bif (decide (aM≥(-1000000))) then (bif (decide (aS≥(-1000000))) then (bif (decide (aN≤1000000)) then (bif (decide (aM≤1000000)) then (bif (!(decide (aS≤1000000))) then (.ret [(.int .i64 8)]) else (.ret [(.int .i64 0)])) else (.ret [(.int .i64 8)])) else (.ret [(.int .i64 8)])) else (.ret [(.int .i64 8)])) else (.ret [(.int .i64 8)])) else (.ret [(.int .i64 8)])))
theorem w8k (aL:Int) (aN:Int) (aM:Int) (aS:Int): ∀s,Yr prog (Zy prog 49) (rfkC aL aN aM aS) (rfkC aL aN aM aS s) (x8v aL aN aM aS s)
 :=nofun
theorem x8w (aL:Int) (aN:Int) (aM:Int) (aS:Int):Yr prog (Zy prog 49) (rfkC aL aN aM aS) (Zb prog 49 [(.agg [(.int .u8 aL),(.int .i64 aN),(.int .i64 aM),(.int .i64 aS)])] true []) (y3c aL aN aM aS):=(lb (fun k0=>(lr 12 49 [1,0,1,0,0] 1 3 [(2,(ii 8))] (sl Vm 23 [] ⟨[],[],[some [2]],[]⟩ ⟨[],[],[]⟩ (trs 5 []) (tt k0 nn)))) (fun k0=>(lb (fun k1=>(lb (fun k2=>(lb (fun k3=>(lb (fun k4=>(lb (fun k5=>(lb (fun k6=>(lr 12 49 [1,0,1,0,0] 1 3 [(2,(ii 8))] (sl Vm 64 [] ⟨[],[],[some [2]],[]⟩ ⟨[],[],[]⟩ [false,false,false,true,true,true,true,true,true,true,true,true,true,true,true,true,true,true,true,true,false,true] (tt k6 (tt k5 (tt k4 (tt k3 (tt k2 (tt k1 (tt k0 nn)))))))))) (fun k6=>(lr 12 3 [1,1,1,1,1,1,1,0] 1 3 [(2,(ii 0))] (sl Vm 65 [] ⟨[],[],[some [2]],[]⟩ ⟨[],[],[]⟩ [false,false,false,true,true,true,true,true,true,true,true,true,true,true,true,true,true,true,true,true,false,false] (tt k6 (tt k5 (tt k4 (tt k3 (tt k2 (tt k1 (tt k0 nn)))))))))))) (fun k5=>(lr 12 49 [1,0,1,0,0] 1 3 [(2,(ii 8))] (sl Vm 64 [] ⟨[],[],[some [2]],[]⟩ ⟨[],[],[]⟩ [false,false,false,true,true,true,true,true,true,true,true,true,true,true,true,true,true,false,false,false,false,true] (tt k5 (tt k4 (tt k3 (tt k2 (tt k1 (tt k0 nn))))))))))) (fun k4=>(lr 12 49 [1,0,1,0,0] 1 3 [(2,(ii 8))] (sl Vm 64 [] ⟨[],[],[some [2]],[]⟩ ⟨[],[],[]⟩ [false,false,false,true,true,true,true,true,true,true,true,true,true,true,false,false,false,false,false,false,false,true] (tt k4 (tt k3 (tt k2 (tt k1 (tt k0 nn)))))))))) (fun k3=>(lr 12 49 [1,0,1,0,0] 1 3 [(2,(ii 8))] (sl Vm 64 [] ⟨[],[],[some [2]],[]⟩ ⟨[],[],[]⟩ [false,false,false,true,true,true,true,true,true,true,true,false,false,false,false,false,false,false,false,false,false,true] (tt k3 (tt k2 (tt k1 (tt k0 nn))))))))) (fun k2=>(lr 12 49 [1,0,1,0,0] 1 3 [(2,(ii 8))] (sl Vm 64 [] ⟨[],[],[some [2]],[]⟩ ⟨[],[],[]⟩ [false,false,false,true,true,true,true,false,false,false,false,false,false,false,false,false,false,false,false,false,false,true] (tt k2 (tt k1 (tt k0 nn)))))))) (fun k1=>(lr 12 49 [1,0,1,0,0] 1 3 [(2,(ii 8))] (sl Vm 64 [] ⟨[],[],[some [2]],[]⟩ ⟨[],[],[]⟩ [false,false,false,false,false,false,false,false,false,false,false,false,false,false,false,false,false,false,false,false,false,true] (tt k1 (tt k0 nn))))))))
theorem u1a (aL:Int) (aN:Int) (aM:Int) (aS:Int) (n:Nat) (vs:List AVal) (h:Yz (x8v aL aN aM aS) n (y3c aL aN aM aS)=.ret vs):Ji prog (Zy prog 49) (Zb prog 49 [(.agg [(.int .u8 aL),(.int .i64 aN),(.int .i64 aM),(.int .i64 aS)])] true []) vs:=by have:=Ze (w8k aL aN aM aS) n _ (x8w aL aN aM aS);rwa [h] at this
inductive rinS where
def rinC (aL:Int) (aN:Int) (aM:Int) (x1:Int):rinS→Cfg
 :=nofun
def x8n (aL:Int) (aN:Int) (aM:Int) (x1:Int):rinS→Xp rinS
 :=nofun
def y2z (aL:Int) (aN:Int) (aM:Int) (x1:Int):Xp rinS:=(bif (decide (aL≥x1)) then (bif (decide (aN≥x1)) then (bif (decide (aM≥x1)) then (bif (decide (aL≤1000000)) then (bif (decide (aN≤1000000)) then (.ret [(.bool (decide (aM≤1000000)))]) else (.ret [(.bool false)])) else (.ret [(.bool false)])) else (.ret [(.bool false)])) else (.ret [(.bool false)])) else (.ret [(.bool false)]))
theorem w8g (aL:Int) (aN:Int) (aM:Int) (x1:Int): ∀s,Yr prog (Zy prog 38) (rinC aL aN aM x1) (rinC aL aN aM x1 s) (x8n aL aN aM x1 s)
 :=nofun
theorem x8o (aL:Int) (aN:Int) (aM:Int) (x1:Int):Yr prog (Zy prog 38) (rinC aL aN aM x1) (Zb prog 38 [(.agg [(.int .i64 aL),(.int .i64 aN),(.int .i64 aM)]),(.int .i64 x1)] true []) (y2z aL aN aM x1):=(lb (fun k0=>(lb (fun k1=>(lb (fun k2=>(lb (fun k3=>(lb (fun k4=>(lr 36 3 [1,1,1,1,1,1,1,0] 1 5 [(4,(.bool (decide (aM≤1000000))))] (sl Vm 40 [] ⟨[],[],[some [4]],[]⟩ ⟨[],[],[]⟩ (trs 17 []) (tt k4 (tt k3 (tt k2 (tt k1 (tt k0 nn)))))))) (fun k4=>(lr 36 3 [1,1,1,1,1,1,1,0] 1 5 [(4,(.bool false))] (sl Vm 40 [] ⟨[],[],[some [4]],[]⟩ ⟨[],[],[]⟩ (trs 14 [false,false,false]) (tt k4 (tt k3 (tt k2 (tt k1 (tt k0 nn)))))))))) (fun k3=>(lr 36 3 [1,1,1,1,1,1,1,0] 1 5 [(4,(.bool false))] (sl Vm 40 [] ⟨[],[],[some [4]],[]⟩ ⟨[],[],[]⟩ (trs 11 [false,false,false,false,false,false]) (tt k3 (tt k2 (tt k1 (tt k0 nn))))))))) (fun k2=>(lr 36 3 [1,1,1,1,1,1,1,0] 1 5 [(4,(.bool false))] (sl Vm 40 [] ⟨[],[],[some [4]],[]⟩ ⟨[],[],[]⟩ (trs 8 [false,false,false,false,false,false,false,false,false]) (tt k2 (tt k1 (tt k0 nn)))))))) (fun k1=>(lr 36 3 [1,1,1,1,1,1,1,0] 1 5 [(4,(.bool false))] (sl Vm 40 [] ⟨[],[],[some [4]],[]⟩ ⟨[],[],[]⟩ (trs 4 [false,false,false,false,false,false,false,false,false,false,false,false,false]) (tt k1 (tt k0 nn))))))) (fun k0=>(lr 36 3 [1,1,1,1,1,1,1,0] 1 5 [(4,(.bool false))] (sl Vm 40 [] ⟨[],[],[some [4]],[]⟩ ⟨[],[],[]⟩ [false,false,false,false,false,false,false,false,false,false,false,false,false,false,false,false,false] (tt k0 nn)))))
theorem u0l (aL:Int) (aN:Int) (aM:Int) (x1:Int) (n:Nat) (vs:List AVal) (h:Yz (x8n aL aN aM x1) n (y2z aL aN aM x1)=.ret vs):Ji prog (Zy prog 38) (Zb prog 38 [(.agg [(.int .i64 aL),(.int .i64 aN),(.int .i64 aM)]),(.int .i64 x1)] true []) vs:=by have:=Ze (w8g aL aN aM x1) n _ (x8o aL aN aM x1);rwa [h] at this
inductive fckS where
def fckC (aL:Int) (aN:Int) (aM:Int) (aS:Int):fckS→Cfg
 :=nofun
def w1h (aL:Int) (aN:Int) (aM:Int) (aS:Int):fckS→Xp fckS
 :=nofun
def y3y (aL:Int) (aN:Int) (aM:Int) (aS:Int):Xp fckS:=(bif (decide (aL≥24)) then (.ret [(.int .i64 8)]) else (bif (decide ((Jm (Jm aN aM) aS)≥(-1000000))) then (bif (!(decide ((Jg (Jg aN aM) aS)≤1000000))) then (.ret [(.int .i64 8)]) else (.ret [(.int .i64 0)])) else (.ret [(.int .i64 8)])))
theorem v0f (aL:Int) (aN:Int) (aM:Int) (aS:Int): ∀s,Yr prog (Zy prog 96) (fckC aL aN aM aS) (fckC aL aN aM aS s) (w1h aL aN aM aS s)
 :=nofun
theorem w1i (aL:Int) (aN:Int) (aM:Int) (aS:Int):Yr prog (Zy prog 96) (fckC aL aN aM aS) (Zb prog 96 [(.agg [(.int .u8 aL),(.int .i64 aN),(.int .i64 aM),(.int .i64 aS)])] true []) (y3y aL aN aM aS):=(lb (fun k0=>(lr 12 96 [1,0,1,0,0] 1 3 [(2,(ii 8))] (sl Vm 23 [] ⟨[],[],[some [2]],[]⟩ ⟨[],[],[]⟩ (trs 5 []) (tt k0 nn)))) (fun k0=>(lb (fun k1=>(lb (fun k2=>(lr 12 96 [1,0,1,0,0] 1 3 [(2,(ii 8))] (sl Vm 52 [] ⟨[],[],[some [2]],[]⟩ ⟨[],[],[]⟩ [false,false,false,true,true,true,true,true,true,true,true,false,true] (tt k2 (tt k1 (tt k0 nn)))))) (fun k2=>(lr 12 3 [1,1,1,1,1,1,1,0] 1 3 [(2,(ii 0))] (sl Vm 53 [] ⟨[],[],[some [2]],[]⟩ ⟨[],[],[]⟩ [false,false,false,true,true,true,true,true,true,true,true,false,false] (tt k2 (tt k1 (tt k0 nn)))))))) (fun k1=>(lr 12 96 [1,0,1,0,0] 1 3 [(2,(ii 8))] (sl Vm 52 [] ⟨[],[],[some [2]],[]⟩ ⟨[],[],[]⟩ [false,false,false,false,false,false,false,false,false,false,false,false,true] (tt k1 (tt k0 nn))))))))
theorem u3m (aL:Int) (aN:Int) (aM:Int) (aS:Int) (n:Nat) (vs:List AVal) (h:Yz (w1h aL aN aM aS) n (y3y aL aN aM aS)=.ret vs):Ji prog (Zy prog 96) (Zb prog 96 [(.agg [(.int .u8 aL),(.int .i64 aN),(.int .i64 aM),(.int .i64 aS)])] true []) vs:=by have:=Ze (v0f aL aN aM aS) n _ (w1i aL aN aM aS);rwa [h] at this
inductive fdiS where
def fdiC (x0:Int):fdiS→Cfg
 :=nofun
def w1f (x0:Int):fdiS→Xp fdiS
 :=nofun
def y3x (x0:Int):Xp fdiS:=(bif ((wrap IntKind.u8 (Int.tdiv x0 2)) == 0) then (.ret [(.agg [(.int .i64 (wrap .i64 (1 - (wrap .i64 (2*(wrap .i64 (Int.tmod x0 2))))))),(.int .i64 0),(.int .i64 0)])]) else (bif ((wrap IntKind.u8 (Int.tdiv x0 2)) == 1) then (.ret [(.agg [(.int .i64 0),(.int .i64 (wrap .i64 (1 - (wrap .i64 (2*(wrap .i64 (Int.tmod x0 2))))))),(.int .i64 0)])]) else (.ret [(.agg [(.int .i64 0),(.int .i64 0),(.int .i64 (wrap .i64 (1 - (wrap .i64 (2*(wrap .i64 (Int.tmod x0 2)))))))])])))
theorem v0e (x0:Int): ∀s,Yr prog (Zy prog 192) (fdiC x0) (fdiC x0 s) (w1f x0 s)
 :=nofun
theorem w1g (x0:Int):Yr prog (Zy prog 192) (fdiC x0) (Zb prog 192 [(.int .u8 x0)] true []) (y3x x0):=(lb (fun k0=>(Vc ⟨⟨21,0,true⟩,none,(Zd prog 192 [1,1,0,1,0,1,0,0] 1),none,(Zy prog 41),⟨Yb [(2,(.ptr 0 0))],Vb [⟨[(ii (wr (1 - (wr (2*(wr (Int.tmod x0 2))))))),(ii 0),(ii 0)],55,none⟩] 0,1,[],true⟩,[],.leaf⟩ (sl Vm 32 [] ⟨[0],[],[some [2]],[]⟩ ⟨[],[],[]⟩ [true] (tt k0 nn)) rfl (by kernel_rfl))) (fun k0=>(lb (fun k1=>(Vc ⟨⟨21,0,true⟩,none,(Zd prog 192 [1,1,0,1,0,1,0,0] 1),none,(Zy prog 41),⟨Yb [(2,(.ptr 0 0))],Vb [⟨[(ii 0),(ii (wr (1 - (wr (2*(wr (Int.tmod x0 2))))))),(ii 0)],55,none⟩] 0,1,[],true⟩,[],.leaf⟩ (sl Vm 38 [] ⟨[0],[],[some [2]],[]⟩ ⟨[],[],[]⟩ [false,true] (tt k1 (tt k0 nn))) rfl (by kernel_rfl))) (fun k1=>(Vc ⟨⟨21,0,true⟩,none,(Zd prog 3 [1,1,1,1,1,1,1,0] 1),none,(Zy prog 41),⟨Yb [(2,(.ptr 0 0))],Vb [⟨[(ii 0),(ii 0),(ii (wr (1 - (wr (2*(wr (Int.tmod x0 2)))))))],55,none⟩] 0,1,[],true⟩,[],.leaf⟩ (sl Vm 40 [] ⟨[0],[],[some [2]],[]⟩ ⟨[],[],[]⟩ [false,false] (tt k1 (tt k0 nn))) rfl (by kernel_rfl))))))
theorem u3l (x0:Int) (n:Nat) (vs:List AVal) (h:Yz (w1f x0) n (y3x x0)=.ret vs):Ji prog (Zy prog 192) (Zb prog 192 [(.int .u8 x0)] true []) vs:=by have:=Ze (v0e x0) n _ (w1g x0);rwa [h] at this
def x3r (t x y z:Int):Int:=bif decide (t≥24) then 8 else bif x2r x y z then 0 else 8
theorem j4m (t x y z:Int): ∃N,Yz (w1h t x y z) N (y3y t x y z)=.ret [.int .i64 (x3r t x y z)]:=⟨0,by
 unfold y3y x3r x2r;cases decide (t≥24) <;> cases decide (Jm (Jm x y) z≥(-1000000)) <;> cases decide (Jg (Jg x y) z≤1000000) <;> rfl⟩
def fFck :List AVal→Option (AVal×Bool)
 | [.agg [.int .u8 t,.int .i64 x,.int .i64 y,.int .i64 z]]=>some (.int .i64 (x3r t x y z),true)
 | _=>none
theorem j5x {S:Specs} (hS:Zu prog S):Zu prog (S.with w4s fFck):=by
 refine z0v hS (by kernel_rfl) fun args v h=> ?_;unfold fFck at h;split at h
 ·rename_i t x y z;simp only [Ae,Ad,BV] at h;subst h;obtain ⟨N,hN⟩:=j4m t x y z;exact ⟨_,_,(.cons (.refl _) .nil),rfl,u3m t x y z N _ hN,3,rfl⟩
 ·cases h
def fdS (d:Int):Int:=wrap .i64 (1 - wrap .i64 (2*wrap .i64 (Int.tmod d 2)))
def z0d (d:Int):R3:=bif wrap .u8 (Int.tdiv d 2) == 0 then ⟨fdS d,0,0⟩ else bif wrap .u8 (Int.tdiv d 2) == 1 then ⟨0,fdS d,0⟩ else ⟨0,0,fdS d⟩
theorem j4l (d:Int): ∃N,Yz (w1f d) N (y3x d)=.ret [.agg [.int .i64 (z0d d).a,.int .i64 (z0d d).b,.int .i64 (z0d d).c]]:=⟨0,by
 unfold y3x z0d;cases wrap .u8 (Int.tdiv d 2) == 0 <;> cases wrap .u8 (Int.tdiv d 2) == 1 <;> rfl⟩
def fFdi :List AVal→Option (AVal×Bool)
 | [.int .u8 d]=>some (.agg [.int .i64 (z0d d).a,.int .i64 (z0d d).b,.int .i64 (z0d d).c],true)
 | _=>none
theorem j5w {S:Specs} (hS:Zu prog S):Zu prog (S.with u8a fFdi):=by
 refine z0v hS (by kernel_rfl) fun args v h=> ?_;unfold fFdi at h;split at h
 ·rename_i d;simp only [Ae,Ad,BV] at h;subst h;obtain ⟨N,hN⟩:=j4l d;exact ⟨_,_,(.cons (.refl _) .nil),rfl,u3l d N _ hN,3,rfl⟩
 ·cases h
def Na :Specs:=(Mi.with w4s fFck).with u8a fFdi
theorem j7g :Zu prog Na:=j5w (j5x Vm)
inductive faxS where
abbrev Kn (x0:Int):=(z0d (wrap IntKind.u8 (Int.tdiv x0 4)))
abbrev z8q (x0:Int):=(z0d (wrap IntKind.u8 ((Int.tmod x0 4)+2)))
abbrev z8p (x0:Int):=(z0d (Int.tmod x0 4))
def faxC (x0:Int):faxS→Cfg
 :=nofun
def w1j (x0:Int):faxS→Xp faxS
 :=nofun
def y3z (x0:Int):Xp faxS:=(bif (decide ((Int.tmod x0 4)≥(wrap IntKind.u8 ((wrap IntKind.u8 (Int.tdiv (wrap IntKind.u8 (Int.tdiv x0 4)) 2))*2)))) then (.ret [(.agg [(.int .i64 (z0d (wrap IntKind.u8 (Int.tdiv x0 4))).a),(.int .i64 (z0d (wrap IntKind.u8 (Int.tdiv x0 4))).b),(.int .i64 (z0d (wrap IntKind.u8 (Int.tdiv x0 4))).c),(.int .i64 (z0d (wrap IntKind.u8 ((Int.tmod x0 4)+2))).a),(.int .i64 (z0d (wrap IntKind.u8 ((Int.tmod x0 4)+2))).b),(.int .i64 (z0d (wrap IntKind.u8 ((Int.tmod x0 4)+2))).c),(.int .i64 (wrap .i64 ((wrap .i64 ((z0d (wrap IntKind.u8 (Int.tdiv x0 4))).b *(z0d (wrap IntKind.u8 ((Int.tmod x0 4)+2))).c)) - (wrap .i64 ((z0d (wrap IntKind.u8 (Int.tdiv x0 4))).c *(z0d (wrap IntKind.u8 ((Int.tmod x0 4)+2))).b))))),(.int .i64 (wrap .i64 ((wrap .i64 ((z0d (wrap IntKind.u8 (Int.tdiv x0 4))).c *(z0d (wrap IntKind.u8 ((Int.tmod x0 4)+2))).a)) - (wrap .i64 ((z0d (wrap IntKind.u8 (Int.tdiv x0 4))).a *(z0d (wrap IntKind.u8 ((Int.tmod x0 4)+2))).c))))),(.int .i64 (wrap .i64 ((wrap .i64 ((z0d (wrap IntKind.u8 (Int.tdiv x0 4))).a *(z0d (wrap IntKind.u8 ((Int.tmod x0 4)+2))).b)) - (wrap .i64 ((z0d (wrap IntKind.u8 (Int.tdiv x0 4))).b *(z0d (wrap IntKind.u8 ((Int.tmod x0 4)+2))).a)))))])]) else (.ret [(.agg [(.int .i64 (z0d (wrap IntKind.u8 (Int.tdiv x0 4))).a),(.int .i64 (z0d (wrap IntKind.u8 (Int.tdiv x0 4))).b),(.int .i64 (z0d (wrap IntKind.u8 (Int.tdiv x0 4))).c),(.int .i64 (z0d (Int.tmod x0 4)).a),(.int .i64 (z0d (Int.tmod x0 4)).b),(.int .i64 (z0d (Int.tmod x0 4)).c),(.int .i64 (wrap .i64 ((wrap .i64 ((z0d (wrap IntKind.u8 (Int.tdiv x0 4))).b *(z0d (Int.tmod x0 4)).c)) - (wrap .i64 ((z0d (wrap IntKind.u8 (Int.tdiv x0 4))).c *(z0d (Int.tmod x0 4)).b))))),(.int .i64 (wrap .i64 ((wrap .i64 ((z0d (wrap IntKind.u8 (Int.tdiv x0 4))).c *(z0d (Int.tmod x0 4)).a)) - (wrap .i64 ((z0d (wrap IntKind.u8 (Int.tdiv x0 4))).a *(z0d (Int.tmod x0 4)).c))))),(.int .i64 (wrap .i64 ((wrap .i64 ((z0d (wrap IntKind.u8 (Int.tdiv x0 4))).a *(z0d (Int.tmod x0 4)).b)) - (wrap .i64 ((z0d (wrap IntKind.u8 (Int.tdiv x0 4))).b *(z0d (Int.tmod x0 4)).a)))))])]))
theorem v0g (x0:Int): ∀s,Yr prog (Zy prog 174) (faxC x0) (faxC x0 s) (w1j x0 s)
 :=nofun
theorem w1k (x0:Int):Yr prog (Zy prog 174) (faxC x0) (Zb prog 174 [(.int .u8 x0)] true []) (y3z x0):=(lb (fun k0=>(Vc ⟨⟨28,0,true⟩,none,(Zd prog 3 [1,1,1,1,1,1,1,0] 1),none,(Zy prog 174),⟨Yb [(2,(.ptr 0 0))],Vb [⟨[(ii (Kn x0).a),(ii (Kn x0).b),(ii (Kn x0).c),(ii (z8q x0).a),(ii (z8q x0).b),(ii (z8q x0).c),(ii (wr ((wr ((Kn x0).b *(z8q x0).c)) - (wr ((Kn x0).c *(z8q x0).b))))),(ii (wr ((wr ((Kn x0).c *(z8q x0).a)) - (wr ((Kn x0).a *(z8q x0).c))))),(ii (wr ((wr ((Kn x0).a *(z8q x0).b)) - (wr ((Kn x0).b *(z8q x0).a)))))],222,none⟩] 0,1,[],true⟩,[],.leaf⟩ (sl j7g 44 [] ⟨[0],[],[some [2]],[]⟩ ⟨[],[],[]⟩ [true] (tt k0 nn)) rfl (by kernel_rfl))) (fun k0=>(Vc ⟨⟨28,0,true⟩,none,(Zd prog 3 [1,1,1,1,1,1,1,0] 1),none,(Zy prog 174),⟨Yb [(2,(.ptr 0 0))],Vb [⟨[(ii (Kn x0).a),(ii (Kn x0).b),(ii (Kn x0).c),(ii (z8p x0).a),(ii (z8p x0).b),(ii (z8p x0).c),(ii (wr ((wr ((Kn x0).b *(z8p x0).c)) - (wr ((Kn x0).c *(z8p x0).b))))),(ii (wr ((wr ((Kn x0).c *(z8p x0).a)) - (wr ((Kn x0).a *(z8p x0).c))))),(ii (wr ((wr ((Kn x0).a *(z8p x0).b)) - (wr ((Kn x0).b *(z8p x0).a)))))],222,none⟩] 0,1,[],true⟩,[],.leaf⟩ (sl j7g 40 [] ⟨[0],[],[some [2]],[]⟩ ⟨[],[],[]⟩ [false] (tt k0 nn)) rfl (by kernel_rfl))))
theorem u3n (x0:Int) (n:Nat) (vs:List AVal) (h:Yz (w1j x0) n (y3z x0)=.ret vs):Ji prog (Zy prog 174) (Zb prog 174 [(.int .u8 x0)] true []) vs:=by have:=Ze (v0g x0) n _ (w1k x0);rwa [h] at this
structure R9 where
 (a b c d e f g h i:Int)
def faB (t:Int):R3:=bif decide (Int.tmod t 4≥wrap .u8 (wrap .u8 (Int.tdiv (wrap .u8 (Int.tdiv t 4)) 2)*2)) then z0d (wrap .u8 (Int.tmod t 4+2)) else z0d (Int.tmod t 4)
def faC (x y:R3):R9:=⟨x.a,x.b,x.c,y.a,y.b,y.c,wrap .i64 (wrap .i64 (x.b*y.c) - wrap .i64 (x.c*y.b)),wrap .i64 (wrap .i64 (x.c*y.a) - wrap .i64 (x.a*y.c)),wrap .i64 (wrap .i64 (x.a*y.b) - wrap .i64 (x.b*y.a))⟩
def Wm (t:Int):R9:=faC (z0d (wrap .u8 (Int.tdiv t 4))) (faB t)
theorem j4o (t:Int): ∃N,Yz (w1j t) N (y3z t)=.ret [.agg [.int .i64 (Wm t).a,.int .i64 (Wm t).b,.int .i64 (Wm t).c,.int .i64 (Wm t).d,.int .i64 (Wm t).e,.int .i64 (Wm t).f,.int .i64 (Wm t).g,.int .i64 (Wm t).h,.int .i64 (Wm t).i]]:=⟨0,by
 unfold y3z Wm faB;cases decide (Int.tmod t 4≥wrap .u8 (wrap .u8 (Int.tdiv (wrap .u8 (Int.tdiv t 4)) 2)*2)) <;> rfl⟩
def fFax :List AVal→Option (AVal×Bool)
 | [.int .u8 t]=>some (.agg [.int .i64 (Wm t).a,.int .i64 (Wm t).b,.int .i64 (Wm t).c,.int .i64 (Wm t).d,.int .i64 (Wm t).e,.int .i64 (Wm t).f,.int .i64 (Wm t).g,.int .i64 (Wm t).h,.int .i64 (Wm t).i],true)
 | _=>none
theorem j5y {S:Specs} (hS:Zu prog S):Zu prog (S.with v5n fFax):=by
 refine z0v hS (by kernel_rfl) fun args v h=> ?_;unfold fFax at h;split at h
 ·rename_i t;simp only [Ae,Ad,BV] at h;subst h;obtain ⟨N,hN⟩:=j4o t;exact ⟨_,_,(.cons (.refl _) .nil),rfl,u3n t N _ hN,3,rfl⟩
 ·cases h
def Nb :Specs:=Na.with v5n fFax
theorem Nb_ok :Zu prog Nb:=j5y j7g
inductive fimS where
def fimC (aL:Int) (aN:Int) (aM:Int) (aS:Int) (aJ:Int) (aH:Int) (aI:Int):fimS→Cfg
 :=nofun
def w1d (aL:Int) (aN:Int) (aM:Int) (aS:Int) (aJ:Int) (aH:Int) (aI:Int):fimS→Xp fimS
 :=nofun
def x2s (aL:Int) (aN:Int) (aM:Int) (aS:Int) (aJ:Int) (aH:Int) (aI:Int):Xp fimS:=(.ret [(.agg [(.int .i64 (wrap .i64 ((wrap .i64 ((wrap .i64 ((wrap .i64 (aJ*(Wm aL).a))+(wrap .i64 (aH*(Wm aL).d))))+(wrap .i64 (aI*(Wm aL).g))))+aN))),(.int .i64 (wrap .i64 ((wrap .i64 ((wrap .i64 ((wrap .i64 (aJ*(Wm aL).b))+(wrap .i64 (aH*(Wm aL).e))))+(wrap .i64 (aI*(Wm aL).h))))+aM))),(.int .i64 (wrap .i64 ((wrap .i64 ((wrap .i64 ((wrap .i64 (aJ*(Wm aL).c))+(wrap .i64 (aH*(Wm aL).f))))+(wrap .i64 (aI*(Wm aL).i))))+aS)))])])
theorem v0d (aL:Int) (aN:Int) (aM:Int) (aS:Int) (aJ:Int) (aH:Int) (aI:Int): ∀s,Yr prog (Zy prog 139) (fimC aL aN aM aS aJ aH aI) (fimC aL aN aM aS aJ aH aI s) (w1d aL aN aM aS aJ aH aI s)
 :=nofun
theorem w1e (aL:Int) (aN:Int) (aM:Int) (aS:Int) (aJ:Int) (aH:Int) (aI:Int):Yr prog (Zy prog 139) (fimC aL aN aM aS aJ aH aI) (Zb prog 139 [(.agg [(.int .u8 aL),(.int .i64 aN),(.int .i64 aM),(.int .i64 aS)]),(.agg [(.int .i64 aJ),(.int .i64 aH),(.int .i64 aI)])] true []) (x2s aL aN aM aS aJ aH aI):=(Vc ⟨⟨29,0,true⟩,none,(Zd prog 3 [1,1,1,1,1,1,1,0] 1),none,(Zy prog 39),⟨Yb [(4,(.ptr 0 0))],Vb [⟨[(ii (wr ((wr ((wr ((wr (aJ*(Wm aL).a))+(wr (aH*(Wm aL).d))))+(wr (aI*(Wm aL).g))))+aN))),(ii (wr ((wr ((wr ((wr (aJ*(Wm aL).b))+(wr (aH*(Wm aL).e))))+(wr (aI*(Wm aL).h))))+aM))),(ii (wr ((wr ((wr ((wr (aJ*(Wm aL).c))+(wr (aH*(Wm aL).f))))+(wr (aI*(Wm aL).i))))+aS)))],55,none⟩] 0,1,[],true⟩,[],.leaf⟩ (sl Nb_ok 31 [] ⟨[2],[],[some [4]],[]⟩ ⟨[],[],[]⟩ [] nn) rfl (by kernel_rfl))
theorem u3k (aL:Int) (aN:Int) (aM:Int) (aS:Int) (aJ:Int) (aH:Int) (aI:Int) (n:Nat) (vs:List AVal) (h:Yz (w1d aL aN aM aS aJ aH aI) n (x2s aL aN aM aS aJ aH aI)=.ret vs):Ji prog (Zy prog 139) (Zb prog 139 [(.agg [(.int .u8 aL),(.int .i64 aN),(.int .i64 aM),(.int .i64 aS)]),(.agg [(.int .i64 aJ),(.int .i64 aH),(.int .i64 aI)])] true []) vs:=by have:=Ze (v0d aL aN aM aS aJ aH aI) n _ (w1e aL aN aM aS aJ aH aI);rwa [h] at this
def z7l (t a b c x y z:Int):R3:=⟨wrap .i64 (wrap .i64 (wrap .i64 (wrap .i64 (x*(Wm t).a)+wrap .i64 (y*(Wm t).d))+wrap .i64 (z*(Wm t).g))+a),wrap .i64 (wrap .i64 (wrap .i64 (wrap .i64 (x*(Wm t).b)+wrap .i64 (y*(Wm t).e))+wrap .i64 (z*(Wm t).h))+b),wrap .i64 (wrap .i64 (wrap .i64 (wrap .i64 (x*(Wm t).c)+wrap .i64 (y*(Wm t).f))+wrap .i64 (z*(Wm t).i))+c)⟩
theorem j4i (t a b c x y z:Int): ∃N,Yz (w1d t a b c x y z) N (x2s t a b c x y z)=.ret [.agg [.int .i64 (z7l t a b c x y z).a,.int .i64 (z7l t a b c x y z).b,.int .i64 (z7l t a b c x y z).c]]:=⟨0,rfl⟩
def fFim :List AVal→Option (AVal×Bool)
 | [.agg [.int .u8 t,.int .i64 a,.int .i64 b,.int .i64 c],.agg [.int .i64 x,.int .i64 y,.int .i64 z]]=>some (.agg [.int .i64 (z7l t a b c x y z).a,.int .i64 (z7l t a b c x y z).b,.int .i64 (z7l t a b c x y z).c],true)
 | _=>none
theorem j5v {S:Specs} (hS:Zu prog S):Zu prog (S.with w4r fFim):=by
 refine z0v hS (by kernel_rfl) fun args v h=> ?_;unfold fFim at h;split at h
 ·rename_i t a b c x y z;simp only [Ae,Ad,BV] at h;subst h;obtain ⟨N,hN⟩:=j4i t a b c x y z;exact ⟨_,_,(.cons (.refl _) (.cons (.refl _) .nil)),rfl,u3k t a b c x y z N _ hN,3,rfl⟩
 ·cases h
def Nc :Specs:=Nb.with w4r fFim
theorem w3a :Zu prog Nc:=j5v Nb_ok
inductive fapS where
def fapC (aL:Int) (aN:Int) (aM:Int) (aS:Int) (aJ:Int) (aH:Int) (aI:Int):fapS→Cfg
 :=nofun
def w1l (aL:Int) (aN:Int) (aM:Int) (aS:Int) (aJ:Int) (aH:Int) (aI:Int):fapS→Xp fapS
 :=nofun
def y4a (aL:Int) (aN:Int) (aM:Int) (aS:Int) (aJ:Int) (aH:Int) (aI:Int):Xp fapS:=(bif ((x3r aL aN aM aS) != 0) then (.ret [(.agg [(.int .i64 0),(.int .i64 0),(.int .i64 0)]),(.int .i64 (x3r aL aN aM aS))]) else (bif (decide ((Jm (Jm aJ aH) aI)≥(-1000000))) then (bif (!(decide ((Jg (Jg aJ aH) aI)≤1000000))) then (.ret [(.agg [(.int .i64 0),(.int .i64 0),(.int .i64 0)]),(.int .i64 2)]) else (bif (decide ((Jm (Jm (z7l aL aN aM aS aJ aH aI).a (z7l aL aN aM aS aJ aH aI).b) (z7l aL aN aM aS aJ aH aI).c)≥(-1000000))) then (bif (!(decide ((Jg (Jg (z7l aL aN aM aS aJ aH aI).a (z7l aL aN aM aS aJ aH aI).b) (z7l aL aN aM aS aJ aH aI).c)≤1000000))) then (.ret [(.agg [(.int .i64 0),(.int .i64 0),(.int .i64 0)]),(.int .i64 16)]) else (.ret [(.agg [(.int .i64 (z7l aL aN aM aS aJ aH aI).a),(.int .i64 (z7l aL aN aM aS aJ aH aI).b),(.int .i64 (z7l aL aN aM aS aJ aH aI).c)]),(.int .i64 0)])) else (.ret [(.agg [(.int .i64 0),(.int .i64 0),(.int .i64 0)]),(.int .i64 16)]))) else (.ret [(.agg [(.int .i64 0),(.int .i64 0),(.int .i64 0)]),(.int .i64 2)])))
theorem v0h (aL:Int) (aN:Int) (aM:Int) (aS:Int) (aJ:Int) (aH:Int) (aI:Int): ∀s,Yr prog (Zy prog 97) (fapC aL aN aM aS aJ aH aI) (fapC aL aN aM aS aJ aH aI s) (w1l aL aN aM aS aJ aH aI s)
 :=nofun
theorem w1m (aL:Int) (aN:Int) (aM:Int) (aS:Int) (aJ:Int) (aH:Int) (aI:Int):Yr prog (Zy prog 97) (fapC aL aN aM aS aJ aH aI) (Zb prog 97 [(.agg [(.int .u8 aL),(.int .i64 aN),(.int .i64 aM),(.int .i64 aS)]),(.agg [(.int .i64 aJ),(.int .i64 aH),(.int .i64 aI)])] true []) (y4a aL aN aM aS aJ aH aI):=(lb (fun k0=>(Vc ⟨⟨25,0,true⟩,none,(Zd prog 97 [1,0,1,1,0,0] 1),none,(Zy prog 97),⟨Yb [(4,(.ptr 0 0)),(5,(ii (x3r aL aN aM aS)))],Vb [⟨[(ii 0),(ii 0),(ii 0)],55,none⟩] 0,1,[],true⟩,[],.leaf⟩ (sl w3a 27 [] ⟨[2],[],[some [4,5]],[]⟩ ⟨[],[],[]⟩ [true] (tt k0 nn)) rfl (by kernel_rfl))) (fun k0=>(lb (fun k1=>(lb (fun k2=>(Vc ⟨⟨25,0,true⟩,none,(Zd prog 97 [1,1,0,1,0,0] 1),none,(Zy prog 97),⟨Yb [(4,(.ptr 0 0)),(5,(ii 2))],Vb [⟨[(ii 0),(ii 0),(ii 0)],55,none⟩] 0,1,[],true⟩,[],.leaf⟩ (sl w3a 64 [] ⟨[2],[],[some [4,5]],[]⟩ ⟨[],[],[]⟩ [false,true,true,true,true,true,true,true,true,true] (tt k2 (tt k1 (tt k0 nn)))) rfl (by kernel_rfl))) (fun k2=>(lb (fun k3=>(lb (fun k4=>(Vc ⟨⟨25,0,true⟩,none,(Zd prog 97 [1,1,1,1,0,1,0,0] 1),none,(Zy prog 97),⟨Yb [(4,(.ptr 0 0)),(5,(ii 16))],Vb [⟨[(ii 0),(ii 0),(ii 0)],55,none⟩] 0,1,[],true⟩,[],.leaf⟩ (sl w3a 109 [] ⟨[2],[],[some [4,5]],[]⟩ ⟨[],[],[]⟩ [false,true,true,true,true,true,true,true,true,false,true,true,true,true,true,true,true,true,true] (tt k4 (tt k3 (tt k2 (tt k1 (tt k0 nn)))))) rfl (by kernel_rfl))) (fun k4=>(Vc ⟨⟨25,0,true⟩,none,(Zd prog 3 [1,1,1,1,1,1,1,0] 1),none,(Zy prog 97),⟨Yb [(4,(.ptr 0 0)),(5,(ii 0))],Vb [⟨[(ii (z7l aL aN aM aS aJ aH aI).a),(ii (z7l aL aN aM aS aJ aH aI).b),(ii (z7l aL aN aM aS aJ aH aI).c)],55,none⟩] 0,1,[],true⟩,[],.leaf⟩ (sl w3a 110 [] ⟨[2],[],[some [4,5]],[]⟩ ⟨[],[],[]⟩ [false,true,true,true,true,true,true,true,true,false,true,true,true,true,true,true,true,true,false] (tt k4 (tt k3 (tt k2 (tt k1 (tt k0 nn)))))) rfl (by kernel_rfl))))) (fun k3=>(Vc ⟨⟨25,0,true⟩,none,(Zd prog 97 [1,1,1,1,0,1,0,0] 1),none,(Zy prog 97),⟨Yb [(4,(.ptr 0 0)),(5,(ii 16))],Vb [⟨[(ii 0),(ii 0),(ii 0)],55,none⟩] 0,1,[],true⟩,[],.leaf⟩ (sl w3a 109 [] ⟨[2],[],[some [4,5]],[]⟩ ⟨[],[],[]⟩ [false,true,true,true,true,true,true,true,true,false,false,false,false,false,false,false,false,false,true] (tt k3 (tt k2 (tt k1 (tt k0 nn))))) rfl (by kernel_rfl))))))) (fun k1=>(Vc ⟨⟨25,0,true⟩,none,(Zd prog 97 [1,1,0,1,0,0] 1),none,(Zy prog 97),⟨Yb [(4,(.ptr 0 0)),(5,(ii 2))],Vb [⟨[(ii 0),(ii 0),(ii 0)],55,none⟩] 0,1,[],true⟩,[],.leaf⟩ (sl w3a 64 [] ⟨[2],[],[some [4,5]],[]⟩ ⟨[],[],[]⟩ [false,false,false,false,false,false,false,false,false,true] (tt k1 (tt k0 nn))) rfl (by kernel_rfl))))))
theorem u3o (aL:Int) (aN:Int) (aM:Int) (aS:Int) (aJ:Int) (aH:Int) (aI:Int) (n:Nat) (vs:List AVal) (h:Yz (w1l aL aN aM aS aJ aH aI) n (y4a aL aN aM aS aJ aH aI)=.ret vs):Ji prog (Zy prog 97) (Zb prog 97 [(.agg [(.int .u8 aL),(.int .i64 aN),(.int .i64 aM),(.int .i64 aS)]),(.agg [(.int .i64 aJ),(.int .i64 aH),(.int .i64 aI)])] true []) vs:=by have:=Ze (v0h aL aN aM aS aJ aH aI) n _ (w1m aL aN aM aS aJ aH aI);rwa [h] at this
def z4g (t a b c x y z:Int):Int:=bif x3r t a b c != 0 then x3r t a b c else bif x2r x y z then (bif x2r (z7l t a b c x y z).a (z7l t a b c x y z).b (z7l t a b c x y z).c then 0 else 16) else 2
def Yf (t a b c x y z:Int):R3:=bif z4g t a b c x y z != 0 then ⟨0,0,0⟩ else z7l t a b c x y z
theorem j4p (t a b c x y z:Int): ∃N,Yz (w1l t a b c x y z) N (y4a t a b c x y z)=.ret [.agg [.int .i64 (Yf t a b c x y z).a,.int .i64 (Yf t a b c x y z).b,.int .i64 (Yf t a b c x y z).c],.int .i64 (z4g t a b c x y z)]:=⟨0,by
 unfold y4a Yf z4g x2r;rcases Yp (x3r t a b c != 0) with q | q <;> rw [q]
 ·simp only [Ab,q];rfl
 ·cases decide (Jm (Jm x y) z≥(-1000000)) <;> cases decide (Jg (Jg x y) z≤1000000) <;> cases decide (Jm (Jm (z7l t a b c x y z).a (z7l t a b c x y z).b) (z7l t a b c x y z).c ≥(-1000000)) <;> cases decide (Jg (Jg (z7l t a b c x y z).a (z7l t a b c x y z).b) (z7l t a b c x y z).c ≤1000000) <;> rfl⟩
def fFap :List AVal→Option (AVal×Bool)
 | [.agg [.int .u8 t,.int .i64 a,.int .i64 b,.int .i64 c],.agg [.int .i64 x,.int .i64 y,.int .i64 z]]=>some (.tup [.agg [.int .i64 (Yf t a b c x y z).a,.int .i64 (Yf t a b c x y z).b,.int .i64 (Yf t a b c x y z).c],.int .i64 (z4g t a b c x y z)],true)
 | _=>none
theorem j5z {S:Specs} (hS:Zu prog S):Zu prog (S.with w4t fFap):=by
 refine z0v hS (by kernel_rfl) fun args v h=> ?_;unfold fFap at h;split at h
 ·rename_i t a b c x y z;simp only [Ae,Ad,BV] at h;subst h;obtain ⟨N,hN⟩:=j4p t a b c x y z;exact ⟨_,_,(.cons (.refl _) (.cons (.refl _) .nil)),rfl,u3o t a b c x y z N _ hN,3,rfl⟩
 ·cases h
def Nd :Specs:=Nc.with w4t fFap
theorem x6u :Zu prog Nd:=j5z w3a
inductive plcS where
 | h0 (v8:List R6) (v27:Int)
abbrev y9l (v8:List R6) (aJ:Int) (aH:Int) (aI:Int) (aP:Int) (l0:List R6) (v27:Int):=(v8++[(R6.mk (Jm (Yf aJ aH aI aP (rd l0 (tn v27)).a (rd l0 (tn v27)).b (rd l0 (tn v27)).c).a (Yf aJ aH aI aP (rd l0 (tn v27)).d (rd l0 (tn v27)).e (rd l0 (tn v27)).f).a) (Jm (Yf aJ aH aI aP (rd l0 (tn v27)).a (rd l0 (tn v27)).b (rd l0 (tn v27)).c).b (Yf aJ aH aI aP (rd l0 (tn v27)).d (rd l0 (tn v27)).e (rd l0 (tn v27)).f).b) (Jm (Yf aJ aH aI aP (rd l0 (tn v27)).a (rd l0 (tn v27)).b (rd l0 (tn v27)).c).c (Yf aJ aH aI aP (rd l0 (tn v27)).d (rd l0 (tn v27)).e (rd l0 (tn v27)).f).c) (Jg (Yf aJ aH aI aP (rd l0 (tn v27)).a (rd l0 (tn v27)).b (rd l0 (tn v27)).c).a (Yf aJ aH aI aP (rd l0 (tn v27)).d (rd l0 (tn v27)).e (rd l0 (tn v27)).f).a) (Jg (Yf aJ aH aI aP (rd l0 (tn v27)).a (rd l0 (tn v27)).b (rd l0 (tn v27)).c).b (Yf aJ aH aI aP (rd l0 (tn v27)).d (rd l0 (tn v27)).e (rd l0 (tn v27)).f).b) (Jg (Yf aJ aH aI aP (rd l0 (tn v27)).a (rd l0 (tn v27)).b (rd l0 (tn v27)).c).c (Yf aJ aH aI aP (rd l0 (tn v27)).d (rd l0 (tn v27)).e (rd l0 (tn v27)).f).c))])
abbrev u7l (v8:List R6) (aJ:Int) (aH:Int) (aI:Int) (aP:Int) (l0:List R6) (v27:Int):=(Zi (Zz v8) 0 v8.length 6 [(ii (Jm (Yf aJ aH aI aP (rd l0 (tn v27)).a (rd l0 (tn v27)).b (rd l0 (tn v27)).c).a (Yf aJ aH aI aP (rd l0 (tn v27)).d (rd l0 (tn v27)).e (rd l0 (tn v27)).f).a)),(ii (Jm (Yf aJ aH aI aP (rd l0 (tn v27)).a (rd l0 (tn v27)).b (rd l0 (tn v27)).c).b (Yf aJ aH aI aP (rd l0 (tn v27)).d (rd l0 (tn v27)).e (rd l0 (tn v27)).f).b)),(ii (Jm (Yf aJ aH aI aP (rd l0 (tn v27)).a (rd l0 (tn v27)).b (rd l0 (tn v27)).c).c (Yf aJ aH aI aP (rd l0 (tn v27)).d (rd l0 (tn v27)).e (rd l0 (tn v27)).f).c)),(ii (Jg (Yf aJ aH aI aP (rd l0 (tn v27)).a (rd l0 (tn v27)).b (rd l0 (tn v27)).c).a (Yf aJ aH aI aP (rd l0 (tn v27)).d (rd l0 (tn v27)).e (rd l0 (tn v27)).f).a)),(ii (Jg (Yf aJ aH aI aP (rd l0 (tn v27)).a (rd l0 (tn v27)).b (rd l0 (tn v27)).c).b (Yf aJ aH aI aP (rd l0 (tn v27)).d (rd l0 (tn v27)).e (rd l0 (tn v27)).f).b)),(ii (Jg (Yf aJ aH aI aP (rd l0 (tn v27)).a (rd l0 (tn v27)).b (rd l0 (tn v27)).c).c (Yf aJ aH aI aP (rd l0 (tn v27)).d (rd l0 (tn v27)).e (rd l0 (tn v27)).f).c))])
def plcC (l0:List R6) (aJ:Int) (aH:Int) (aI:Int) (aP:Int):plcS→Cfg
 | .h0 v8 v27=>⟨⟨92,0,true⟩,none,(Zd prog 50 [1,1,1,1,0,1,0,0] 0),none,(Zy prog 28),⟨Yb [(3,(.ptr 0 0)),(8,(.sla 1 6 0 v8.length (.un 6))),(25,(.dat l0.length (Zz l0))),(26,(ii (l0.length:Int))),(27,(ii v27))],Vb [⟨[(.int .u8 aJ),(ii aH),(ii aI),(ii aP)],73,none⟩,⟨rows v8.length (Zz v8),67,some ⟨6,v8.length,(Zz v8)⟩⟩] 0,2,[],true⟩,[],.leaf⟩
def plcN0 :List (Option (List Nat)):=[some [3,8,25,26,27]]
def plcM0 :List (Option (List Nat)):=[]
def z4y (l0:List R6) (aJ:Int) (aH:Int) (aI:Int) (aP:Int):plcS→Xp plcS
 | .h0 v8 v27=>(bif (decide (v27<(l0.length:Int))) then (bif ((decide (0≤v27∧v27<(l0.length:Int)))&&true) then (bif ((z4g aJ aH aI aP (rd l0 v27.toNat).a (rd l0 v27.toNat).b (rd l0 v27.toNat).c) != 0) then (.ret [.nils,(.int .i64 16)]) else (bif ((z4g aJ aH aI aP (rd l0 v27.toNat).d (rd l0 v27.toNat).e (rd l0 v27.toNat).f) != 0) then (.ret [.nils,(.int .i64 16)]) else (bif (Nat.beq 6 6&&((decide (0+v8.length=v8.length))&&decide ((v8.length+1+1)*(48+1)≤Jd))) then (.to (.h0 (v8++[(R6.mk (Jm (Yf aJ aH aI aP (rd l0 v27.toNat).a (rd l0 v27.toNat).b (rd l0 v27.toNat).c).a (Yf aJ aH aI aP (rd l0 v27.toNat).d (rd l0 v27.toNat).e (rd l0 v27.toNat).f).a) (Jm (Yf aJ aH aI aP (rd l0 v27.toNat).a (rd l0 v27.toNat).b (rd l0 v27.toNat).c).b (Yf aJ aH aI aP (rd l0 v27.toNat).d (rd l0 v27.toNat).e (rd l0 v27.toNat).f).b) (Jm (Yf aJ aH aI aP (rd l0 v27.toNat).a (rd l0 v27.toNat).b (rd l0 v27.toNat).c).c (Yf aJ aH aI aP (rd l0 v27.toNat).d (rd l0 v27.toNat).e (rd l0 v27.toNat).f).c) (Jg (Yf aJ aH aI aP (rd l0 v27.toNat).a (rd l0 v27.toNat).b (rd l0 v27.toNat).c).a (Yf aJ aH aI aP (rd l0 v27.toNat).d (rd l0 v27.toNat).e (rd l0 v27.toNat).f).a) (Jg (Yf aJ aH aI aP (rd l0 v27.toNat).a (rd l0 v27.toNat).b (rd l0 v27.toNat).c).b (Yf aJ aH aI aP (rd l0 v27.toNat).d (rd l0 v27.toNat).e (rd l0 v27.toNat).f).b) (Jg (Yf aJ aH aI aP (rd l0 v27.toNat).a (rd l0 v27.toNat).b (rd l0 v27.toNat).c).c (Yf aJ aH aI aP (rd l0 v27.toNat).d (rd l0 v27.toNat).e (rd l0 v27.toNat).f).c))]) (wrap .i64 (v27+1)))) else .stuck))) else .stuck) else (bif (z1w (cvT v8)) then (.ret [(.dat (Xk (cvT v8)).length (Zz (Xk (cvT v8)))),(.int .i64 (Vd (cvT v8)))]) else .stuck))
def y3e (l0:List R6) (aJ:Int) (aH:Int) (aI:Int) (aP:Int):Xp plcS:=(bif (Ks (cvT l0)) then (bif ((Yo (cvT l0)) != 0) then (.ret [.nils,(.int .i64 (Yo (cvT l0)))]) else (bif ((x3r aJ aH aI aP) != 0) then (.ret [.nils,(.int .i64 (x3r aJ aH aI aP))]) else (.to (.h0 ([]:List R6) 0)))) else .stuck)
theorem w8p (l0:List R6) (aJ:Int) (aH:Int) (aI:Int) (aP:Int): ∀s,Yr prog (Zy prog 50) (plcC l0 aJ aH aI aP) (plcC l0 aJ aH aI aP s) (z4y l0 aJ aH aI aP s)
 | .h0 v8 v27=>(lb (fun k0=>(lo fun aG=>(lb (fun k1=>(lr 92 50 [1,1,1,1,0,1,0,0,1,1,0,0,1,1,1,0,1,0,0] 1 28 [(4,.nils),(5,(ii 16))] (sl x6u 58 [] ⟨[],[],[some [4,5]],[]⟩ ⟨[],[],[]⟩ (trs 4 []) (tt k1 (ww aG (tt k0 nn)))))) (fun k1=>(lb (fun k2=>(lr 92 50 [1,1,1,1,0,1,0,0,1,1,0,0,1,1,1,0,1,0,0] 1 28 [(4,.nils),(5,(ii 16))] (sl x6u 58 [] ⟨[],[],[some [4,5]],[]⟩ ⟨[],[],[]⟩ (bl 4 9) (tt k2 (tt k1 (ww aG (tt k0 nn))))))) (fun k2=>(lo fun o0=>(sl x6u 99 [] ⟨[0,6],[],plcN0,plcM0⟩ ⟨[(8,.len (y9l v8 aJ aH aI aP l0 v27).length)],[.keep,.rowed 6 (y9l v8 aJ aH aI aP l0 v27).length (Zz (y9l v8 aJ aH aI aP l0 v27))],[]⟩ (bl 4 1) (pp (xL (v8.length+1) (y9l v8 aJ aH aI aP l0 v27).length) (pp (xL (v8.length+1) (y9l v8 aJ aH aI aP l0 v27).length) (pp (xS (v8.length+1) (u7l v8 aJ aH aI aP l0 v27) (Zz (y9l v8 aJ aH aI aP l0 v27))) (pp (pp (xF (u7l v8 aJ aH aI aP l0 v27)) nn) (ww o0 (tt k2 (tt k1 (ww aG (tt k0 nn))))))))))))))))) (fun k0=>(Wo (sl x6u (C':=⟨⟨92,0,true⟩,(Jb prog 50 [1,1,1,1,1,0] 1),(Zd prog 50 [1,1,1,1,1,0] 1),none,(Zy prog 28),⟨Yb [(88,(.dat v8.length (Zz v8)))],Vb [] 0,0,[],true⟩,[],.leaf⟩) 10 [] ⟨[],[1],[some [88]],[]⟩ ⟨[(88,.frz v8.length v8.length (Zz v8) (Zz v8))],[],[]⟩ [false] (pp (xZ (z6j 6 6 0 v8.length v8.length (Zz v8)) v8.length (Zz v8)) (pp (xL v8.length v8.length) (pp (xS v8.length (Zz v8) (Zz v8)) (pp (fl v8 nn) (tt k0 nn)))))) (lo fun o0=>(lr 92 3 [1,1,1,1,1,1,1,0] 1 28 [(4,(.dat (Xk (cvT v8)).length (Zz (Xk (cvT v8))))),(5,(ii (Vd (cvT v8))))] (sl x6u 6 [] ⟨[],[],[some [4,5]],[]⟩ ⟨[],[],[]⟩ [] (pp (pp (xr v8) (xw o0)) nn)))))))
theorem x9g (l0:List R6) (aJ:Int) (aH:Int) (aI:Int) (aP:Int):Yr prog (Zy prog 50) (plcC l0 aJ aH aI aP) (Zb prog 50 [(.dat l0.length (Zz l0)),(.agg [(.int .u8 aJ),(.int .i64 aH),(.int .i64 aI),(.int .i64 aP)])] true []) (y3e l0 aJ aH aI aP):=(lo fun bQ=>(lb (fun k0=>(lr 92 50 [1,0,1,1,0,0] 1 28 [(4,.nils),(5,(ii (Yo (cvT l0))))] (sl x6u 25 [] ⟨[],[],[some [4,5]],[]⟩ ⟨[],[],[]⟩ [true] (tt k0 (pp (pp (xr l0) (xw bQ)) nn))))) (fun k0=>(lb (fun k1=>(lr 92 50 [1,1,0,1,1,0,0] 1 28 [(4,.nils),(5,(ii (x3r aJ aH aI aP)))] (sl x6u 39 [] ⟨[],[],[some [4,5]],[]⟩ ⟨[],[],[]⟩ [false,true] (tt k1 (tt k0 (pp (pp (xr l0) (xw bQ)) nn)))))) (fun k1=>(sl x6u 47 [(67,6,Zz ([]:List R6))] ⟨[0,1],[],plcN0,plcM0⟩ ⟨[(8,.grow 1 6)],[],[]⟩ [false,false] (pp (fl ([]:List R6) nn) (tt k1 (tt k0 (pp (pp (xr l0) (xw bQ)) nn))))))))))
theorem u1m (l0:List R6) (aJ:Int) (aH:Int) (aI:Int) (aP:Int) (n:Nat) (vs:List AVal) (h:Yz (z4y l0 aJ aH aI aP) n (y3e l0 aJ aH aI aP)=.ret vs):Ji prog (Zy prog 50) (Zb prog 50 [(.dat l0.length (Zz l0)),(.agg [(.int .u8 aJ),(.int .i64 aH),(.int .i64 aI),(.int .i64 aP)])] true []) vs:=by have:=Ze (w8p l0 aJ aH aI aP) n _ (x9g l0 aJ aH aI aP);rwa [h] at this
def bxP (t a b c:Int) (r:R6):R6:=⟨Jm (Yf t a b c r.a r.b r.c).a (Yf t a b c r.d r.e r.f).a,Jm (Yf t a b c r.a r.b r.c).b (Yf t a b c r.d r.e r.f).b,Jm (Yf t a b c r.a r.b r.c).c (Yf t a b c r.d r.e r.f).c,Jg (Yf t a b c r.a r.b r.c).a (Yf t a b c r.d r.e r.f).a,Jg (Yf t a b c r.a r.b r.c).b (Yf t a b c r.d r.e r.f).b,Jg (Yf t a b c r.a r.b r.c).c (Yf t a b c r.d r.e r.f).c⟩
def okP (t a b c:Int) (r:R6):Bool:= !(z4g t a b c r.a r.b r.c != 0)&& !(z4g t a b c r.d r.e r.f != 0)
def Ka (L:List R6) (t a b c:Int):Int:=bif Yo L != 0 then Yo L else bif x3r t a b c != 0 then x3r t a b c else bif L.all (okP t a b c) then Vd (L.map (bxP t a b c)) else 16
def Wi (L:List R6) (t a b c:Int):List R6:=bif Yo L != 0 then [] else bif x3r t a b c != 0 then [] else bif L.all (okP t a b c) then Xk (L.map (bxP t a b c)) else []
def y5d (L:List R6) (t a b c:Int):Bool:=true
def plcR (L M:List R6) (t a b c:Int):List AVal:=bif M.all (okP t a b c) then [.dat (Xk (L.map (bxP t a b c))).length (Zz (Xk (L.map (bxP t a b c)))),.int .i64 (Vd (L.map (bxP t a b c)))] else [.nils,.int .i64 16]
theorem u7k (L:List R6) (hl:L.length≤400) (t a b c:Int): ∀(k i:Nat) (acc:List R6),i+k=L.length→acc=(L.take i).map (bxP t a b c)→ ∃N,Yz (z4y L t a b c) N (.to (.h0 acc (i:Int)))=.ret (plcR L (L.drop i) t a b c)
 | 0,i,acc,h,ha=>by
  refine ⟨1,?_⟩;have:i=L.length:=by omega
  subst this;rw [Zv,Av (Aq _)];rw [List.take_length] at ha;subst ha;have g:decide ((L.length:Int)<(L.length:Int))=false:=Ay (by omega);simp only [z4y,Zm,g,show∀l,z1w l=true from fun _=>rfl,Ab,Aa];rfl
 | k+1,i,acc,h,ha=>by
  have hi:i<L.length:=by omega
  have fM:acc.length=i:=by rw [ha,A3,Bm];omega
  obtain ⟨N,hN⟩:=u7k L hl t a b c k (i+1) (acc++[bxP t a b c (rd L i)]) (by omega) (by
   rw [ha,Bg,As hi,Bf,Xz hi];rfl)
  refine ⟨N+1,?_⟩;have g1:decide ((i:Int)<(L.length:Int))=true:=Ah (by omega);have g2:decide (0≤(i:Int)∧(i:Int)<(L.length:Int))=true:=Ah (by omega);have w3:wrap .i64 ((i:Int)+1)=((i+1:Nat):Int):=by rw [Zq (by omega)];rfl
  have r1:decide ((acc.length+1+1)*(48+1)≤Jd)=true:=Zh (by omega);have l1:decide (0+acc.length=acc.length)=true:=Ah (by omega);have b6:Nat.beq 6 6=true:=rfl;rw [Zv,Yq hi];unfold plcR at hN ⊢;rw [List.all_cons];unfold bxP at hN;unfold okP at hN ⊢;rcases Yp (z4g t a b c (rd L i).a (rd L i).b (rd L i).c != 0) with q1 | q1
  ·simp only [z4y,Zm,g1,g2,Zj,q1,Ai,AC,Bs,Ab,Aa,Za]
  rcases Yp (z4g t a b c (rd L i).d (rd L i).e (rd L i).f != 0) with q2 | q2
  ·simp only [z4y,Zm,g1,g2,Zj,q1,q2,Ai,AC,AH,Bool.and_false,Bs,Ab,Aa,Za]
  simp only [z4y,Zm,g1,g2,w3,Zj,q1,q2,r1,l1,b6,Ai,An,AH,Ab,Aa];exact hN
theorem j2o (L:List R6) (t a b c:Int): ∃n vs,Yz (z4y L t a b c) n (y3e L t a b c)=.ret vs∧(∀(ρ:Rho) (u:Value),VRel ρ (Jo vs) u→VRel ρ (.tup [.dat (Wi L t a b c).length (Zz (Wi L t a b c)),.int .i64 (Ka L t a b c)]) u)∧ ∃d,pf d (Jo vs)=true:=by
 unfold y3e;simp only [Zm,show∀l,Ks l=true from fun _=>rfl,Ab];rcases Yp (Yo L != 0) with q1 | q1
 ·refine ⟨0,_,by rw [q1,Ab];rfl,?_,3,rfl⟩;unfold Wi Ka;rw [q1,Ab,Ab];exact fun ρ u hu=>z1u (.cons (.nild _) (.cons (.refl _) .nil)) ρ u hu
 rcases Yp (x3r t a b c != 0) with q2 | q2
 ·refine ⟨0,_,by rw [q1,q2,Aa,Ab];rfl,?_,3,rfl⟩;unfold Wi Ka;rw [q1,q2,Aa,Ab,Aa,Ab];exact fun ρ u hu=>z1u (.cons (.nild _) (.cons (.refl _) .nil)) ρ u hu
 obtain ⟨N,hN⟩:=u7k L (y8x q1) t a b c L.length 0 [] (Ag _) rfl;rw [A0] at hN;refine ⟨N,plcR L L t a b c,by rw [q1,q2,Aa,Aa];exact hN,?_⟩;unfold Wi Ka plcR;rw [q1,q2,Aa,Aa,Aa,Aa];rcases Yp (L.all (okP t a b c)) with q3 | q3 <;> rw [q3]
 ·exact ⟨fun ρ u hu=>hu,3,rfl⟩
 ·exact ⟨fun ρ u hu=>z1u (.cons (.nild _) (.cons (.refl _) .nil)) ρ u hu,3,rfl⟩
def fPlc :List AVal→Option (AVal×Bool)
 | [a0,.agg [.int .u8 t,.int .i64 a,.int .i64 b,.int .i64 c]]=>match asL R6 a0 with
  | some (L0,g0,n0)=>some (.tup [.dat (Wi L0 t a b c).length (Zz (Wi L0 t a b c)),.int .i64 (Ka L0 t a b c)],isT R6 n0 g0&&y5d L0 t a b c)
  | _=>none
 | _=>none
theorem j5e {S:Specs} (hS:Zu prog S):Zu prog (S.with w4n fPlc):=by
 refine v1m hS (by kernel_rfl) fun args v h=> ?_;unfold fPlc at h;split at h
 ·rename_i a0 t a b c;split at h
  ·rename_i L0 g0 n0 e0;simp only [Ae,Ad,Ac] at h;obtain ⟨rfl,ho0,hw⟩:=h;obtain ⟨N,vs,hN,hv,hp⟩:=j2o L0 t a b c;exact ⟨_,vs,(.cons (asL_le e0 ho0) (.cons (.refl _) .nil)),hv,u1m L0 t a b c N _ hN,hp⟩
  ·cases h
 ·cases h
-- start: index into an array (choices [false, false, false])
inductive marS where
def marC (aL:Int) (aN:Int) (aM:Int) (aS:Int) (bY:Int) (bZ:Int) (cL:Int):marS→Cfg
 :=nofun
def x9y (aL:Int) (aN:Int) (aM:Int) (aS:Int) (bY:Int) (bZ:Int) (cL:Int):marS→Xp marS
 :=nofun
def y3m (aL:Int) (aN:Int) (aM:Int) (aS:Int) (bY:Int) (bZ:Int) (cL:Int):Xp marS:=(bif (decide ((wrap IntKind.u8 (Int.tdiv aL 2))=Int.ofNat 0)) then (.ret [(.int .i64 (wrap .i64 ((wrap .i64 (bZ - aM))*(wrap .i64 (cL - aS)))))]) else (bif (decide ((wrap IntKind.u8 (Int.tdiv aL 2))=Int.ofNat 1)) then (.ret [(.int .i64 (wrap .i64 ((wrap .i64 (bY - aN))*(wrap .i64 (cL - aS)))))]) else (bif (decide ((wrap IntKind.u8 (Int.tdiv aL 2))=Int.ofNat 2)) then (.ret [(.int .i64 (wrap .i64 ((wrap .i64 (bY - aN))*(wrap .i64 (bZ - aM)))))]) else .stuck)))
theorem w9e (aL:Int) (aN:Int) (aM:Int) (aS:Int) (bY:Int) (bZ:Int) (cL:Int): ∀s,Yr prog (Zy prog 91) (marC aL aN aM aS bY bZ cL) (marC aL aN aM aS bY bZ cL s) (x9y aL aN aM aS bY bZ cL s)
 :=nofun
theorem x9z (aL:Int) (aN:Int) (aM:Int) (aS:Int) (bY:Int) (bZ:Int) (cL:Int):Yr prog (Zy prog 91) (marC aL aN aM aS bY bZ cL) (Zb prog 91 [(.agg [(.int .u8 aL),(.int .i64 aN),(.int .i64 aM),(.int .i64 aS),(.int .i64 bY),(.int .i64 bZ),(.int .i64 cL)])] true []) (y3m aL aN aM aS bY bZ cL):=(lb (fun k0=>(lr 25 3 [1,1,1,1,1,1,1,0] 1 3 [(2,(ii (wr ((wr (bZ - aM))*(wr (cL - aS))))))] (sl Vm 22 [] ⟨[],[],[some [2]],[]⟩ ⟨[],[],[]⟩ [false] (ww k0 nn)))) (fun k0=>(lb (fun k1=>(lr 25 3 [1,1,1,1,1,1,1,0] 1 3 [(2,(ii (wr ((wr (bY - aN))*(wr (cL - aS))))))] (sl Vm 22 [] ⟨[],[],[some [2]],[]⟩ ⟨[],[],[]⟩ [true,false] (ww k1 nn)))) (fun k1=>(lb (fun k2=>(lr 25 3 [1,1,1,1,1,1,1,0] 1 3 [(2,(ii (wr ((wr (bY - aN))*(wr (bZ - aM))))))] (sl Vm 22 [] ⟨[],[],[some [2]],[]⟩ ⟨[],[],[]⟩ [true,true,false] (ww k2 nn)))) (fun k2=>trivial))))))
theorem u2j (aL:Int) (aN:Int) (aM:Int) (aS:Int) (bY:Int) (bZ:Int) (cL:Int) (n:Nat) (vs:List AVal) (h:Yz (x9y aL aN aM aS bY bZ cL) n (y3m aL aN aM aS bY bZ cL)=.ret vs):Ji prog (Zy prog 91) (Zb prog 91 [(.agg [(.int .u8 aL),(.int .i64 aN),(.int .i64 aM),(.int .i64 aS),(.int .i64 bY),(.int .i64 bZ),(.int .i64 cL)])] true []) vs:=by have:=Ze (w9e aL aN aM aS bY bZ cL) n _ (x9z aL aN aM aS bY bZ cL);rwa [h] at this
def w9f (a b c d e f g:Int):Int:=wrap .i64 (if a<2 then wrap .i64 (f - c)*wrap .i64 (g - d) else if a<4 then wrap .i64 (e - b)*wrap .i64 (g - d) else wrap .i64 (e - b)*wrap .i64 (f - c))
def Uj (a b c d e f g:Int):Bool:=decide (0≤a)&&decide (a≤5)
theorem j3q (a b c d e f g:Int) (h:Uj a b c d e f g=true): ∃N,Yz (x9y a b c d e f g) N (y3m a b c d e f g)=.ret [.int .i64 (w9f a b c d e f g)]:=⟨0,by
 simp only [Uj,Ac,Al] at h;unfold y3m w9f;have:a=0∨a=1∨a=2∨a=3∨a=4∨a=5:=by omega
 rcases this with rfl | rfl | rfl | rfl | rfl | rfl <;> rfl⟩
def fMar :List AVal→Option (AVal×Bool)
 | [.agg [.int .u8 a,.int .i64 b,.int .i64 c,.int .i64 d,.int .i64 e,.int .i64 f,.int .i64 g]]=>some (.int .i64 (w9f a b c d e f g),Uj a b c d e f g)
 | _=>none
theorem j5n {S:Specs} (hS:Zu prog S):Zu prog (S.with u7s fMar):=by
 refine z0v hS (by kernel_rfl) fun args v h=> ?_;unfold fMar at h;split at h
 ·rename_i a b c d e f g;simp only [Ae,Ad] at h;obtain ⟨rfl,hw⟩:=h;obtain ⟨N,hN⟩:=j3q a b c d e f g hw;exact ⟨_,_,(.cons (.refl _) .nil),rfl,u2j a b c d e f g N _ hN,3,rfl⟩
 ·cases h
def Mm :Specs:=Mi.with u7s fMar
theorem z4m :Zu prog Mm:=j5n Vm
inductive mArS where
 | h0 (v5:Int) (v15:Int)
def mArC (l0:List R7):mArS→Cfg
 | .h0 v5 v15=>⟨⟨25,0,true⟩,none,(Zd prog 45 [1,1,1,0,1,0,0] 0),none,(Zy prog 15),⟨Yb [(5,(ii v5)),(13,(.dat l0.length (Zz l0))),(14,(ii (l0.length:Int))),(15,(ii v15))],Vb [] 0,0,[],true⟩,[],.leaf⟩
def mArN0 :List (Option (List Nat)):=[some [5,13,14,15]]
def mArM0 :List (Option (List Nat)):=[]
def y0c (l0:List R7):mArS→Xp mArS
 | .h0 v5 v15=>(bif (decide (v15<(l0.length:Int))) then (bif ((decide (0≤v15∧v15<(l0.length:Int)))&&true) then (bif (Uj (rd l0 v15.toNat).a (rd l0 v15.toNat).b (rd l0 v15.toNat).c (rd l0 v15.toNat).d (rd l0 v15.toNat).e (rd l0 v15.toNat).f (rd l0 v15.toNat).g) then (.to (.h0 (wrap .i64 (v5+(w9f (rd l0 v15.toNat).a (rd l0 v15.toNat).b (rd l0 v15.toNat).c (rd l0 v15.toNat).d (rd l0 v15.toNat).e (rd l0 v15.toNat).f (rd l0 v15.toNat).g))) (wrap .i64 (v15+1)))) else .stuck) else .stuck) else (.ret [(.int .i64 v5),(.int .i64 0)]))
def y3o (l0:List R7):Xp mArS:=(bif (Vx (cvT l0)) then (bif ((z6h (cvT l0)) != 0) then (.ret [(.int .i64 0),(.int .i64 (z6h (cvT l0)))]) else (.to (.h0 0 0))) else .stuck)
theorem w9i (l0:List R7): ∀s,Yr prog (Zy prog 45) (mArC l0) (mArC l0 s) (y0c l0 s)
 | .h0 v5 v15=>(lb (fun k0=>(lo fun o0=>(lo fun o1=>(sl z4m 29 [] ⟨[],[],mArN0,mArM0⟩ ⟨[],[],[]⟩ [true] (ww o1 (ww o0 (tt k0 nn))))))) (fun k0=>(lr 25 3 [1,1,1,1,1,1,1,0] 1 15 [(2,(ii v5)),(3,(ii 0))] (sl z4m 13 [] ⟨[],[],[some [2,3]],[]⟩ ⟨[],[],[]⟩ [false] (tt k0 nn)))))
theorem w0d (l0:List R7):Yr prog (Zy prog 45) (mArC l0) (Zb prog 45 [(.dat l0.length (Zz l0))] true []) (y3o l0):=(lo fun bQ=>(lb (fun k0=>(lr 25 45 [1,0,1,1,0,0] 1 15 [(2,(ii 0)),(3,(ii (z6h (cvT l0))))] (sl z4m 24 [] ⟨[],[],[some [2,3]],[]⟩ ⟨[],[],[]⟩ [true] (tt k0 (pp (pp (xr l0) (xw bQ)) nn))))) (fun k0=>(sl z4m 32 [] ⟨[],[],mArN0,mArM0⟩ ⟨[],[],[]⟩ [false] (tt k0 (pp (pp (xr l0) (xw bQ)) nn))))))
theorem u2q (l0:List R7) (n:Nat) (vs:List AVal) (h:Yz (y0c l0) n (y3o l0)=.ret vs):Ji prog (Zy prog 45) (Zb prog 45 [(.dat l0.length (Zz l0))] true []) vs:=by have:=Ze (w9i l0) n _ (w0d l0);rwa [h] at this
-- h0: index into an array (choices [true, false, false, false])
inductive mVoS where
 | h0 (v7:Int) (v24:Int)
def mVoC (l0:List R7) (x1:Int):mVoS→Cfg
 | .h0 v7 v24=>⟨⟨61,0,true⟩,none,(Zd prog 46 [1,1,1,1,0,1,0,0] 0),none,(Zy prog 28),⟨Yb [(1,(ii x1)),(7,(ii v7)),(22,(.dat l0.length (Zz l0))),(23,(ii (l0.length:Int))),(24,(ii v24))],Vb [] 0,0,[],true⟩,[],.leaf⟩
def y7s :List (Option (List Nat)):=[some [1,7,22,23,24]]
def y7t :List (Option (List Nat)):=[]
def y0b (l0:List R7) (x1:Int):mVoS→Xp mVoS
 | .h0 v7 v24=>(bif (decide (v24<(l0.length:Int))) then (bif ((decide (0≤v24∧v24<(l0.length:Int)))&&true) then (bif (decide (x1=Int.ofNat 0)) then (bif ((wrap .i64 (rd l0 v24.toNat).a) == (wrap .i64 (2*x1))) then (bif (Uj (rd l0 v24.toNat).a (rd l0 v24.toNat).b (rd l0 v24.toNat).c (rd l0 v24.toNat).d (rd l0 v24.toNat).e (rd l0 v24.toNat).f (rd l0 v24.toNat).g) then (.to (.h0 (wrap .i64 (v7+(wrap .i64 ((w9f (rd l0 v24.toNat).a (rd l0 v24.toNat).b (rd l0 v24.toNat).c (rd l0 v24.toNat).d (rd l0 v24.toNat).e (rd l0 v24.toNat).f (rd l0 v24.toNat).g)*(rd l0 v24.toNat).b)))) (wrap .i64 (v24+1)))) else .stuck) else (bif ((wrap .i64 (rd l0 v24.toNat).a) == (wrap .i64 ((wrap .i64 (2*x1))+1))) then (bif (Uj (rd l0 v24.toNat).a (rd l0 v24.toNat).b (rd l0 v24.toNat).c (rd l0 v24.toNat).d (rd l0 v24.toNat).e (rd l0 v24.toNat).f (rd l0 v24.toNat).g) then (.to (.h0 (wrap .i64 (v7 - (wrap .i64 ((w9f (rd l0 v24.toNat).a (rd l0 v24.toNat).b (rd l0 v24.toNat).c (rd l0 v24.toNat).d (rd l0 v24.toNat).e (rd l0 v24.toNat).f (rd l0 v24.toNat).g)*(rd l0 v24.toNat).b)))) (wrap .i64 (v24+1)))) else .stuck) else (.to (.h0 v7 (wrap .i64 (v24+1)))))) else (bif (decide (x1=Int.ofNat 1)) then (bif ((wrap .i64 (rd l0 v24.toNat).a) == (wrap .i64 (2*x1))) then (bif (Uj (rd l0 v24.toNat).a (rd l0 v24.toNat).b (rd l0 v24.toNat).c (rd l0 v24.toNat).d (rd l0 v24.toNat).e (rd l0 v24.toNat).f (rd l0 v24.toNat).g) then (.to (.h0 (wrap .i64 (v7+(wrap .i64 ((w9f (rd l0 v24.toNat).a (rd l0 v24.toNat).b (rd l0 v24.toNat).c (rd l0 v24.toNat).d (rd l0 v24.toNat).e (rd l0 v24.toNat).f (rd l0 v24.toNat).g)*(rd l0 v24.toNat).c)))) (wrap .i64 (v24+1)))) else .stuck) else (bif ((wrap .i64 (rd l0 v24.toNat).a) == (wrap .i64 ((wrap .i64 (2*x1))+1))) then (bif (Uj (rd l0 v24.toNat).a (rd l0 v24.toNat).b (rd l0 v24.toNat).c (rd l0 v24.toNat).d (rd l0 v24.toNat).e (rd l0 v24.toNat).f (rd l0 v24.toNat).g) then (.to (.h0 (wrap .i64 (v7 - (wrap .i64 ((w9f (rd l0 v24.toNat).a (rd l0 v24.toNat).b (rd l0 v24.toNat).c (rd l0 v24.toNat).d (rd l0 v24.toNat).e (rd l0 v24.toNat).f (rd l0 v24.toNat).g)*(rd l0 v24.toNat).c)))) (wrap .i64 (v24+1)))) else .stuck) else (.to (.h0 v7 (wrap .i64 (v24+1)))))) else (bif (decide (x1=Int.ofNat 2)) then (bif ((wrap .i64 (rd l0 v24.toNat).a) == (wrap .i64 (2*x1))) then (bif (Uj (rd l0 v24.toNat).a (rd l0 v24.toNat).b (rd l0 v24.toNat).c (rd l0 v24.toNat).d (rd l0 v24.toNat).e (rd l0 v24.toNat).f (rd l0 v24.toNat).g) then (.to (.h0 (wrap .i64 (v7+(wrap .i64 ((w9f (rd l0 v24.toNat).a (rd l0 v24.toNat).b (rd l0 v24.toNat).c (rd l0 v24.toNat).d (rd l0 v24.toNat).e (rd l0 v24.toNat).f (rd l0 v24.toNat).g)*(rd l0 v24.toNat).d)))) (wrap .i64 (v24+1)))) else .stuck) else (bif ((wrap .i64 (rd l0 v24.toNat).a) == (wrap .i64 ((wrap .i64 (2*x1))+1))) then (bif (Uj (rd l0 v24.toNat).a (rd l0 v24.toNat).b (rd l0 v24.toNat).c (rd l0 v24.toNat).d (rd l0 v24.toNat).e (rd l0 v24.toNat).f (rd l0 v24.toNat).g) then (.to (.h0 (wrap .i64 (v7 - (wrap .i64 ((w9f (rd l0 v24.toNat).a (rd l0 v24.toNat).b (rd l0 v24.toNat).c (rd l0 v24.toNat).d (rd l0 v24.toNat).e (rd l0 v24.toNat).f (rd l0 v24.toNat).g)*(rd l0 v24.toNat).d)))) (wrap .i64 (v24+1)))) else .stuck) else (.to (.h0 v7 (wrap .i64 (v24+1)))))) else .stuck))) else .stuck) else (.ret [(.int .i64 v7),(.int .i64 0)]))
def y3n (l0:List R7) (x1:Int):Xp mVoS:=(bif (Vx (cvT l0)) then (bif ((z6h (cvT l0)) != 0) then (.ret [(.int .i64 0),(.int .i64 (z6h (cvT l0)))]) else (bif (decide (x1<0)) then (.ret [(.int .i64 0),(.int .i64 2)]) else (bif (decide (x1>2)) then (.ret [(.int .i64 0),(.int .i64 2)]) else (.to (.h0 0 0))))) else .stuck)
theorem w9h (l0:List R7) (x1:Int): ∀s,Yr prog (Zy prog 46) (mVoC l0 x1) (mVoC l0 x1 s) (y0b l0 x1 s)
 | .h0 v7 v24=>(lb (fun k0=>(lo fun aG=>(lb (fun k1=>(lb (fun k2=>(lo fun o0=>(sl z4m 49 [] ⟨[],[],y7s,y7t⟩ ⟨[],[],[]⟩ (bl 3 5) (ww o0 (tt k2 (ww k1 (ww aG (tt k0 nn)))))))) (fun k2=>(lb (fun k3=>(lo fun o0=>(sl z4m 58 [] ⟨[],[],y7s,y7t⟩ ⟨[],[],[]⟩ (bl 4 9) (ww o0 (tt k3 (tt k2 (ww k1 (ww aG (tt k0 nn))))))))) (fun k3=>(sl z4m 50 [] ⟨[],[],y7s,y7t⟩ ⟨[],[],[]⟩ (bl 4 1) (tt k3 (tt k2 (ww k1 (ww aG (tt k0 nn))))))))))) (fun k1=>(lb (fun k2=>(lb (fun k3=>(lo fun o0=>(sl z4m 49 [] ⟨[],[],y7s,y7t⟩ ⟨[],[],[]⟩ (bl 4 11) (ww o0 (tt k3 (ww k2 (ww aG (tt k0 nn)))))))) (fun k3=>(lb (fun k4=>(lo fun o0=>(sl z4m 58 [] ⟨[],[],y7s,y7t⟩ ⟨[],[],[]⟩ (bl 5 19) (ww o0 (tt k4 (tt k3 (ww k2 (ww aG (tt k0 nn))))))))) (fun k4=>(sl z4m 50 [] ⟨[],[],y7s,y7t⟩ ⟨[],[],[]⟩ (bl 5 3) (tt k4 (tt k3 (ww k2 (ww aG (tt k0 nn))))))))))) (fun k2=>(lb (fun k3=>(lb (fun k4=>(lo fun o0=>(sl z4m 49 [] ⟨[],[],y7s,y7t⟩ ⟨[],[],[]⟩ (trs 3 (bl 2 2)) (ww o0 (tt k4 (ww k3 (ww aG (tt k0 nn)))))))) (fun k4=>(lb (fun k5=>(lo fun o0=>(sl z4m 58 [] ⟨[],[],y7s,y7t⟩ ⟨[],[],[]⟩ (trs 3 (bl 3 4)) (ww o0 (tt k5 (tt k4 (ww k3 (ww aG (tt k0 nn))))))))) (fun k5=>(sl z4m 50 [] ⟨[],[],y7s,y7t⟩ ⟨[],[],[]⟩ (trs 3 (bl 3 0)) (tt k5 (tt k4 (ww k3 (ww aG (tt k0 nn))))))))))) (fun k3=>trivial)))))))) (fun k0=>(lr 61 3 [1,1,1,1,1,1,1,0] 1 28 [(4,(ii v7)),(5,(ii 0))] (sl z4m 13 [] ⟨[],[],[some [4,5]],[]⟩ ⟨[],[],[]⟩ [false] (tt k0 nn)))))
theorem w0c (l0:List R7) (x1:Int):Yr prog (Zy prog 46) (mVoC l0 x1) (Zb prog 46 [(.dat l0.length (Zz l0)),(.int .i64 x1)] true []) (y3n l0 x1):=(lo fun bQ=>(lb (fun k0=>(lr 61 46 [1,0,1,1,0,0] 1 28 [(4,(ii 0)),(5,(ii (z6h (cvT l0))))] (sl z4m 24 [] ⟨[],[],[some [4,5]],[]⟩ ⟨[],[],[]⟩ [true] (tt k0 (pp (pp (xr l0) (xw bQ)) nn))))) (fun k0=>(lb (fun k1=>(lr 61 46 [1,1,0,1,0,0] 1 28 [(4,(ii 0)),(5,(ii 2))] (sl z4m 35 [] ⟨[],[],[some [4,5]],[]⟩ ⟨[],[],[]⟩ [false,true,true,true] (tt k1 (tt k0 (pp (pp (xr l0) (xw bQ)) nn)))))) (fun k1=>(lb (fun k2=>(lr 61 46 [1,1,0,1,0,0] 1 28 [(4,(ii 0)),(5,(ii 2))] (sl z4m 35 [] ⟨[],[],[some [4,5]],[]⟩ ⟨[],[],[]⟩ [false,false,false,true] (tt k2 (tt k1 (tt k0 (pp (pp (xr l0) (xw bQ)) nn))))))) (fun k2=>(sl z4m 44 [] ⟨[],[],y7s,y7t⟩ ⟨[],[],[]⟩ [false,false,false,false] (tt k2 (tt k1 (tt k0 (pp (pp (xr l0) (xw bQ)) nn))))))))))))
theorem u2p (l0:List R7) (x1:Int) (n:Nat) (vs:List AVal) (h:Yz (y0b l0 x1) n (y3n l0 x1)=.ret vs):Ji prog (Zy prog 46) (Zb prog 46 [(.dat l0.length (Zz l0)),(.int .i64 x1)] true []) vs:=by have:=Ze (w9h l0 x1) n _ (w0c l0 x1);rwa [h] at this
inductive al19S where
def j6z :al19S→Cfg
 :=nofun
def x3d :al19S→Xp al19S
 :=nofun
def z9f :Xp al19S:=(bif (z2f (cvT ([(R6.mk 0 0 0 2 1 1)]:List R6))) then (bif (z0o (cvT ([(R6.mk 0 0 0 1 1 1),(R6.mk 1 1 0 2 2 1)]:List R6))) then (bif ((z2g (cvT ([(R6.mk 0 0 0 2 1 1)]:List R6))) != 0) then (.ret [(.bool false)]) else (bif ((((Yu (cvT ([(R6.mk 0 0 0 2 1 1)]:List R6))).length :Nat):Int) != 6) then (.ret [(.bool false)]) else (bif ((z8g (cvT ([(R6.mk 0 0 0 1 1 1),(R6.mk 1 1 0 2 2 1)]:List R6))) != 0) then (.ret [(.bool false)]) else (bif ((z2e (cvT ([(R6.mk 0 0 0 1 1 1),(R6.mk 1 1 0 2 2 1)]:List R6))) != 1) then (.ret [(.bool false)]) else (bif (y5i (cvT (Yu (cvT ([(R6.mk 0 0 0 2 1 1)]:List R6))))) then (bif ((x5h (cvT (Yu (cvT ([(R6.mk 0 0 0 2 1 1)]:List R6))))) == 0) then (bif (Vr (cvT (z1j (cvT (Yu (cvT ([(R6.mk 0 0 0 2 1 1)]:List R6)))))) (cvT ([(R6.mk 0 0 0 2 1 1)]:List R6))) then (bif (Km (cvT (z1j (cvT (Yu (cvT ([(R6.mk 0 0 0 2 1 1)]:List R6)))))) (cvT ([(R6.mk 0 0 0 2 1 1)]:List R6))) then (bif ((decide ((0:Int)≤0∧0<(((Yu (cvT ([(R6.mk 0 0 0 2 1 1)]:List R6))).length :Nat):Int)))&&true) then (bif (((rd (Yu (cvT ([(R6.mk 0 0 0 2 1 1)]:List R6))) 0).a == 0)&&((((rd (Yu (cvT ([(R6.mk 0 0 0 2 1 1)]:List R6))) 0).b == 2)&&(((rd (Yu (cvT ([(R6.mk 0 0 0 2 1 1)]:List R6))) 0).c == 0)&&(((rd (Yu (cvT ([(R6.mk 0 0 0 2 1 1)]:List R6))) 0).d == 0)&&true)))&&((((rd (Yu (cvT ([(R6.mk 0 0 0 2 1 1)]:List R6))) 0).e == 2)&&(((rd (Yu (cvT ([(R6.mk 0 0 0 2 1 1)]:List R6))) 0).f == 1)&&(((rd (Yu (cvT ([(R6.mk 0 0 0 2 1 1)]:List R6))) 0).g == 1)&&true)))&&true))) then (bif ((decide ((0:Int)≤4∧4<(((Yu (cvT ([(R6.mk 0 0 0 2 1 1)]:List R6))).length :Nat):Int)))&&true) then (.ret [(.bool (((rd (Yu (cvT ([(R6.mk 0 0 0 2 1 1)]:List R6))) 4).a == 4)&&((((rd (Yu (cvT ([(R6.mk 0 0 0 2 1 1)]:List R6))) 4).b == 0)&&(((rd (Yu (cvT ([(R6.mk 0 0 0 2 1 1)]:List R6))) 4).c == 0)&&(((rd (Yu (cvT ([(R6.mk 0 0 0 2 1 1)]:List R6))) 4).d == 1)&&true)))&&((((rd (Yu (cvT ([(R6.mk 0 0 0 2 1 1)]:List R6))) 4).e == 2)&&(((rd (Yu (cvT ([(R6.mk 0 0 0 2 1 1)]:List R6))) 4).f == 1)&&(((rd (Yu (cvT ([(R6.mk 0 0 0 2 1 1)]:List R6))) 4).g == 1)&&true)))&&true))))]) else .stuck) else (.ret [(.bool false)])) else .stuck) else (.ret [(.bool false)])) else .stuck) else (.ret [(.bool false)])) else .stuck))))) else .stuck) else .stuck)
theorem w2m : ∀s,Yr prog (Zy prog 36) (j6z) (j6z s) (x3d s)
 :=nofun
theorem x6g :Yr prog (Zy prog 36) (j6z) (Zb prog 36 [] true []) (z9f):=(Wo (sl y2f (C':=⟨⟨66,0,true⟩,(Jb prog 36 [1,0] 2),(Zd prog 36 [1,0] 1),none,(Zy prog 10),⟨Yb [(9,(.dat ([(R6.mk 0 0 0 2 1 1)]:List R6).length (Zz ([(R6.mk 0 0 0 2 1 1)]:List R6))))],Vb [] 0,0,[],true⟩,[],.leaf⟩) 26 [] ⟨[],[1],[some [9]],[]⟩ ⟨[(9,.frz 1 ([(R6.mk 0 0 0 2 1 1)]:List R6).length (z4k [(ii 0),(ii 0),(ii 0),(ii 2),(ii 1),(ii 1)] 0 6) (Zz ([(R6.mk 0 0 0 2 1 1)]:List R6)))],[],[]⟩ [] (pp (xZ (.dat 1 (z4k [(ii 0),(ii 0),(ii 0),(ii 2),(ii 1),(ii 1)] 0 6)) 1 (z4k [(ii 0),(ii 0),(ii 0),(ii 2),(ii 1),(ii 1)] 0 6)) (pp (xL 1 ([(R6.mk 0 0 0 2 1 1)]:List R6).length) (pp (xS 1 (z4k [(ii 0),(ii 0),(ii 0),(ii 2),(ii 1),(ii 1)] 0 6) (Zz ([(R6.mk 0 0 0 2 1 1)]:List R6))) nn)))) (lo fun q0_0=>(Wo (sl y2f (C':=⟨⟨66,0,true⟩,(Jb prog 36 [1,1,0] 3),(Zd prog 36 [1,1,0] 1),none,(Zy prog 10),⟨Yb [(1,(.dat (Yu (cvT ([(R6.mk 0 0 0 2 1 1)]:List R6))).length (Zz (Yu (cvT ([(R6.mk 0 0 0 2 1 1)]:List R6)))))),(2,(ii (z2g (cvT ([(R6.mk 0 0 0 2 1 1)]:List R6))))),(16,(.dat ([(R6.mk 0 0 0 1 1 1),(R6.mk 1 1 0 2 2 1)]:List R6).length (Zz ([(R6.mk 0 0 0 1 1 1),(R6.mk 1 1 0 2 2 1)]:List R6))))],Vb [] 0,0,[],true⟩,[],.leaf⟩) 48 [] ⟨[],[2],[some [1,2,16]],[]⟩ ⟨[(16,.frz 2 ([(R6.mk 0 0 0 1 1 1),(R6.mk 1 1 0 2 2 1)]:List R6).length (z4k [(ii 0),(ii 0),(ii 0),(ii 1),(ii 1),(ii 1),(ii 1),(ii 1),(ii 0),(ii 2),(ii 2),(ii 1)] 0 6) (Zz ([(R6.mk 0 0 0 1 1 1),(R6.mk 1 1 0 2 2 1)]:List R6)))],[],[]⟩ [] (pp (xZ (.dat 2 (z4k [(ii 0),(ii 0),(ii 0),(ii 1),(ii 1),(ii 1),(ii 1),(ii 1),(ii 0),(ii 2),(ii 2),(ii 1)] 0 6)) 2 (z4k [(ii 0),(ii 0),(ii 0),(ii 1),(ii 1),(ii 1),(ii 1),(ii 1),(ii 0),(ii 2),(ii 2),(ii 1)] 0 6)) (pp (xL 2 ([(R6.mk 0 0 0 1 1 1),(R6.mk 1 1 0 2 2 1)]:List R6).length) (pp (xS 2 (z4k [(ii 0),(ii 0),(ii 0),(ii 1),(ii 1),(ii 1),(ii 1),(ii 1),(ii 0),(ii 2),(ii 2),(ii 1)] 0 6) (Zz ([(R6.mk 0 0 0 1 1 1),(R6.mk 1 1 0 2 2 1)]:List R6))) (pp (pp (xI R6 ([(R6.mk 0 0 0 2 1 1)]:List R6).length (Zz ([(R6.mk 0 0 0 2 1 1)]:List R6))) (xw q0_0)) nn))))) (lo fun bQ=>(lb (fun k0=>(lr 66 36 [1,1,1,0,1,0,0] 1 10 [(0,(.bool false))] (sl y2f 31 [] ⟨[],[],[some [0]],[]⟩ ⟨[],[],[]⟩ (trs 8 []) (tt k0 (pp (pp (xI R6 ([(R6.mk 0 0 0 1 1 1),(R6.mk 1 1 0 2 2 1)]:List R6).length (Zz ([(R6.mk 0 0 0 1 1 1),(R6.mk 1 1 0 2 2 1)]:List R6))) (xw bQ)) nn))))) (fun k0=>(lb (fun k1=>(lr 66 36 [1,1,1,0,1,0,0] 1 10 [(0,(.bool false))] (sl y2f 31 [] ⟨[],[],[some [0]],[]⟩ ⟨[],[],[]⟩ [false,false,false,true,true,true,true,true] (tt k1 (tt k0 (pp (pp (xI R6 ([(R6.mk 0 0 0 1 1 1),(R6.mk 1 1 0 2 2 1)]:List R6).length (Zz ([(R6.mk 0 0 0 1 1 1),(R6.mk 1 1 0 2 2 1)]:List R6))) (xw bQ)) nn)))))) (fun k1=>(lb (fun k2=>(lr 66 36 [1,1,1,0,1,0,0] 1 10 [(0,(.bool false))] (sl y2f 31 [] ⟨[],[],[some [0]],[]⟩ ⟨[],[],[]⟩ [false,false,false,false,false,true,true,true] (tt k2 (tt k1 (tt k0 (pp (pp (xI R6 ([(R6.mk 0 0 0 1 1 1),(R6.mk 1 1 0 2 2 1)]:List R6).length (Zz ([(R6.mk 0 0 0 1 1 1),(R6.mk 1 1 0 2 2 1)]:List R6))) (xw bQ)) nn))))))) (fun k2=>(lb (fun k3=>(lr 66 36 [1,1,1,0,1,0,0] 1 10 [(0,(.bool false))] (sl y2f 31 [] ⟨[],[],[some [0]],[]⟩ ⟨[],[],[]⟩ [false,false,false,false,false,false,false,true] (tt k3 (tt k2 (tt k1 (tt k0 (pp (pp (xI R6 ([(R6.mk 0 0 0 1 1 1),(R6.mk 1 1 0 2 2 1)]:List R6).length (Zz ([(R6.mk 0 0 0 1 1 1),(R6.mk 1 1 0 2 2 1)]:List R6))) (xw bQ)) nn)))))))) (fun k3=>(lo fun bX=>(lb (fun k4=>(Wo (sl y2f (C':=⟨⟨66,0,true⟩,(Jb prog 36 [1,1,1,1,1,0] 6),(Zd prog 36 [1,1,1,1,1,0] 1),none,(Zy prog 10),⟨Yb [(1,(.dat (Yu (cvT ([(R6.mk 0 0 0 2 1 1)]:List R6))).length (Zz (Yu (cvT ([(R6.mk 0 0 0 2 1 1)]:List R6)))))),(42,(.bool true)),(43,(.dat (z1j (cvT (Yu (cvT ([(R6.mk 0 0 0 2 1 1)]:List R6))))).length (Zz (z1j (cvT (Yu (cvT ([(R6.mk 0 0 0 2 1 1)]:List R6)))))))),(45,(.dat ([(R6.mk 0 0 0 2 1 1)]:List R6).length (Zz ([(R6.mk 0 0 0 2 1 1)]:List R6))))],Vb [] 0,0,[],true⟩,[],.leaf⟩) 64 [] ⟨[],[1],[some [1,42,43,45]],[]⟩ ⟨[(45,.frz 1 ([(R6.mk 0 0 0 2 1 1)]:List R6).length (z4k [(ii 0),(ii 0),(ii 0),(ii 2),(ii 1),(ii 1)] 0 6) (Zz ([(R6.mk 0 0 0 2 1 1)]:List R6)))],[],[]⟩ [false,false,false,false,false,false,false,false,true,true,true] (pp (xZ (.dat 1 (z4k [(ii 0),(ii 0),(ii 0),(ii 2),(ii 1),(ii 1)] 0 6)) 1 (z4k [(ii 0),(ii 0),(ii 0),(ii 2),(ii 1),(ii 1)] 0 6)) (pp (xL 1 ([(R6.mk 0 0 0 2 1 1)]:List R6).length) (pp (xS 1 (z4k [(ii 0),(ii 0),(ii 0),(ii 2),(ii 1),(ii 1)] 0 6) (Zz ([(R6.mk 0 0 0 2 1 1)]:List R6))) (tt k4 (pp (pp (xI R7 (Yu (cvT ([(R6.mk 0 0 0 2 1 1)]:List R6))).length (Zz (Yu (cvT ([(R6.mk 0 0 0 2 1 1)]:List R6))))) (xw bX)) (tt k3 (tt k2 (tt k1 (tt k0 (pp (pp (xI R6 ([(R6.mk 0 0 0 1 1 1),(R6.mk 1 1 0 2 2 1)]:List R6).length (Zz ([(R6.mk 0 0 0 1 1 1),(R6.mk 1 1 0 2 2 1)]:List R6))) (xw bQ)) nn))))))))))) (lo fun cE=>(lb (fun k5=>(lo fun dE=>(lb (fun k6=>(lo fun o0=>(lr 66 3 [1,1,1,1,1,1,1,0] 1 10 [(0,(.bool (((rd (Yu (cvT ([(R6.mk 0 0 0 2 1 1)]:List R6))) 4).a == 4)&&((((rd (Yu (cvT ([(R6.mk 0 0 0 2 1 1)]:List R6))) 4).b == 0)&&(((rd (Yu (cvT ([(R6.mk 0 0 0 2 1 1)]:List R6))) 4).c == 0)&&(((rd (Yu (cvT ([(R6.mk 0 0 0 2 1 1)]:List R6))) 4).d == 1)&&true)))&&((((rd (Yu (cvT ([(R6.mk 0 0 0 2 1 1)]:List R6))) 4).e == 2)&&(((rd (Yu (cvT ([(R6.mk 0 0 0 2 1 1)]:List R6))) 4).f == 1)&&(((rd (Yu (cvT ([(R6.mk 0 0 0 2 1 1)]:List R6))) 4).g == 1)&&true)))&&true)))))] (sl y2f 22 [] ⟨[],[],[some [0]],[]⟩ ⟨[],[],[]⟩ (trs 15 []) (ww o0 (tt k6 (ww dE (tt k5 (pp (pp (xI R6 (z1j (cvT (Yu (cvT ([(R6.mk 0 0 0 2 1 1)]:List R6))))).length (Zz (z1j (cvT (Yu (cvT ([(R6.mk 0 0 0 2 1 1)]:List R6))))))) (pp (xI R6 ([(R6.mk 0 0 0 2 1 1)]:List R6).length (Zz ([(R6.mk 0 0 0 2 1 1)]:List R6))) (xw cE))) nn))))))))) (fun k6=>(lr 66 3 [1,1,1,1,1,1,1,0] 1 10 [(0,(.bool false))] (sl y2f 22 [] ⟨[],[],[some [0]],[]⟩ ⟨[],[],[]⟩ (trs 8 [false,false,false,false,false,false,false]) (tt k6 (ww dE (tt k5 (pp (pp (xI R6 (z1j (cvT (Yu (cvT ([(R6.mk 0 0 0 2 1 1)]:List R6))))).length (Zz (z1j (cvT (Yu (cvT ([(R6.mk 0 0 0 2 1 1)]:List R6))))))) (pp (xI R6 ([(R6.mk 0 0 0 2 1 1)]:List R6).length (Zz ([(R6.mk 0 0 0 2 1 1)]:List R6))) (xw cE))) nn)))))))))) (fun k5=>(lr 66 3 [1,1,1,1,1,1,1,0] 1 10 [(0,(.bool false))] (sl y2f 22 [] ⟨[],[],[some [0]],[]⟩ ⟨[],[],[]⟩ [true,false,false,false,false,false,false,false,false,false,false,false,false,false,false] (tt k5 (pp (pp (xI R6 (z1j (cvT (Yu (cvT ([(R6.mk 0 0 0 2 1 1)]:List R6))))).length (Zz (z1j (cvT (Yu (cvT ([(R6.mk 0 0 0 2 1 1)]:List R6))))))) (pp (xI R6 ([(R6.mk 0 0 0 2 1 1)]:List R6).length (Zz ([(R6.mk 0 0 0 2 1 1)]:List R6))) (xw cE))) nn))))))))) (fun k4=>(lr 66 3 [1,1,1,1,1,1,1,0] 1 10 [(0,(.bool false))] (sl y2f 68 [] ⟨[],[],[some [0]],[]⟩ ⟨[],[],[]⟩ [false,false,false,false,false,false,false,false,false,false,false,false,false,false,false,false,false,false,false,false,false,false,false,false,false,false] (tt k4 (pp (pp (xI R7 (Yu (cvT ([(R6.mk 0 0 0 2 1 1)]:List R6))).length (Zz (Yu (cvT ([(R6.mk 0 0 0 2 1 1)]:List R6))))) (xw bX)) (tt k3 (tt k2 (tt k1 (tt k0 (pp (pp (xI R6 ([(R6.mk 0 0 0 1 1 1),(R6.mk 1 1 0 2 2 1)]:List R6).length (Zz ([(R6.mk 0 0 0 1 1 1),(R6.mk 1 1 0 2 2 1)]:List R6))) (xw bQ)) nn))))))))))))))))))))))))
theorem v8p (n:Nat) (vs:List AVal) (h:Yz (x3d) n (z9f)=.ret vs):Ji prog (Zy prog 36) (Zb prog 36 [] true []) vs:=by have:=Ze (w2m) n _ (x6g);rwa [h] at this
def fcF (q:Ax) (s:Bool) (L:List R6) (p:Int):List R4:=match s with
 | true=>upF q L p
 | false=>dnF q L p
theorem z9x (q:Ax) (L:List R6):(plQ q L).Pairwise (· < ·):=by unfold plQ;rw [Jj];exact (Xn _).1
theorem z4z (q:Ax) (L:List R6) (p:Int):p∈plQ q L↔ ∃r∈L,p=q.lo r∨p=q.hi r:=by
 unfold plQ;rw [Jj,(Xn _).2 p];unfold z4j;constructor
 ·intro h;obtain ⟨r,hr,h⟩:=AP.1 h;simp only [AA,Bz,Co] at h;exact ⟨r,hr,h⟩
 ·rintro ⟨r,hr,h⟩;exact AP.2 ⟨r,hr,by simp only [AA,Bz,Co];exact h⟩
theorem x5z (E:Int→Int): ∀l:List Int,(∀p∈l,E p=0)→w6g E l=0
 | [],_=>rfl
 | p::l,h=>by unfold w6g;rw [h p (by simp)];exact x5z E l fun x hx=>h x (by simp [hx])
theorem v2a (a:Int): ∀P:List Int,P.Pairwise (· < ·)→(P.map fun p=>if a=p then 1 else 0).sum ≤1
 | [],_=>AJ _
 | p::P,h=>by
  obtain ⟨h1,h2⟩:=AQ.1 h;rw [AW,BI];by_cases e:a=p
  ·rw [Au e];have:(P.map fun p=>if a=p then 1 else 0)=P.map fun _=>0:=Ce fun x hx=>by have:=h1 x hx;rw [Ao (by omega)]
   rw [this];have: ∀l:List Int,(l.map fun _=>0).sum =0:=fun l=>by induction l with
    | nil=>rfl
    | cons _ _ ih=>rw [AW,BI,ih]
   rw [this];exact Aq _
  ·rw [Ao e];have:=v2a a P h2;omega
theorem y4k (f:R6→Int) (P:List Int) (hP:P.Pairwise (· < ·)) (g:R6→R4): ∀L:List R6,(P.map fun p=>((L.filter fun r=>decide (f r=p)).map g).length).sum ≤L.length
 | []=>by
  have: ∀l:List Int,(l.map fun p=>((([]:List R6).filter fun r=>decide (f r=p)).map g).length).sum =0:=fun l=>by induction l with
   | nil=>rfl
   | cons _ _ ih=>rw [AW,BI,ih];rfl
  rw [this];exact AJ _
 | r::L=>by
  have ih:=y4k f P hP g L;have h1:=v2a (f r) P hP;have: ∀l:List Int,(l.map fun p=>(((r::L).filter fun r=>decide (f r=p)).map g).length).sum =(l.map fun p=>if f r=p then 1 else 0).sum +(l.map fun p=>((L.filter fun r=>decide (f r=p)).map g).length).sum :=fun l=>by
   induction l with
   | nil=>rfl
   | cons p l ih=>
    rw [AW,AW,AW,BI,BI,BI,ih,Be];by_cases e:f r=p
    ·rw [Au (Ah e),Au e,AW,AV];omega
    ·rw [Ao (by simp [e]),Ao e];omega
  rw [this,AV];omega
theorem x0g {α β:Type} {f g:α→List β}: ∀{l:List α},(∀a∈l,f a=g a)→l.flatMap f=l.flatMap g
 | [],_=>rfl
 | a::l,h=>by rw [B0,B0,h a (by simp),x0g fun x hx=>h x (by simp [hx])]
theorem z7b {α β:Type} (f:α→List β): ∀l:List α,(l.flatMap f).length =(l.map fun a=>(f a).length).sum
 | []=>rfl
 | a::l=>by rw [B0,Az,AW,BI,z7b f l]
section
variable {L:List R6} (hv: ∀r∈L,Jf r=true) (hl:L.length≤20) (hL:L.Pairwise Ap6)
include hv hl hL
theorem w5d (q:Ax) (s:Bool) (p:Int) (hp: -1000000≤p∧p≤1000000):Vi q L p s=0∧Wn q L p s=fcF q s L p:=by
 have w:wrap .i64 (p - 1)=p - 1:=Zq (by omega);obtain ⟨a1,a2,a3,a4⟩:=x0i q hv hl hL p;obtain ⟨b1,b2,_,_⟩:=x0i q hv hl hL (p - 1);have e:w5e q L p=0:=by unfold w5e Uo;rw [w,b1,a1];rfl
 unfold Vi Wn;rw [e,w];unfold Yg;rw [a2,b2];cases s with
 | true=>exact ⟨a3,by show Vy .d _ _=_;unfold Vy;rw [a3];rfl⟩
 | false=>exact ⟨a4,by show Vy .d _ _=_;unfold Vy;rw [a4];rfl⟩
theorem v4r (q:Ax) {p:Int} (h:p∈plQ q L): -1000000≤p∧p≤1000000:=by
 have _u:=hl;have _v:=hL;obtain ⟨r,hr,h⟩:=(z4z q L p).1 h;obtain ⟨_,h1,h2,h3⟩:=q.val (hv r hr);rcases h with rfl | rfl <;> omega
theorem v7t (q:Ax) (s:Bool):dM q s L=(plQ q L).flatMap fun p=>(fcF q s L p).map (qd q s p):=by unfold dM v9d;exact x0g fun p hp=>by rw [(w5d hv hl hL q s p (v4r hv hl hL q hp)).2]
theorem v7p (q:Ax) (s:Bool):z7h q s L=0:=x5z _ _ fun p hp=>(w5d hv hl hL q s p (v4r hv hl hL q hp)).1
theorem w1u (q:Ax):(dM q true L).length +(dM q false L).length ≤800:=by
 rw [v7t hv hl hL,v7t hv hl hL,z7b,z7b];have hr: ∀r∈L,q.lo r<q.hi r:=fun r h=>(q.val (hv r h)).2.1;have key: ∀P:List Int,(P.map fun p=>((fcF q true L p).map (qd q true p)).length).sum +(P.map fun p=>((fcF q false L p).map (qd q false p)).length).sum ≤20*((P.map fun p=>(hiL q L p).length).sum +(P.map fun p=>(loL q L p).length).sum):=fun P=>by
  induction P with
  | nil=>exact Aq _
  | cons p P ih=>simp only [AW,BI,A3] at ih ⊢;have h1:=x1a q hv hl hL p;have h2:=AG (y4h q hr p) hl;have h3:=AK ((hiL q L p).length +(loL q L p).length) h2;have e1:(fcF q true L p).length =(upF q L p).length :=rfl;have e2:(fcF q false L p).length =(dnF q L p).length :=rfl;omega
 have h1:=y4k q.hi (plQ q L) (z9x q L) q.rc L;have h2:=y4k q.lo (plQ q L) (z9x q L) q.rc L;have:=key (plQ q L);unfold hiL loL at this;omega
theorem z8h :y9t L=0∧(Jh L).length ≤2400:=by
 have h1:=w1u hv hl hL .x;have h2:=w1u hv hl hL .y;have h3:=w1u hv hl hL .z;have hn:(Jh L).length ≤2400:=by unfold Jh;simp only [Az];omega
 refine ⟨?_,hn⟩;unfold y9t;simp only [v7p hv hl hL];rw [Ay (by omega)];rfl
end
theorem v4y {L:List R6} (h:Yo L=0) (hl:L.length≤20):z2g L=0∧Yu L=Jh L:=by obtain ⟨_,hv,_,hL⟩:=Wx h;have hz:=(z8h hv hl hL).1;unfold z2g Yu z4d Js;rw [h,hz];exact ⟨rfl,rfl⟩
theorem j4e {L:List R6} (h:j4g L=true):L.length≤20∧Yo L=0:=by simp only [j4g,Ac,Al] at h;exact ⟨by omega,(u4f L).trans (eq_of_beq h.2)⟩
theorem Dim.goS_cg {α β:Type} (D:Dim α β) (f g:Int→List β) (cs:List Int): ∀(k i:Nat) (s:Sw α β),(∀j,i≤j→j<i+k→f (rd cs j)=g (rd cs j))→D.goS f cs k i s=D.goS g cs k i s
 | 0,i,s,_=>rfl
 | k+1,i,s,h=>by show D.goS f cs k (i+1) (D.oneS (f (rd cs i)) _ _ s)=D.goS g cs k (i+1) (D.oneS (g (rd cs i)) _ _ s);rw [h i (Aq _) (by omega)];exact goS_cg D f g cs k (i+1) _ fun j h1 h2=>h j (by omega) (by omega)
theorem y6p {n:Nat} (h:y6q n=0):n≤400:=by
 unfold y6q at h;by_cases q:(n:Int)>400
 ·rw [Ah q] at h;cases h
 ·omega
theorem y4v {l:List R4} (h:Xw l=0):l.length≤400∧(∀r∈l,Wh r=true)∧Zc l=D4.out l:=by
 unfold Xw at h;cases g1:decide (400<l.length) with
 | true=>rw [g1] at h;cases h
 | false=>
  cases g2:l.all Wh with
  | false=>rw [g1,g2] at h;cases h
  | true=>
   rw [g1,g2,Aa,Ab] at h;have hl:l.length≤400:=by have:=Cj g1;omega
   refine ⟨hl,At.1 g2,?_⟩;exact (z7w (At.1 g2) hl (y6p h)).1
theorem w4i {l:List R6}: ∀(k i:Nat),okF l k i=true→ ∀j,i≤j→j<i+k→Xw (D6.inn l (rd (D6.cuts l) j))=0
 | 0,i,h,j,h1,h2=>by omega
 | k+1,i,h,j,h1,h2=>by
  unfold okF at h;rcases Yp (w6p l (rd (D6.cuts l) i)) with q | q
  ·rw [q] at h;cases h
  ·rw [q,Aa] at h;rcases Bj h1 with e | e
   ·rw [←e];unfold w6p at q
    simpa using q
   ·exact w4i k (i+1) h j e (by omega)
theorem w3j {l:List R6} (h:Vd l=0):l.length≤400∧(∀r∈l,Jf r=true)∧okF l ((D6.cuts l).length - 1) 0=true∧(D6.out l).length ≤400:=by
 unfold Vd at h;cases g1:decide (400<l.length) with
 | true=>rw [g1] at h;cases h
 | false=>
  cases g2:l.all Jf with
  | false=>rw [g1,g2] at h;cases h
  | true=>
   rw [g1,g2,Aa,Ab] at h;cases g3:okF l ((D6.cuts l).length - 1) 0 with
   | false=>rw [g3,Aa] at h;have:=u3y _ _ g3;rw [h] at this;cases this
   | true=>rw [g3,Ab] at h;exact ⟨by have:=Cj g1;omega,At.1 g2,rfl,y6p h⟩
theorem v2q {l:List R6} (h:Vd l=0):Xk l=D6.out l:=by unfold Xk x2u;rw [h];rfl
theorem x7s {l:List R6} (h:Vd l=0):x7x.can (Xk l)∧ ∀x y z,inS (Xk l) x y z↔inS l x y z:=by
 obtain ⟨hl,hv,hok,ho⟩:=w3j h;have hf:=w4i _ _ hok;rw [v2q h];have hc:(D6.cuts l).Pairwise (· < ·):=by show (Jc (D6.ends l)).Pairwise (· < ·);rw [Jj];exact (Xn _).1
 have eS:D6.out l=(D6.goS (fun x=>bif Xw (D6.inn l x) != 0 then [] else Zc (D6.inn l x)) (D6.cuts l) ((D6.cuts l).length - 1) 0 ⟨[],[],0,0⟩).out :=by unfold Dim.out;rw [D6.go_goS,D6.goS_cg (D6.sec l) (fun x=>bif Xw (D6.inn l x) != 0 then [] else Zc (D6.inn l x))];intro j h1 h2;show _=bif Xw (D6.inn l _) != 0 then _ else _;rw [hf j h1 h2];rfl
 have hs: ∀x,Wz.can (bif Xw (D6.inn l x) != 0 then [] else Zc (D6.inn l x)):=fun x=>by
  cases g:(Xw (D6.inn l x) != 0) with
  | true=>exact Wz.nil
  | false=>obtain ⟨m1,m2,m3⟩:=y4v (show Xw (D6.inn l x)=0 by simpa using g);rw [Aa,m3];exact (Kt m2 m1).1
 obtain ⟨h1,h2⟩:=Dim.goS_can z3y x4d Wz (cs:=D6.cuts l) hc hs;rw [eS];refine ⟨h1,fun x y z=> ?_⟩;rw [v6o,v6o,show ptL x7x.inB _ (z,x,y)↔_ from h2 z (x,y)];have ia: ∀j,j+1<(D6.cuts l).length →rd (D6.cuts l) j≤z→z<rd (D6.cuts l) (j+1)→(ptL Wz.inB (bif Xw (D6.inn l (rd (D6.cuts l) j)) != 0 then [] else Zc (D6.inn l (rd (D6.cuts l) j))) (x,y)↔ptL x7x.inB l (z,x,y)):=fun j j1 j2 j3=>by have q:=hf j (AJ _) (by omega);obtain ⟨m1,m2,m3⟩:=y4v q;rw [q,show ((0:Int) != 0)=false from rfl,Aa,m3,(Kt m2 m1).2,Dim.inn_slab l l (fun r hr=>hr) j1 j2 j3];exact Dim.pt_inn (D:=D6) Wz.inB l z (x,y)
 constructor
 ·rintro ⟨j,j1,j2,j3,j4⟩;exact (ia j j1 j2 j3).1 j4
 ·intro hp;refine AL fun hn=> ?_;have hx: ∀j,j+1<(D6.cuts l).length → ¬(rd (D6.cuts l) j≤z∧z<rd (D6.cuts l) (j+1)):=fun j j1 j2=>hn ⟨j,j1,j2.1,j2.2,(ia j j1 j2.1 j2.2).2 hp⟩;have g:=(Dim.pt_inn (D:=D6) Wz.inB l z (x,y)).2 hp;rw [Dim.inn_out l l (fun r hr=>hr) hx] at g;exact z4w _ _ g
theorem w3k {L:List R6} (h:Yo L=0):Vd L=0∧Xk L=L:=by
 have hs:=Wx h;have key:Vd L=0:=by
  unfold Yo at h;unfold Vd;cases g1:decide (400<L.length) with
  | true=>rw [g1] at h;cases h
  | false=>
   cases g2:L.all Jf with
   | false=>rw [g1,g2] at h;cases h
   | true=>
    rw [g1,g2,Aa,Ab] at h;cases g3:okF L ((D6.cuts L).length - 1) 0 with
    | false=>rw [g3] at h;cases h
    | true=>rw [Aa,Ab,Ab];unfold y6q;rw [←hs.2.2.1,Xa (by have:=hs.1;omega)];rfl
 exact ⟨key,(v2q key).trans hs.2.2.1.symm⟩
theorem x7z {L:List R6} (h:Yo L=0):x7x.can L:=by obtain ⟨h1,h2⟩:=w3k h;have:=(x7s h1).1;rwa [h2] at this
theorem v7u (L:List R6) (z:Int):z1t .z L z=D6.inn L z:=rfl
theorem y9j (L:List R6) (z u v:Int):ptL Wz.inB (D6.inn L z) (u,v)↔Ax.inL .z L z u v:=y1r .z L z u v
theorem w0q (k:Nat) {a b:List R4} (ha: ∀r∈a,Wh r=true) (hb: ∀r∈b,Wh r=true) (x:Int):(D4.inn (rgJ k a b) x).length ≤(D4.inn a x).length +(D4.inn b x).length :=by
 obtain ⟨j1,j2,_⟩:=Qz k ha hb;obtain ⟨s1,s2⟩:=z9o k (Vq ha x) (Vq hb x);have e:D4.inn (rgJ k a b) x=spJ k (D4.inn a x) (D4.inn b x):=y8r.uniq _ _ (z8l j1 x) s1 fun y=>by rw [s2];show pt (D4.inn (rgJ k a b) x) y↔_;rw [z4x,j2];have e1:decide (pt (D4.inn a x) y)=decide (ptL Wz.inB a (x,y)):=BG.2 (z4x a x y);have e2:decide (pt (D4.inn b x) y)=decide (ptL Wz.inB b (x,y)):=BG.2 (z4x b x y);rw [e1,e2]
 rw [e];exact z1v k (Vq ha x) (Vq hb x)
theorem w3w {l:List R4} (hl:l.length≤400) (hv: ∀r∈l,Wh r=true) (hc:Wz.can l):Xw l=0∧Zc l=l:=by obtain ⟨h1,h2⟩:=Kt hv hl;have e:D4.out l=l:=Wz.uniq _ _ h1 hc h2;obtain ⟨r0,r1⟩:=z7w hv hl (by rw [e];exact hl);exact ⟨r1,r0.trans e⟩
theorem v4w {A B:Prop} [Decidable A] [Decidable B]:opB 2 (decide A) (decide B)=true↔A∧ ¬B:=by simp [opB]
theorem opB1i {A B:Prop} [Decidable A] [Decidable B]:opB 1 (decide A) (decide B)=true↔A∧B:=by simp [opB]
theorem opB0i {A B:Prop} [Decidable A] [Decidable B]:opB 0 (decide A) (decide B)=true↔A∨B:=by simp [opB]
theorem w3y (q:Op) {a b:List R4} (h:rgE q a b=0):Vy q a b=rgJ q.k a b:=by unfold Vy;rw [h];rfl
section
variable {L:List R6} (h:Yo L=0) (hl:L.length≤20)
include h hl
theorem x5u {G:List (z0l R4)} (hG:z2s Wz G) (e:L=D6.flat G) {g:z0l R4} (hg:g∈G) {x:Int} (hx:g.a≤x∧x<g.b):D6.inn L x=g.s:=by
 have hc:=(Wx h).1;have _u:=hl;refine Wz.uniq _ _ (by rw [e];exact Dim.inn_can z3y Wz x G hG) (hG.all g hg).2.1 fun p=> ?_;rw [Dim.pt_inn (D:=D6) Wz.inB L x p,e,Dim.flat_pt z3y Wz G x p];constructor
 ·rintro ⟨k,hk,k1,k2,k3⟩;obtain ⟨i,hi,ei⟩:=AX hg;obtain ⟨j,hj,ej⟩:=AX hk;have pw:G.Pairwise fun g k=>g.b≤k.a:=by
   clear e hg hk hi hj ei ej
   induction G with
   | nil=>exact .nil
   | cons m r ih=>exact AQ.2 ⟨hG.later,ih hG.tail⟩
  have pw:=Bl.1 pw;rcases Bu i j with q | q | q
  ·have:=pw i j hi hj q;rw [ei,ej] at this;omega
  ·subst q;rw [←ei,ej];exact k3
  ·have:=pw j i hj hi q;rw [ei,ej] at this;omega
 ·intro k3;exact ⟨g,hg,hx.1,hx.2,k3⟩
theorem u1p {z:Int} (hz:D6.inn L (z - 1)≠D6.inn L z) {r:R6} (hr:r∈L): ¬(r.c≤z - 1∧z<r.f):=fun hx=>by obtain ⟨G,hG,e⟩:=x7z h;rw [e] at hr;obtain ⟨g,hg,hr⟩:=AP.1 hr;obtain ⟨b,_,rfl⟩:=AO.1 hr;have h1:g.a≤z - 1∧z<g.b:=hx;exact hz ((x5u h hl hG e hg ⟨by omega,by omega⟩).trans (x5u h hl hG e hg ⟨by omega,by omega⟩).symm)
theorem v9h {z:Int} (hz:D6.inn L (z - 1)≠D6.inn L z):(D6.inn L (z - 1)).length +(D6.inn L z).length ≤20:=by
 have hn: ∀r∈L,¬((decide (r.c≤z - 1)&&decide (z - 1<r.f))=true∧(decide (r.c≤z)&&decide (z<r.f))=true):=fun r hr hx=>by simp only [Ac,Al] at hx;exact u1p h hl hz hr ⟨hx.1.1,hx.2.2⟩
 refine AG ?_ hl;show ((L.filter fun r=>decide (r.c≤z - 1)&&decide (z - 1<r.f)).map _).length +((L.filter fun r=>decide (r.c≤z)&&decide (z<r.f)).map _).length ≤_;rw [A3,A3];clear h hl hz
 induction L with
 | nil=>exact Aq _
 | cons r l ih=>
  have ih:=ih fun s hs=>hn s (by simp [hs]);have:=hn r (by simp);rw [Be,Be];by_cases q1:(decide (r.c≤z - 1)&&decide (z - 1<r.f))=true
  ·rw [Au q1,Ao fun q2=>this ⟨q1,q2⟩];simp only [AV];omega
  ·rw [Ao q1];by_cases q2:(decide (r.c≤z)&&decide (z<r.f))=true
   ·rw [Au q2];simp only [AV];omega
   ·rw [Ao q2];simp only [AV];omega
theorem j0v (z:Int):Wz.can (D6.inn L z)∧(∀r∈D6.inn L z,Wh r=true)∧(D6.inn L z).length ≤20∧D4.out (D6.inn L z)=D6.inn L z:=by
 obtain ⟨_,hv,_,_⟩:=Wx h;obtain ⟨G,hG,e⟩:=x7z h;have c:Wz.can (D6.inn L z):=by rw [e];exact Dim.inn_can z3y Wz z G hG
 have v:=y0r hv z;have n:=AG (D6.inn_length L z) hl;exact ⟨c,v,n,Wz.uniq _ _ (Kt v (by omega)).1 c (Kt v (by omega)).2⟩
theorem j4q (z:Int):upF .z L z=rgJ 2 (D6.inn L (z - 1)) (D6.inn L z)∧dnF .z L z=rgJ 2 (D6.inn L z) (D6.inn L (z - 1)):=by unfold upF dnF;rw [v7u,v7u,(j0v h hl z).2.2.2,(j0v h hl (z - 1)).2.2.2];exact ⟨rfl,rfl⟩
theorem step_z {z:Int} (hz:D6.inn L (z - 1)≠D6.inn L z):j6w (D6.inn L (z - 1)) (upF .z L z) (dnF .z L z)=false∧x1w (D6.inn L (z - 1)) (upF .z L z) (dnF .z L z)=D6.inn L z:=by
 obtain ⟨a1,a2,a3,_⟩:=j0v h hl (z - 1);obtain ⟨b1,b2,b3,_⟩:=j0v h hl z;have hs:=v9h h hl hz;obtain ⟨_,hv,_,hL⟩:=Wx h;obtain ⟨eu,ed⟩:=j4q h hl z;have hud:=x1a .z hv hl hL z;have hr: ∀r∈L,Ax.lo .z r<Ax.hi .z r:=fun r k=>(Ax.val .z (hv r k)).2.1;have ht:=AG (y4h .z hr z) hl;have h4:((hiL .z L z).length +(loL .z L z).length)*((hiL .z L z).length +(loL .z L z).length)≤400:=AG (Cf ht ht) (by decide);rw [eu,ed] at hud;rw [eu,ed];obtain ⟨u1,u2,_⟩:=Qz 2 a2 b2;obtain ⟨d1,d2,_⟩:=Qz 2 b2 a2;have uv: ∀r∈rgJ 2 (D6.inn L (z - 1)) (D6.inn L z),Wh r=true:=Qk u1 fun u v k=>by have:=(u2 (u,v)).1 k;simp only [opB,Ac,Al] at this;exact z1b a2 this.1
 have dv: ∀r∈rgJ 2 (D6.inn L z) (D6.inn L (z - 1)),Wh r=true:=Qk d1 fun u v k=>by have:=(d2 (u,v)).1 k;simp only [opB,Ac,Al] at this;exact z1b b2 this.1
 obtain ⟨m1,m0⟩:=w3w (l:=rgJ 2 (D6.inn L (z - 1)) (D6.inn L z)) (by omega) uv u1;obtain ⟨n1,n0⟩:=w3w (l:=rgJ 2 (D6.inn L z) (D6.inn L (z - 1))) (by omega) dv d1;obtain ⟨r1,r2,_⟩:=Qz 2 a2 uv;obtain ⟨c1,c2,c3⟩:=Qz 1 a2 b2;have er:rgJ 2 (D6.inn L (z - 1)) (rgJ 2 (D6.inn L (z - 1)) (D6.inn L z))=rgJ 1 (D6.inn L (z - 1)) (D6.inn L z):=Wz.uniq _ _ r1 c1 fun p=>by rw [r2,c2,v4w,opB1i,u2 p,v4w];by_cases g1:ptL Wz.inB (D6.inn L (z - 1)) p <;> by_cases g2:ptL Wz.inB (D6.inn L z) p <;> simp [g1,g2]
 have cl:(rgJ 1 (D6.inn L (z - 1)) (D6.inn L z)).length ≤400:=AG c3 (AG (Cf hs hs) (by decide));have i1: ∀x,(D4.inn (D6.inn L (z - 1)) x).length ≤20:=fun x=>AG (D4.inn_length _ x) a3;have i2: ∀x,(D4.inn (D6.inn L z) x).length ≤20:=fun x=>AG (D4.inn_length _ x) b3;have z1:rgE .d (D6.inn L (z - 1)) (rgJ 2 (D6.inn L (z - 1)) (D6.inn L z))=0:=x1r .d (by omega) (by omega) a2 uv a1 u1
  (fun x=>by have:=w0q 2 a2 b2 x;have:=i1 x;have:=i2 x;omega) (by
   show (rgJ 2 (D6.inn L (z - 1)) (rgJ 2 (D6.inn L (z - 1)) (D6.inn L z))).length ≤400;rw [er];exact cl)
 have v1:Vy .d (D6.inn L (z - 1)) (rgJ 2 (D6.inn L (z - 1)) (D6.inn L z))=rgJ 1 (D6.inn L (z - 1)) (D6.inn L z):=(w3y .d z1).trans er;have cv: ∀r∈rgJ 1 (D6.inn L (z - 1)) (D6.inn L z),Wh r=true:=Qk c1 fun u v k=>by have:=(c2 (u,v)).1 k;simp only [opB,Ac,Al] at this;exact z1b a2 this.1
 obtain ⟨w1,w2,_⟩:=Qz 0 cv dv;have ew:rgJ 0 (rgJ 1 (D6.inn L (z - 1)) (D6.inn L z)) (rgJ 2 (D6.inn L z) (D6.inn L (z - 1)))=D6.inn L z:=Wz.uniq _ _ w1 b1 fun p=>by rw [w2,opB0i,c2 p,opB1i,d2 p,v4w];by_cases g1:ptL Wz.inB (D6.inn L (z - 1)) p <;> by_cases g2:ptL Wz.inB (D6.inn L z) p <;> simp [g1,g2]
 have z2:rgE .u (rgJ 1 (D6.inn L (z - 1)) (D6.inn L z)) (rgJ 2 (D6.inn L z) (D6.inn L (z - 1)))=0:=x1r .u cl (by omega) cv dv c1 d1
  (fun x=>by have:=w0q 1 a2 b2 x;have:=w0q 2 b2 a2 x;have:=i1 x;have:=i2 x;omega) (by
   show (rgJ 0 (rgJ 1 (D6.inn L (z - 1)) (D6.inn L z)) (rgJ 2 (D6.inn L z) (D6.inn L (z - 1)))).length ≤400;rw [ew];omega)
 unfold j6w x1w;rw [m1,n1,m0,n0,z1,v1,z2];exact ⟨rfl,(w3y .u z2).trans ew⟩
end
theorem zQ_nil {d:Int} {l:List R7} (z:Int) (h: ∀r∈l,r.a≠d):zQ d l z=[]:=by unfold zQ;rw [Cq,BO];intro r hr hq;simp only [Ac,Al] at hq;exact h r hr hq.1
theorem u4r (s:Bool) (p:Int) (l:List R4) (z:Int):zQ (match s with | true=>4 | false=>5) (l.map (qd .z s p)) z=if p=z then l else []:=by
 induction l with
 | nil=>cases s <;> (by_cases e:p=z <;> simp [e,zQ])
 | cons r l ih=>
  rw [AW,show qd .z s p r::l.map (qd .z s p)=[qd .z s p r]++l.map (qd .z s p) from rfl,Wt,ih];by_cases e:p=z
  ·rw [Au e,Au e];cases s <;> simp [zQ,qd,e]
  ·rw [Ao e,Ao e,AB];cases s <;> simp [zQ,qd,e]
theorem x7d (s:Bool) (F:Int→List R4) (z:Int): ∀P:List Int,P.Pairwise (· < ·)→(z ∉ P→F z=[])→zQ (match s with | true=>4 | false=>5) (P.flatMap fun p=>(F p).map (qd .z s p)) z=F z
 | [],_,h=>by rw [h (by simp)];cases s <;> rfl
 | p::P,hP,h=>by
  obtain ⟨h1,h2⟩:=AQ.1 hP;rw [B0,Wt,u4r];by_cases e:p=z
  ·subst e;rw [Au rfl];have: ∀Q:List Int,(∀x∈Q,p<x)→zQ (match s with | true=>4 | false=>5) (Q.flatMap fun p=>(F p).map (qd .z s p)) p=[]:=fun Q=>by
    induction Q with
    | nil=>intro _;cases s <;> rfl
    | cons x Q ih=>intro hx;rw [B0,Wt,u4r,Ao (by have:=hx x (by simp);omega),ih fun y hy=>hx y (by simp [hy])];rfl
   rw [this P h1,AB]
  ·rw [Ao e,Br];exact x7d s F z P h2 fun hn=>h (by simp [hn,Ne.symm e])
theorem qd_a (q:Ax) (s:Bool) (p:Int) (t:R4):(qd q s p t).a =2*q.ix+sdI s:=by cases q <;> cases s <;> rfl
theorem dM_a {q:Ax} {s:Bool} {L:List R6} {r:R7} (h:r∈dM q s L):r.a=2*q.ix+sdI s:=by obtain ⟨p,_,h⟩:=AP.1 h;obtain ⟨t,_,rfl⟩:=AO.1 h;exact qd_a q s p t
section
variable {L:List R6} (h:Yo L=0) (hl:L.length≤20)
include h hl
theorem v5b (q:Ax) {p:Int} (hp:p ∉ plQ q L):upF q L p=[]∧dnF q L p=[]:=by
 obtain ⟨_,hv,_,hL⟩:=Wx h;have hr: ∀r∈L,q.lo r<q.hi r:=fun r k=>(q.val (hv r k)).2.1;obtain ⟨u1,u2⟩:=y4g q hv hl p;obtain ⟨d1,d2⟩:=y6m q hv hl p;constructor
 ·refine z2d Wz u1 fun ⟨u,v⟩ k=> ?_;have:=(x1b q hL hr p u v).1 ((u2 u v).1 k);obtain ⟨r,hr,e,_⟩:=(v6p q L p u v).1 this.1;exact hp ((z4z q L p).2 ⟨r,hr,.inr e.symm⟩)
 ·refine z2d Wz d1 fun ⟨u,v⟩ k=> ?_;have:=(y0n q hL hr p u v).1 ((d2 u v).1 k);obtain ⟨r,hr,e,_⟩:=(v6a q L p u v).1 this.1;exact hp ((z4z q L p).2 ⟨r,hr,.inl e.symm⟩)
theorem y4f (z:Int):zQ 4 (Jh L) z=upF .z L z∧zQ 5 (Jh L) z=dnF .z L z:=by
 obtain ⟨_,hv,_,hL⟩:=Wx h;have f4:=x7d true (fcF .z true L) z (plQ .z L) (z9x .z L) fun hn=>(v5b h hl .z hn).1;have f5:=x7d false (fcF .z false L) z (plQ .z L) (z9x .z L) fun hn=>(v5b h hl .z hn).2;rw [←v7t hv hl hL] at f4 f5;have no: ∀(d:Int) (q:Ax) (s:Bool),d≠2*q.ix+sdI s→zQ d (dM q s L) z=[]:=fun d q s hd=>zQ_nil z fun r hr e=>hd (e ▸ dM_a hr);unfold Jh;constructor
 ·rw [Wt,Wt,Wt,Wt,Wt,no 4 .x true (by decide),no 4 .x false (by decide),no 4 .y true (by decide),no 4 .y false (by decide),no 4 .z false (by decide),AB];exact f4
 ·rw [Wt,Wt,Wt,Wt,Wt,no 5 .x true (by decide),no 5 .x false (by decide),no 5 .y true (by decide),no 5 .y false (by decide),no 5 .z true (by decide)];exact f5
theorem x9i (z:Int):z∈plZ (Jh L)↔D6.inn L (z - 1)≠D6.inn L z:=by
 obtain ⟨_,hv,_,hL⟩:=Wx h;obtain ⟨u1,u2⟩:=y4g .z hv hl z;obtain ⟨d1,d2⟩:=y6m .z hv hl z;have hm:z∈plZ (Jh L)↔upF .z L z≠ []∨dnF .z L z≠ []:=by
  unfold plZ;rw [Jj,(Xn _).2 z];unfold zsQ;constructor
  ·intro k;obtain ⟨r,hr,e⟩:=AO.1 k;obtain ⟨hr,ha⟩:=A1.1 hr;have ha:=AF ha;have key:r.a=4∨r.a=5:=by
    unfold Jh at hr;simp only [AD] at hr;rcases hr with ((((hr | hr) | hr) | hr) | hr) | hr <;> have e:=dM_a hr
    ·have e:r.a=0:=e;omega
    ·have e:r.a=1:=e;omega
    ·have e:r.a=2:=e;omega
    ·have e:r.a=3:=e;omega
    ·exact .inl e
    ·exact .inr e
   have me: ∀d,r.a=d→zQ d (Jh L) z≠ []:=fun d hd hn=>by unfold zQ at hn;rw [Cq,BO] at hn;exact hn r hr (by simp [hd,e])
   rcases key with e4 | e5
   ·exact .inl (by rw [←(y4f h hl z).1];exact me 4 e4)
   ·exact .inr (by rw [←(y4f h hl z).2];exact me 5 e5)
  ·intro k;have me: ∀d,4≤d→zQ d (Jh L) z≠ []→z∈((Jh L).filter fun r=>decide (4≤r.a)).map (·.d):=fun d hd hn=>by obtain ⟨t,ht⟩:=List.exists_mem_of_ne_nil _ hn;obtain ⟨r,hr,_⟩:=AO.1 ht;obtain ⟨hr,hq⟩:=A1.1 hr;simp only [Ac,Al] at hq;exact AO.2 ⟨r,A1.2 ⟨hr,Ah (by omega)⟩,hq.2⟩
   rcases k with k | k
   ·exact me 4 (by decide) (by rw [(y4f h hl z).1];exact k)
   ·exact me 5 (by decide) (by rw [(y4f h hl z).2];exact k)
 rw [hm];constructor
 ·rintro hk e;rcases hk with hk | hk
  ·refine hk (z2d Wz u1 fun ⟨u,v⟩ k=> ?_);have k:=(u2 u v).1 k;rw [←y9j,←y9j,e] at k;exact k.2 k.1
  ·refine hk (z2d Wz d1 fun ⟨u,v⟩ k=> ?_);have k:=(d2 u v).1 k;rw [←y9j,←y9j,e] at k;exact k.2 k.1
 ·intro hn;refine AL fun hk=>hn ?_;rw [not_or,Decidable.not_not,Decidable.not_not] at hk;refine Wz.uniq _ _ (j0v h hl (z - 1)).1 (j0v h hl z).1 fun ⟨u,v⟩=> ?_;rw [y9j,y9j];have a:=u2 u v;have b:=d2 u v;rw [hk.1] at a;rw [hk.2] at b;have a: ¬(Ax.inL .z L (z - 1) u v∧ ¬Ax.inL .z L z u v):=fun k=>z4w _ _ (a.2 k);have b: ¬(Ax.inL .z L z u v∧ ¬Ax.inL .z L (z - 1) u v):=fun k=>z4w _ _ (b.2 k);exact ⟨fun k=>AL fun m=>a ⟨k,m⟩,fun k=>AL fun m=>b ⟨k,m⟩⟩
theorem far {x:Int} (hx:x< -1000000∨1000000≤x):D6.inn L x=[]:=by have _u:=hl;obtain ⟨_,hv,_,_⟩:=Wx h;show (L.filter _).map _=[];rw [Cq,BO];intro r hr hq;have:=Kq (hv r hr);simp only [Ac,Al] at hq;have h1:r.c≤x:=hq.1;have h2:x<r.f:=hq.2;omega
end
theorem const (S:Int→List R4) (a:Int): ∀n:Nat,(∀x,a<x→x≤a+n→S (x - 1)=S x)→S (a+n)=S a
 | 0,_=>by rw [show a+((0:Nat):Int)=a by omega]
 | n+1,h=>by
  have:=const S a n fun x h1 h2=>h x h1 (by omega);rw [←this,←h (a+((n+1:Nat):Int)) (by omega) (AZ _)]
  congr 1;omega
theorem const' (S:Int→List R4) {a b:Int} (hab:a≤b) (h: ∀x,a<x→x≤b→S (x - 1)=S x):S b=S a:=by have:=const S a (b - a).toNat fun x h1 h2=>h x h1 (by omega);rw [show a+((b - a).toNat :Int)=b by omega] at this;exact this
structure Chg (S:Int→List R4) (r:List Int) (lo:Int):Prop where
 asc:r.Pairwise (· < ·)
 low: ∀z∈r,lo≤z
 ne: ∀z∈r,S (z - 1)≠S z
 all: ∀x,lo≤x→S (x - 1)≠S x→x∈r
theorem Chg.tail {S:Int→List R4} {z lo:Int} {r:List Int} (h:Chg S (z::r) lo):Chg S r (z+1):=by
 obtain ⟨h1,h2⟩:=AQ.1 h.asc;refine ⟨h2,fun x hx=>by have:=h1 x hx;omega,fun x hx=>h.ne x (by simp [hx]),fun x hx hn=> ?_⟩;have:=h.low z (by simp);rcases AA.1 (h.all x (by omega) hn) with e | e
 ·omega
 ·exact e
theorem Chg.flat {S:Int→List R4} {lo:Int} {r:List Int} (h:Chg S r lo) {x:Int} (hx:lo - 1≤x) (hr: ∀z∈r,x<z):S x=S (lo - 1):=
 const' S hx fun y h1 h2=>AL fun hn=>by have:=hr y (h.all y (by omega) hn);omega
def bxs (S:Int→List R4):List Int→List R6
 | []=>[]
 | z::r=>(match r with
  | []=>[]
  | z'::_=>(S z).map (pz6 z z'))++bxs S r
def gbs (S:Int→List R4):List Int→List (z0l R4)
 | []=>[]
 | z::r=>(match r with
  | []=>[]
  | z'::_=>match S z with
   | []=>[]
   | t::s=>[⟨z,z',t::s⟩])++gbs S r
theorem w6c (S:Int→List R4): ∀r,D6.flat (gbs S r)=bxs S r
 | []=>rfl
 | [z]=>rfl
 | z::z'::r=>by
  have ih:=w6c S (z'::r);show D6.flat ((match S z with | []=>[] | t::s=>[⟨z,z',t::s⟩])++gbs S (z'::r))=(S z).map (pz6 z z')++bxs S (z'::r);rw [D6.flat_append,ih]
  congr 1
  cases S z with
  | nil=>rfl
  | cons t s=>exact D6.flat_one _
theorem x2o (S:Int→List R4): ∀(r:List Int) (lo:Int),Chg S r lo→ ∀g∈gbs S r,g.a∈r∧g.a<g.b∧g.s=S g.a∧g.s≠ []∧ ∀x,g.a≤x→x<g.b→S x=g.s
 | [],_,_,g,hg=>by cases hg
 | [z],_,_,g,hg=>by cases hg
 | z ::z'::r,lo,h,g,hg=>by
  have ht:=h.tail;rcases AD.1 hg with hg | hg
  ·have hz:=ht.low z' (by simp);have ht2:=(AQ.1 ht.asc).1;have cst: ∀x,z≤x→x<z'→S x=S z:=fun x h1 h2=>by
    have:=ht.flat (x:=x) (by omega) fun y hy=>by
     rcases AA.1 hy with rfl | hy
     ·exact h2
     ·have:=ht2 y hy;omega
    rw [this,show z+1 - 1=z by omega]
   have hg:g∈(match S z with | []=>[] | t::s=>[(⟨z,z',t::s⟩:z0l R4)]):=hg;cases e:S z with
   | nil=>rw [e] at hg;cases hg
   | cons t s=>rw [e] at hg;obtain rfl:=AN.1 hg;exact ⟨by simp,by show z<z';omega,e.symm,by simp,fun x h1 h2=>(cst x h1 h2).trans e⟩
  ·obtain ⟨g1,g2⟩:=x2o S (z'::r) (z+1) ht g hg;exact ⟨by simp only [AA] at g1 ⊢;exact .inr g1,g2⟩
theorem v6v (S:Int→List R4) (hS: ∀x,Wz.can (S x)): ∀(r:List Int) (lo:Int),Chg S r lo→z2s Wz (gbs S r)
 | [],_,_=>.nil
 | [z],_,_=>.nil
 | z ::z'::r,lo,h=>by
  have ht:=h.tail;have ih:=v6v S hS (z'::r) (z+1) ht;have hz:=ht.low z' (by simp);have ht2:=(AQ.1 ht.asc).1;show z2s Wz ((match S z with | []=>[] | t::s=>[⟨z,z',t::s⟩])++gbs S (z'::r));cases e:S z with
  | nil=>exact ih
  | cons t s=>
   have ok:OkS Wz (⟨z,z',t::s⟩:z0l R4):=⟨by show z<z';omega,by show Wz.can (t::s);rw [←e];exact hS z,by simp⟩
   cases eg:gbs S (z'::r) with
   | nil=>exact .one _ ok
   | cons k G=>
    rw [eg] at ih;obtain ⟨m1,_,m3,_⟩:=x2o S (z'::r) (z+1) ht k (by rw [eg];simp);refine .cons _ k G ok ⟨?_,fun eb es=> ?_⟩ ih
    ·show z'≤k.a;rcases AA.1 m1 with e | e
     ·omega
     ·have:=ht2 _ e;omega
    ·have eb:z'=k.a:=eb;have es:t::s=k.s:=es;have c:=ht.flat (x:=z' - 1) (by omega) fun y hy=>by
      rcases AA.1 hy with rfl | hy
      ·omega
      ·have:=ht2 y hy;omega
     refine ht.ne z' (by simp) ?_;rw [c,show z+1 - 1=z by omega,e,es,m3,←eb]
theorem v6u (S:Int→List R4) (hf: ∀x,1000000≤x→S x=[]): ∀(r:List Int) (lo:Int),Chg S r lo→S (lo - 1)=[]→ ∀x,S x≠ []→lo≤x→ ∃g∈gbs S r,g.a≤x∧x<g.b
 | [],lo,h,h0,x,hx,hlo=>by refine (hx ?_).elim;rw [h.flat (by omega) (by simp),h0]
 | [z],lo,h,h0,x,hx,hlo=>by
  have hz:=h.low z (by simp);by_cases q:x<z
  ·refine (hx ?_).elim;rw [h.flat (by omega) (by simpa using q),h0]
  ·refine (hx ?_).elim;have ht:=h.tail;have e1:=ht.flat (x:=x) (by omega) (by simp);have e2:=ht.flat (x:=x+2000000+z.natAbs) (by omega) (by simp);rw [e1,←e2];exact hf _ (by omega)
 | z ::z'::r,lo,h,h0,x,hx,hlo=>by
  have ht:=h.tail;have hz:=h.low z (by simp);have hz':=ht.low z' (by simp);have ht2:=(AQ.1 ht.asc).1;by_cases q:x<z
  ·refine (hx ?_).elim;rw [h.flat (by omega) fun y hy=>by
    rcases AA.1 hy with rfl | hy
    ·exact q
    ·have:=(AQ.1 h.asc).1 y hy;omega,h0]
  by_cases q2:x<z'
  ·have c:S x=S z:=by
    have:=ht.flat (x:=x) (by omega) fun y hy=>by
     rcases AA.1 hy with rfl | hy
     ·exact q2
     ·have:=ht2 y hy;omega
    rw [this,show z+1 - 1=z by omega]
   cases e:S z with
   | nil=>exact (hx (c.trans e)).elim
   | cons t s=>refine ⟨⟨z,z',t::s⟩,?_,by show z≤x;omega,q2⟩;show _∈(match S z with | []=>[] | t::s=>[⟨z,z',t::s⟩])++gbs S (z'::r);rw [e];simp
  ·have go: ∃g∈gbs S (z'::r),g.a≤x∧x<g.b:=by
    by_cases hS:S z=[]
    ·exact v6u S hf (z'::r) (z+1) ht (by rw [show z+1 - 1=z by omega];exact hS) x hx (by omega)
    ·-- the section before z' is not empty: start at z'
     exact gbs_hit2 S hf z' r ((z+1)) ht x hx (by omega)
   obtain ⟨g,hg,hh⟩:=go;exact ⟨g,AD.2 (.inr hg),hh⟩
where
 gbs_hit2 (S:Int→List R4) (hf: ∀x,1000000≤x→S x=[]) (z':Int): ∀(r:List Int) (lo:Int),Chg S (z'::r) lo→ ∀x,S x≠ []→z'≤x→ ∃g∈gbs S (z'::r),g.a≤x∧x<g.b
  | [],lo,h,x,hx,hlo=>by refine (hx ?_).elim;have ht:=h.tail;have e1:=ht.flat (x:=x) (by omega) (by simp);have e2:=ht.flat (x:=x+2000000+z'.natAbs) (by omega) (by simp);rw [e1,←e2];exact hf _ (by omega)
  | z2::r,lo,h,x,hx,hlo=>by
   have ht:=h.tail;have hz':=ht.low z2 (by simp);have ht2:=(AQ.1 ht.asc).1;by_cases q2:x<z2
   ·have c:S x=S z':=by
     have:=ht.flat (x:=x) (by omega) fun y hy=>by
      rcases AA.1 hy with rfl | hy
      ·exact q2
      ·have:=ht2 y hy;omega
     rw [this,show z'+1 - 1=z' by omega]
    cases e:S z' with
    | nil=>exact (hx (c.trans e)).elim
    | cons t s=>refine ⟨⟨z',z2,t::s⟩,?_,by show z'≤x;omega,q2⟩;show _∈(match S z' with | []=>[] | t::s=>[⟨z',z2,t::s⟩])++gbs S (z2::r);rw [e];simp
   ·obtain ⟨g,hg,hh⟩:=gbs_hit2 S hf z2 r (z'+1) ht x hx (by omega);exact ⟨g,AD.2 (.inr hg),hh⟩
theorem y0l {x y z:Int} (hx: -1000000≤x∧x≤1000000) (hy: -1000000≤y∧y≤1000000) (hz: -1000000≤z∧z≤1000000):x2r x y z=true:=by
 unfold x2r;rw [Ac,Al,Al];unfold Jm Jg;constructor
 ·(repeat' split) <;> omega
 ·(repeat' split) <;> omega
theorem v1u (q:Ax) (s:Bool) {p:Int} (hp: -1000000≤p∧p≤1000000) {t:R4} (ht:Wh t=true):w3e (qd q s p t)=true:=by
 simp only [Wh,Ac,Al] at ht;have bb: ∀{x:Int},(-1000000≤x∧x≤1000000)→(-1000000≤x∧x≤1000000):=fun h=>h;have ha: -1000000≤t.a∧t.a≤1000000:=by omega
 have hb: -1000000≤t.b∧t.b≤1000000:=by omega
 have hc: -1000000≤t.c∧t.c≤1000000:=by omega
 have hd: -1000000≤t.d∧t.d≤1000000:=by omega
 have h1:decide (t.a<t.c)=true:=Ah (by omega);have h2:decide (t.b<t.d)=true:=Ah (by omega);have hq:(p == p)=true:=by simp
 cases q <;> cases s <;> unfold w3e qd <;> simp only [y0l hp ha hb,y0l hp hc hd,y0l ha hp hb,y0l hc hp hd,y0l ha hb hp,y0l hc hd hp,h1,h2,hq] <;> rfl
section
variable {L:List R6} (h:Yo L=0) (hl:L.length≤20)
include h hl
theorem j4n (q:Ax) (s:Bool) (p:Int): ∀t∈fcF q s L p,Wh t=true:=by
 obtain ⟨_,hv,_,hL⟩:=Wx h;have f1:=fw q hv hl (p - 1);have f2:=fw q hv hl p;cases s with
 | true=>obtain ⟨u1,u2⟩:=y4g q hv hl p;refine Qk u1 fun u v k=> ?_;have:=((u2 u v).1 k).1;rw [←y1r,←f1.pts] at this;exact z1b f1.val this
 | false=>obtain ⟨u1,u2⟩:=y6m q hv hl p;refine Qk u1 fun u v k=> ?_;have:=((u2 u v).1 k).1;rw [←y1r,←f2.pts] at this;exact z1b f2.val this
theorem w5g {r:R7} (hr:r∈Jh L): ∃q s p t,p∈plQ q L∧t∈fcF q s L p∧r=qd q s p t:=by
 obtain ⟨_,hv,_,hL⟩:=Wx h;have go: ∀q s,r∈dM q s L→ ∃q s p t,p∈plQ q L∧t∈fcF q s L p∧r=qd q s p t:=fun q s k=>by rw [v7t hv hl hL] at k;obtain ⟨p,hp,k⟩:=AP.1 k;obtain ⟨t,ht,rfl⟩:=AO.1 k;exact ⟨q,s,p,t,hp,ht,rfl⟩
 unfold Jh at hr;simp only [AD] at hr;rcases hr with ((((hr | hr) | hr) | hr) | hr) | hr
 ·exact go _ _ hr
 ·exact go _ _ hr
 ·exact go _ _ hr
 ·exact go _ _ hr
 ·exact go _ _ hr
 ·exact go _ _ hr
theorem y9u :z6h (Jh L)=0∧Vx (Jh L)=true:=by
 obtain ⟨_,hv,_,hL⟩:=Wx h;have hn:=(z8h hv hl hL).2;constructor
 ·unfold z6h;rw [Ay (by omega),At.2 fun r hr=> ?_];rfl;obtain ⟨q,s,p,t,hp,ht,rfl⟩:=w5g h hl hr;exact v1u q s (v4r hv hl hL q hp) (j4n h hl q s p t ht)
 ·refine At.2 fun r hr=> ?_;obtain ⟨q,s,p,t,hp,ht,rfl⟩:=w5g h hl hr;rw [qd_a];cases q <;> cases s <;> rfl
theorem w6n :Chg (D6.inn L) (plZ (Jh L)) (-1000000):=by refine ⟨by unfold plZ;rw [Jj];exact (Xn _).1,fun z hz=> ?_,fun z hz=>(x9i h hl z).1 hz,fun x _ hn=>(x9i h hl x).2 hn⟩;refine AL fun hn=>(x9i h hl z).1 hz ?_;rw [far h hl (.inl (by omega)),far h hl (.inl (by omega))]
theorem u9c : ∀(r:List Int) (lo:Int) (bx:List R6),Chg (D6.inn L) r lo→goP (Jh L) r (D6.inn L (lo - 1)) bx=some (bx++bxs (D6.inn L) r)
 | [],lo,bx,_=>by simp [goP,bxs]
 | z::r,lo,bx,c=>by
  have hz:=c.low z (by simp);have hc:=(AQ.1 c.asc).1;have e:D6.inn L (lo - 1)=D6.inn L (z - 1):=(c.flat (x:=z - 1) (by omega) fun y hy=>by
   rcases AA.1 hy with rfl | hy
   ·omega
   ·have:=hc y hy;omega).symm
  obtain ⟨s1,s2⟩:=step_z h hl (c.ne z (by simp));obtain ⟨q4,q5⟩:=y4f h hl z;have ih:=fun b=>u9c r (z+1) b c.tail;rw [show z+1 - 1=z by omega] at ih;rw [e];unfold goP;rw [q4,q5,s1,Aa,s2,ih,AM];rfl
theorem u4j :bxs (D6.inn L) (plZ (Jh L))=L:=by
 have c:=w6n h hl;have hS: ∀x,Wz.can (D6.inn L x):=fun x=>(j0v h hl x).1;have hf: ∀x,1000000≤x→D6.inn L x=[]:=fun x hx=>far h hl (.inr hx);have hg:=v6v (D6.inn L) hS _ _ c;rw [←w6c];refine x7x.uniq _ _ ⟨_,hg,rfl⟩ (x7z h) fun ⟨x,p⟩=> ?_;rw [show ptL x7x.inB (D6.flat (gbs (D6.inn L) (plZ (Jh L)))) (x,p)↔_ from Dim.flat_pt z3y Wz _ x p,show ptL x7x.inB L (x,p)↔_ from (Dim.pt_inn (D:=D6) Wz.inB L x p).symm];constructor
 ·rintro ⟨g,hg,g1,g2,g3⟩;obtain ⟨_,_,_,_,m⟩:=x2o (D6.inn L) _ _ c g hg;rw [m x g1 g2];exact g3
 ·intro k;have hx:D6.inn L x≠ []:=fun e=>by rw [e] at k;exact z4w _ _ k
  have hlo: -1000000≤x:=AL fun hn=>hx (far h hl (.inl (by omega)));obtain ⟨g,hg,g1,g2⟩:=v6u (D6.inn L) hf _ _ c (far h hl (.inl (by omega))) x hx hlo;obtain ⟨_,_,_,_,m⟩:=x2o (D6.inn L) _ _ c g hg;exact ⟨g,hg,g1,g2,by rw [←m x g1 g2];exact k⟩
theorem back :x5h (Jh L)=0∧z1j (Jh L)=L:=by
 obtain ⟨_,hv,_,hL⟩:=Wx h;have hc:=(y9u h hl).1;have hg:goP (Jh L) (plZ (Jh L)) [] []=some L:=by have:=u9c h hl (plZ (Jh L)) (-1000000) [] (w6n h hl);rw [far h hl (.inl (by omega)),u4j h hl] at this;exact this
 obtain ⟨m1,m0⟩:=w3k h;have hz:=(z8h hv hl hL).1;have e:msoE (Jh L)=0:=by unfold msoE;rw [hc,hg];show finE (Jh L) L=0;unfold finE z4d Js;rw [m1,m0,hz,show y8y (x2u 0 (Jh L)) (Jh L)=true from Ah rfl];rfl
 refine ⟨e,?_⟩;unfold z1j msoL;rw [e,hg];show Xk L=L;exact m0
end
def two2 :List R6:=[⟨0,0,0,1,1,1⟩,⟨1,1,0,2,2,1⟩]
theorem srt01 :Xu [0,1]=[0,1]:=List.mergeSort_of_pairwise (by simp)
theorem can1 (a b:Int) (h:a<b):y8r.can [⟨a,b⟩]:=⟨by simpa using h,by simp⟩
theorem v2w :Yo two2=0:=by
 refine x1i (by decide) ?_ ⟨[⟨0,1,[⟨0,0,1,1⟩,⟨1,1,2,2⟩]⟩],.one _ ⟨by decide,⟨[⟨0,1,[⟨0,1⟩]⟩,⟨1,2,[⟨1,2⟩]⟩],?_,rfl⟩,by simp⟩,rfl⟩
 ·intro r hr;simp only [two2,AA,Bz,Co] at hr;rcases hr with rfl | rfl <;> rfl
 ·exact .cons _ _ [] ⟨by decide,can1 0 1 (by decide),by simp⟩ ⟨by decide,fun _=>by simp⟩ (.one _ ⟨by decide,can1 1 2 (by decide),by simp⟩)
def one1 :List R6:=[⟨0,0,0,2,1,1⟩]
theorem x1j :Yo one1=0:=by refine x1i (by decide) ?_ ⟨[⟨0,1,[⟨0,0,2,1⟩]⟩],.one _ ⟨by decide,⟨[⟨0,2,[⟨0,1⟩]⟩],.one _ ⟨by decide,can1 0 1 (by decide),by simp⟩,rfl⟩,by simp⟩,rfl⟩;intro r hr;obtain rfl:=AN.1 hr;rfl
theorem can2 (r:R4) (h1:r.a<r.c) (h2:r.b<r.d):Wz.can [r]:=⟨[⟨r.a,r.c,[⟨r.b,r.d⟩]⟩],.one _ ⟨h1,can1 _ _ h2,by simp⟩,rfl⟩
theorem z9d (q:Ax) {r:R6} (hr:Jf r=true) (p:Int):upF q [r] p=(if p=q.hi r then [q.rc r] else [])∧dnF q [r] p=(if p=q.lo r then [q.rc r] else []):=by
 have hv: ∀s∈ [r],Jf s=true:=fun s hs=>by rw [AN.1 hs];exact hr
 have hL: [r].Pairwise Ap6:=by simp
 have hlt: ∀s∈ [r],q.lo s<q.hi s:=fun s hs=>(q.val (hv s hs)).2.1;obtain ⟨u1,u2⟩:=y4g q hv (by simp) p;obtain ⟨d1,d2⟩:=y6m q hv (by simp) p;have hlo:=hlt r (by simp);have c:Wz.can [q.rc r]:=by have:=(q.val hr).1;simp only [Wh,Ac,Al] at this;exact can2 _ this.1 this.2.1
 have ci: ∀P:Prop,∀i:Decidable P,Wz.can (@ite _ P i [q.rc r] []):=fun P i=>by
  by_cases h:P
  ·rw [Au h];exact c
  ·rw [Ao h];exact Wz.nil
 constructor
 ·refine Wz.uniq _ _ u1 (ci _ _) fun ⟨u,v⟩=> ?_;rw [u2,x1b q hL hlt,v6p,v6a,u7j];by_cases e:p=q.hi r
  ·rw [Au e];constructor
   ·rintro ⟨⟨s,hs,_,k⟩,_⟩;rw [AN.1 hs] at k;exact ⟨_,by simp,k⟩
   ·rintro ⟨s,hs,k⟩;rw [AN.1 hs] at k;refine ⟨⟨r,by simp,e.symm,k⟩,?_⟩;rintro ⟨s,hs,e2,_⟩;rw [AN.1 hs] at e2;omega
  ·rw [Ao e];constructor
   ·rintro ⟨⟨s,hs,e2,_⟩,_⟩;rw [AN.1 hs] at e2;exact (e e2.symm).elim
   ·rintro ⟨s,hs,_⟩;cases hs
 ·refine Wz.uniq _ _ d1 (ci _ _) fun ⟨u,v⟩=> ?_;rw [d2,y0n q hL hlt,v6p,v6a,u7j];by_cases e:p=q.lo r
  ·rw [Au e];constructor
   ·rintro ⟨⟨s,hs,_,k⟩,_⟩;rw [AN.1 hs] at k;exact ⟨_,by simp,k⟩
   ·rintro ⟨s,hs,k⟩;rw [AN.1 hs] at k;refine ⟨⟨r,by simp,e.symm,k⟩,?_⟩;rintro ⟨s,hs,e2,_⟩;rw [AN.1 hs] at e2;omega
  ·rw [Ao e];constructor
   ·rintro ⟨⟨s,hs,e2,_⟩,_⟩;rw [AN.1 hs] at e2;exact (e e2.symm).elim
   ·rintro ⟨s,hs,_⟩;cases hs
theorem pl_one (q:Ax) (r:R6) (h:q.lo r<q.hi r):plQ q [r]=[q.lo r,q.hi r]:=y0s _ _ (z9x q _) (by simp [h]) fun x=>by rw [z4z];simp
theorem u2c :Jh one1=[⟨0,2,0,0,2,1,1⟩,⟨1,0,0,0,0,1,1⟩,⟨2,0,1,0,2,1,1⟩,⟨3,0,0,0,2,0,1⟩,⟨4,0,0,1,2,1,1⟩,⟨5,0,0,0,2,1,0⟩]:=by
 obtain ⟨_,hv,_,hL⟩:=Wx x1j;have hr:=hv ⟨0,0,0,2,1,1⟩ (by simp [one1]);have up: ∀(q:Ax) (s:Bool),dM q s one1=[match s with | true=>qd q true (q.hi ⟨0,0,0,2,1,1⟩) (q.rc ⟨0,0,0,2,1,1⟩) | false=>qd q false (q.lo ⟨0,0,0,2,1,1⟩) (q.rc ⟨0,0,0,2,1,1⟩)]:=fun q s=>by
  have hlt:=(q.val hr).2.1;rw [v7t hv (by decide) hL,show plQ q one1=_ from pl_one q _ hlt];cases s with
  | true=>show (upF q one1 _).map _++((upF q one1 _).map _++[])=_;rw [show∀p,upF q one1 p=_ from fun p=>(z9d q hr p).1,show∀p,upF q one1 p=_ from fun p=>(z9d q hr p).1,Ao (by omega),Au rfl];rfl
  | false=>show (dnF q one1 _).map _++((dnF q one1 _).map _++[])=_;rw [show∀p,dnF q one1 p=_ from fun p=>(z9d q hr p).2,show∀p,dnF q one1 p=_ from fun p=>(z9d q hr p).2,Au rfl,Ao (by omega)];rfl
 unfold Jh;rw [up,up,up,up,up,up];rfl
theorem v4s :z2e two2=1∧z8g two2=0:=by
 refine ⟨?_,v2w⟩;unfold z2e;rw [v2w];have ex:y3f .x two2 two2.length=0:=by kernel_rfl
 have ey:y3f .y two2 two2.length=0:=by kernel_rfl
 have ez:y3f .z two2 two2.length=1:=by
  show 0+j1l .z two2 0+j1l .z two2 1=1;have e0:j1l .z two2 0=0:=by kernel_rfl
  have e1:j1l .z two2 1=w8w .z two2 1 1 0 1 true+0:=by kernel_rfl
  rw [e0,e1,A5];unfold w8w;rw [show ([0,1]++v7v .z 0 1 two2:List Int)=[0,1] by kernel_rfl,srt01];have e2:(0:Int)+0+(bif decide ((0:Int)≥1) then 0 else wrap .i64 (sgL (gO .z two2 1 1 0) [0,1]))=1:=by kernel_rfl
  exact e2
 rw [ex,ey,ez];rfl
theorem u4m : ∃N,Yz x3d N z9f=.ret [.bool true]:=by refine ⟨0,?_⟩;obtain ⟨o1,o0⟩:=v4y x1j (by decide);obtain ⟨b1,b0⟩:=back x1j (by decide);have w:=(y9u x1j (by decide)).2;rw [u2c] at o0 b1 b0 w;unfold z9f;have e1:([(R6.mk 0 0 0 2 1 1)]:List R6)=one1:=rfl;have e2:([(R6.mk 0 0 0 1 1 1),(R6.mk 1 1 0 2 2 1)]:List R6)=two2:=rfl;simp only [Zm,e1,e2,o1,o0,b1,b0,show z2f one1=true from rfl,show z0o two2=true from rfl,v4s.1,v4s.2,w,show Vr one1 one1=true from rfl,show Km one1 one1=true from Ah rfl];rfl
def fAl :List AVal→Option (AVal×Bool)
 | []=>some (.bool true,true)
 | _=>none
theorem fAl_ok {S:Specs} (hS:Zu prog S):Zu prog (S.with w4w fAl):=by
 refine z0v hS (by kernel_rfl) fun args v h=> ?_;unfold fAl at h;split at h
 ·simp only [Ae,Ad,BV] at h;subst h;obtain ⟨N,hN⟩:=u4m;exact ⟨_,_,.nil,rfl,v8p N _ hN,3,rfl⟩
 ·cases h
def Ml :Specs:=(Nk.with w4w fAl)
theorem Ml_ok :Zu prog Ml:=(fAl_ok y2f)
def a7 (r:R7):Int:=w9f r.a r.b r.c r.d r.e r.f r.g
theorem v5y {r:R7} (h0:0≤r.a) (h:w3e r=true):Uj r.a r.b r.c r.d r.e r.f r.g=true:=by have:=v1v h;unfold Uj;rw [Ah h0,Ah this];rfl
theorem u7m {L:List R7} (h:Vx L=true) {r:R7} (hr:r∈L):0≤r.a:=by have:=At.1 h r hr;simp only [Ac,Al] at this;exact this.1
def z6i (L:List R7):Int:=bif z6h L != 0 then 0 else wrap .i64 (sm L a7)
def x0a (L:List R7):Int:=z6h L
def z2k (L:List R7):Bool:=Vx L
theorem u9a (L:List R7) (hl:L.length≤3000) (ho: ∀r∈L,0≤r.a∧w3e r=true): ∀(k i:Nat) (S:Int),i+k=L.length→ ∃N,Yz (y0c L) N (.to (.h0 (wrap .i64 S) (i:Int)))=.ret [.int .i64 (wrap .i64 (S+sm (L.drop i) a7)),.int .i64 0]
 | 0,i,S,h=>by refine ⟨1,?_⟩;rw [Zv,Av (by omega),z1e,A5];simp (disch:=omega) only [y0c,Yx,Aa,Za]
 | k+1,i,S,h=>by
  have hi:i<L.length:=by omega
  obtain ⟨N,hN⟩:=u9a L hl ho k (i+1) (S+a7 (rd L i)) (by omega);refine ⟨N+1,?_⟩;have hm:rd L i∈L:=by rw [Xz hi];exact AS hi
  have o:=v5y (ho _ hm).1 (ho _ hm).2;have w:wrap .i64 (wrap .i64 S+w9f (rd L i).a (rd L i).b (rd L i).c (rd L i).d (rd L i).e (rd L i).f (rd L i).g)=wrap .i64 (S+a7 (rd L i)):=Cg.eq ((Cg.wrap S).add (Cg.refl _));rw [Zv,Yq hi,Xd,←Int.add_assoc,←hN]
  congr 1
  simp (disch:=omega) only [y0c,Zs,Zt,Zq,Zx,Zj,o,w,Ai,Ab]
theorem j3v (L:List R7) (h:z2k L=true): ∃N,Yz (y0c L) N (y3o L)=.ret [.int .i64 (z6i L),.int .i64 (x0a L)]:=by
 unfold y3o z6i x0a;simp only [Zm,show Vx L=true from h,Ab];rcases Yp (z6h L != 0) with q1 | q1
 ·exact ⟨0,by simp only [q1,Ab];rfl⟩
 ·have e:z6h L=0:=by simpa using q1
  obtain ⟨hl,hv⟩:=x2d e;obtain ⟨N,hN⟩:=u9a L hl (fun r hr=>⟨u7m h hr,hv r hr⟩) L.length 0 0 (Ag _);refine ⟨N,?_⟩;simp only [q1,Aa];rw [e];rw [A0,BN] at hN;exact hN
def cd7 (x:Int) (r:R7):Int:=if x=0 then r.b else if x=1 then r.c else r.d
def w6w (x:Int) (r:R7):Int:=bif r.a == 2*x then a7 r*cd7 x r else bif r.a == 2*x+1 then -(a7 r*cd7 x r) else 0
def z4e (L:List R7) (x:Int):Int:=bif z6h L != 0 then 0 else bif decide (x<0) then 0 else bif decide (x>2) then 0 else wrap .i64 (sm L (w6w x))
def y5n (L:List R7) (x:Int):Int:=bif z6h L != 0 then z6h L else bif decide (x<0) then 2 else bif decide (x>2) then 2 else 0
def z2j (L:List R7) (x:Int):Bool:=Vx L
theorem u8z (L:List R7) (x:Int) (hx:0≤x∧x≤2) (hl:L.length≤3000) (ho: ∀r∈L,0≤r.a∧w3e r=true): ∀(k i:Nat) (S:Int),i+k=L.length→ ∃N,Yz (y0b L x) N (.to (.h0 (wrap .i64 S) (i:Int)))=.ret [.int .i64 (wrap .i64 (S+sm (L.drop i) (w6w x))),.int .i64 0]
 | 0,i,S,h=>by refine ⟨1,?_⟩;rw [Zv,Av (by omega),z1e,A5];simp (disch:=omega) only [y0b,Yx,Aa,Za]
 | k+1,i,S,h=>by
  have hi:i<L.length:=by omega
  obtain ⟨N,hN⟩:=u8z L x hx hl ho k (i+1) (S+w6w x (rd L i)) (by omega);refine ⟨N+1,?_⟩;have hm:rd L i∈L:=by rw [Xz hi];exact AS hi
  have o:=v5y (ho _ hm).1 (ho _ hm).2;have ha:=v1v (ho _ hm).2;have ha0:=(ho _ hm).1;have em: ∀y,w9f (rd L i).a (rd L i).b (rd L i).c (rd L i).d (rd L i).e (rd L i).f (rd L i).g *y=a7 (rd L i)*y:=fun y=>rfl;have wp: ∀y,wrap .i64 (wrap .i64 S+wrap .i64 y)=wrap .i64 (S+y):=fun y=>Cg.eq ((Cg.wrap S).add (Cg.wrap _));have wm: ∀y,wrap .i64 (wrap .i64 S - wrap .i64 y)=wrap .i64 (S - y):=fun y=>Cg.eq ((Cg.wrap S).sub (Cg.wrap _));have wa:wrap .i64 (rd L i).a =(rd L i).a :=Zq (by omega);rw [Zv,Yq hi,Xd,←Int.add_assoc,←hN]
  congr 1
  have h0:decide ((i:Int)<(L.length:Int))=true:=Ah (by omega);have h1:decide (0≤(i:Int)∧(i:Int)<(L.length:Int))=true:=Ah (by omega);have w3:wrap .i64 ((i:Int)+1)=((i+1:Nat):Int):=by rw [Zq (by omega)];rfl
  have w2:wrap .i64 (2*x)=2*x:=Zq (by omega);have w21:wrap .i64 (2*x+1)=2*x+1:=Zq (by omega);have:x=0∨x=1∨x=2:=by omega
  have key: ∀(c1 c2:Bool) (A B C:Int),(bif c1 then wrap .i64 (S+A) else bif c2 then wrap .i64 (S - A) else wrap .i64 S)=wrap .i64 (S+(bif c1 then A else bif c2 then -A else 0)):=fun c1 c2 A B C=>by
   cases c1
   ·cases c2
    ·show _=wrap .i64 (S+0);rw [A5];rfl
    ·rfl
   ·rfl
  unfold w6w;rw [←key _ _ _ 0 0];rcases this with rfl | rfl | rfl <;> simp only [y0b,h0,h1,w3,Zj,o,em,wp,wm,wa,w2,w21,Ai,Ab]
  ·cases (rd L i).a == 2*0 <;> cases (rd L i).a == 2*0+1 <;> rfl
  ·cases (rd L i).a == 2*1 <;> cases (rd L i).a == 2*1+1 <;> rfl
  ·cases (rd L i).a == 2*2 <;> cases (rd L i).a == 2*2+1 <;> rfl
theorem j3u (L:List R7) (x:Int) (h:z2j L x=true): ∃N,Yz (y0b L x) N (y3n L x)=.ret [.int .i64 (z4e L x),.int .i64 (y5n L x)]:=by
 unfold y3n z4e y5n;simp only [Zm,show Vx L=true from h,Ab];rcases Yp (z6h L != 0) with q1 | q1
 ·exact ⟨0,by simp only [q1,Ab];rfl⟩
 rcases Yp (decide (x<0)) with q2 | q2
 ·exact ⟨0,by simp only [q1,q2,Ab,Aa];rfl⟩
 rcases Yp (decide (x>2)) with q3 | q3
 ·exact ⟨0,by simp only [q1,q2,q3,Ab,Aa];rfl⟩
 have e:z6h L=0:=by simpa using q1
 obtain ⟨hl,hv⟩:=x2d e;have hx:0≤x∧x≤2:=by have h2:=Cj q2;have h3:=Cj q3;omega
 obtain ⟨N,hN⟩:=u8z L x hx hl (fun r hr=>⟨u7m h hr,hv r hr⟩) L.length 0 0 (Ag _);refine ⟨N,?_⟩;simp only [q1,q2,q3,Aa];rw [A0,BN] at hN;exact hN
def fMAr :List AVal→Option (AVal×Bool)
 | [a0]=>match asL R7 a0 with
  | some (L0,g0,n0)=>some (.tup [.int .i64 (z6i L0),.int .i64 (x0a L0)],isT R7 n0 g0&&(z2k L0))
  | _=>none
 | _=>none
theorem j5q {S:Specs} (hS:Zu prog S):Zu prog (S.with u7w fMAr):=by
 refine z0v hS (by kernel_rfl) fun args v h=> ?_;unfold fMAr at h;split at h
 ·rename_i a0;split at h
  ·rename_i L0 g0 n0 e0;simp only [Ae,Ad,Ac] at h;obtain ⟨rfl,ho0,hw⟩:=h;obtain ⟨N,hN⟩:=j3v L0 hw;exact ⟨_,_,(.cons (asL_le e0 ho0) .nil),rfl,u2q L0 N _ hN,3,rfl⟩
  ·cases h
 ·cases h
def fMVo :List AVal→Option (AVal×Bool)
 | [a0,.int .i64 x1]=>match asL R7 a0 with
  | some (L0,g0,n0)=>some (.tup [.int .i64 (z4e L0 x1),.int .i64 (y5n L0 x1)],isT R7 n0 g0&&(z2j L0 x1))
  | _=>none
 | _=>none
theorem j5p {S:Specs} (hS:Zu prog S):Zu prog (S.with nMVol fMVo):=by
 refine z0v hS (by kernel_rfl) fun args v h=> ?_;unfold fMVo at h;split at h
 ·rename_i a0 x1;split at h
  ·rename_i L0 g0 n0 e0;simp only [Ae,Ad,Ac] at h;obtain ⟨rfl,ho0,hw⟩:=h;obtain ⟨N,hN⟩:=j3u L0 x1 hw;exact ⟨_,_,(.cons (asL_le e0 ho0) (.cons (.refl _) .nil)),rfl,u2p L0 x1 N _ hN,3,rfl⟩
  ·cases h
 ·cases h
def v1k (x y z lo:Int):Bool:=decide (x≥lo)&&(decide (y≥lo)&&(decide (z≥lo)&&(decide (x≤1000000)&&(decide (y≤1000000)&&decide (z≤1000000)))))
theorem j1w (x y z lo:Int): ∃N,Yz (x8n x y z lo) N (y2z x y z lo)=.ret [.bool (v1k x y z lo)]:=⟨0,by
 unfold y2z v1k;cases decide (x≥lo) <;> cases decide (y≥lo) <;> cases decide (z≥lo) <;> cases decide (x≤1000000) <;> cases decide (y≤1000000) <;> rfl⟩
def fRin :List AVal→Option (AVal×Bool)
 | [.agg [.int .i64 x,.int .i64 y,.int .i64 z],.int .i64 lo]=>some (.bool (v1k x y z lo),true)
 | _=>none
theorem j4z {S:Specs} (hS:Zu prog S):Zu prog (S.with nIn16 fRin):=by
 refine z0v hS (by kernel_rfl) fun args v h=> ?_;unfold fRin at h;split at h
 ·rename_i x y z lo;simp only [Ae,Ad,BV] at h;subst h;obtain ⟨N,hN⟩:=j1w x y z lo;exact ⟨_,_,(.cons (.refl _) (.cons (.refl _) .nil)),rfl,u0l x y z lo N _ hN,3,rfl⟩
 ·cases h
def j2g (t x y z:Int):Int:=bif decide (t≥24) then 8 else bif v1k x y z (-1000000) then 0 else 8
theorem j2f (t x y z:Int): ∃N,Yz (x8v t x y z) N (y3c t x y z)=.ret [.int .i64 (j2g t x y z)]:=⟨0,by
 unfold y3c j2g v1k;cases decide (t≥24) <;> cases decide (x≥(-1000000)) <;> cases decide (y≥(-1000000)) <;> cases decide (z≥(-1000000)) <;> cases decide (x≤1000000) <;> cases decide (y≤1000000) <;> cases decide (z≤1000000) <;> rfl⟩
def fRfk :List AVal→Option (AVal×Bool)
 | [.agg [.int .u8 t,.int .i64 x,.int .i64 y,.int .i64 z]]=>some (.int .i64 (j2g t x y z),true)
 | _=>none
theorem j5c {S:Specs} (hS:Zu prog S):Zu prog (S.with x5g fRfk):=by
 refine z0v hS (by kernel_rfl) fun args v h=> ?_;unfold fRfk at h;split at h
 ·rename_i t x y z;simp only [Ae,Ad,BV] at h;subst h;obtain ⟨N,hN⟩:=j2f t x y z;exact ⟨_,_,(.cons (.refl _) .nil),rfl,u1a t x y z N _ hN,3,rfl⟩
 ·cases h
def Np :Specs:=((((Ml.with u7w fMAr).with nMVol fMVo).with w4n fPlc).with x5g fRfk).with nIn16 fRin
theorem z4l :Zu prog Np:=j4z (j5c (j5e (j5p (j5q Ml_ok))))
inductive mppS where
abbrev Uu (l0:List R6) (aJ:Int) (aH:Int) (aI:Int) (aP:Int):=(Yu (cvT (Wi (cvT l0) aJ aH aI aP)))
abbrev Un (l0:List R6) (aJ:Int) (aH:Int) (aI:Int) (aP:Int):=(Zz (Wi (cvT l0) aJ aH aI aP))
abbrev z4c (l0:List R6):=(Zz (Yu (cvT l0)))
abbrev Ui (l0:List R6) (aJ:Int) (aH:Int) (aI:Int) (aP:Int):=(Wi (cvT l0) aJ aH aI aP)
def mppC (l0:List R6) (aJ:Int) (aH:Int) (aI:Int) (aP:Int):mppS→Cfg
 :=nofun
def x9p (l0:List R6) (aJ:Int) (aH:Int) (aI:Int) (aP:Int):mppS→Xp mppS
 :=nofun
def y3i (l0:List R6) (aJ:Int) (aH:Int) (aI:Int) (aP:Int):Xp mppS:=(bif (z8o (cvT l0)) then (bif (!(j4g (cvT l0))) then (.ret [(.bool true)]) else (bif ((j2g aJ aH aI aP) != 0) then (.ret [(.bool true)]) else (bif (!(v1k aH aI aP (-1000))) then (.ret [(.bool true)]) else (bif (!(v1k (wrap .i64 ((-1)*aH)) (wrap .i64 ((-1)*aI)) (wrap .i64 ((-1)*aP)) (-1000))) then (.ret [(.bool true)]) else (bif (y5d (cvT l0) aJ aH aI aP) then (bif ((Ka (cvT l0) aJ aH aI aP) != 0) then (bif ((Ka (cvT l0) aJ aH aI aP) == 16) then (.ret [(.bool true)]) else (.ret [(.bool ((Ka (cvT l0) aJ aH aI aP) == 4))])) else (bif (z0o (cvT l0)) then (bif (z0o (cvT (Wi (cvT l0) aJ aH aI aP))) then (bif (z2f (cvT l0)) then (bif (z2f (cvT (Wi (cvT l0) aJ aH aI aP))) then (bif ((z8g (cvT l0)) != 0) then (.ret [(.bool false)]) else (bif ((z8g (cvT (Wi (cvT l0) aJ aH aI aP))) != 0) then (.ret [(.bool false)]) else (bif ((z2e (cvT l0)) != (z2e (cvT (Wi (cvT l0) aJ aH aI aP)))) then (.ret [(.bool false)]) else (bif ((z2g (cvT l0)) != 0) then (.ret [(.bool false)]) else (bif ((z2g (cvT (Wi (cvT l0) aJ aH aI aP))) != 0) then (bif ((z2g (cvT (Wi (cvT l0) aJ aH aI aP))) != 4) then (.ret [(.bool false)]) else (.ret [(.bool true)])) else (bif (z2k (cvT (Yu (cvT l0)))) then (bif (z2k (cvT (Yu (cvT (Wi (cvT l0) aJ aH aI aP))))) then (bif (z2j (cvT (Yu (cvT l0))) 0) then (bif (z2j (cvT (Yu (cvT (Wi (cvT l0) aJ aH aI aP)))) 0) then (bif ((x0a (cvT (Yu (cvT l0)))) == 0) then (bif ((x0a (cvT (Yu (cvT (Wi (cvT l0) aJ aH aI aP))))) == 0) then (bif ((z6i (cvT (Yu (cvT l0)))) == (z6i (cvT (Yu (cvT (Wi (cvT l0) aJ aH aI aP)))))) then (bif ((y5n (cvT (Yu (cvT l0))) 0) == 0) then (bif ((y5n (cvT (Yu (cvT (Wi (cvT l0) aJ aH aI aP)))) 0) == 0) then (.ret [(.bool ((z4e (cvT (Yu (cvT l0))) 0) == (z4e (cvT (Yu (cvT (Wi (cvT l0) aJ aH aI aP)))) 0)))]) else (.ret [(.bool false)])) else (.ret [(.bool false)])) else (.ret [(.bool false)])) else (.ret [(.bool false)])) else (.ret [(.bool false)])) else .stuck) else .stuck) else .stuck) else .stuck)))))) else .stuck) else .stuck) else .stuck) else .stuck)) else .stuck))))) else .stuck)
theorem w8x (l0:List R6) (aJ:Int) (aH:Int) (aI:Int) (aP:Int): ∀s,Yr prog (Zy prog 12) (mppC l0 aJ aH aI aP) (mppC l0 aJ aH aI aP s) (x9p l0 aJ aH aI aP s)
 :=nofun
theorem x9q (l0:List R6) (aJ:Int) (aH:Int) (aI:Int) (aP:Int):Yr prog (Zy prog 12) (mppC l0 aJ aH aI aP) (Zb prog 12 [(.dat l0.length (Zz l0)),(.agg [(.int .u8 aJ),(.int .i64 aH),(.int .i64 aI),(.int .i64 aP)])] true []) (y3i l0 aJ aH aI aP):=(lo fun bQ=>(lb (fun k0=>(lr 161 12 [1,1,0,1,0,0] 1 5 [(4,(.bool true))] (sl z4l 45 [] ⟨[],[],[some [4]],[]⟩ ⟨[],[],[]⟩ (trs 15 []) (tt k0 (pp (pp (xr l0) (xw bQ)) nn))))) (fun k0=>(lb (fun k1=>(lr 161 12 [1,1,0,1,0,0] 1 5 [(4,(.bool true))] (sl z4l 45 [] ⟨[],[],[some [4]],[]⟩ ⟨[],[],[]⟩ [false,false,false,true,true,true,true,true,true,true,true,true,true,true,true] (tt k1 (tt k0 (pp (pp (xr l0) (xw bQ)) nn)))))) (fun k1=>(lb (fun k2=>(lr 161 12 [1,1,0,1,0,0] 1 5 [(4,(.bool true))] (sl z4l 45 [] ⟨[],[],[some [4]],[]⟩ ⟨[],[],[]⟩ [false,false,false,false,false,false,false,true,true,true,true,true,true,true,true] (tt k2 (tt k1 (tt k0 (pp (pp (xr l0) (xw bQ)) nn))))))) (fun k2=>(lb (fun k3=>(lr 161 12 [1,1,0,1,0,0] 1 5 [(4,(.bool true))] (sl z4l 68 [] ⟨[],[],[some [4]],[]⟩ ⟨[],[],[]⟩ [false,false,false,false,false,false,false,false,false,false,false,false,true,true,true] (tt k3 (tt k2 (tt k1 (tt k0 (pp (pp (xr l0) (xw bQ)) nn)))))))) (fun k3=>(lo fun bX=>(lb (fun k4=>(lb (fun k5=>(lr 161 12 [1,1,1,1,0,1,0,0] 1 5 [(4,(.bool true))] (sl z4l 95 [] ⟨[],[],[some [4]],[]⟩ ⟨[],[],[]⟩ [false,false,false,false,false,false,false,false,false,false,false,false,false,false,false,true,true,true,true,true,true,true] (tt k5 (tt k4 (pp (pp (xr l0) (xw bX)) (tt k3 (tt k2 (tt k1 (tt k0 (pp (pp (xr l0) (xw bQ)) nn))))))))))) (fun k5=>(lr 161 12 [1,1,1,1,0,1,0,0] 1 5 [(4,(.bool ((Ka (cvT l0) aJ aH aI aP) == 4)))] (sl z4l 95 [] ⟨[],[],[some [4]],[]⟩ ⟨[],[],[]⟩ [false,false,false,false,false,false,false,false,false,false,false,false,false,false,false,true,true,true,true,false,false,true] (tt k5 (tt k4 (pp (pp (xr l0) (xw bX)) (tt k3 (tt k2 (tt k1 (tt k0 (pp (pp (xr l0) (xw bQ)) nn))))))))))))) (fun k4=>(lo fun cE=>(lo fun cR=>(lo fun cS=>(lo fun cT=>(lb (fun k5=>(lr 161 12 [1,1,1,1,1,1,1,1,1,0,1,0,0] 1 5 [(4,(.bool false))] (sl z4l 155 [] ⟨[],[],[some [4]],[]⟩ ⟨[],[],[]⟩ [false,false,false,false,false,false,false,false,false,false,false,false,false,false,false,false,true,true,true,true,true,true,true,true,true,true,true,true] (tt k5 (pp (pp (xI R6 (Ui l0 aJ aH aI aP).length (Un l0 aJ aH aI aP)) (xw cT)) (pp (pp (xr l0) (xw cS)) (pp (pp (xI R6 (Ui l0 aJ aH aI aP).length (Un l0 aJ aH aI aP)) (xw cR)) (pp (pp (xr l0) (xw cE)) (tt k4 (pp (pp (xr l0) (xw bX)) (tt k3 (tt k2 (tt k1 (tt k0 (pp (pp (xr l0) (xw bQ)) nn))))))))))))))) (fun k5=>(lb (fun k6=>(lr 161 12 [1,1,1,1,1,1,1,1,1,0,1,0,0] 1 5 [(4,(.bool false))] (sl z4l 155 [] ⟨[],[],[some [4]],[]⟩ ⟨[],[],[]⟩ [false,false,false,false,false,false,false,false,false,false,false,false,false,false,false,false,false,false,true,true,true,true,true,true,true,true,true,true] (tt k6 (tt k5 (pp (pp (xI R6 (Ui l0 aJ aH aI aP).length (Un l0 aJ aH aI aP)) (xw cT)) (pp (pp (xr l0) (xw cS)) (pp (pp (xI R6 (Ui l0 aJ aH aI aP).length (Un l0 aJ aH aI aP)) (xw cR)) (pp (pp (xr l0) (xw cE)) (tt k4 (pp (pp (xr l0) (xw bX)) (tt k3 (tt k2 (tt k1 (tt k0 (pp (pp (xr l0) (xw bQ)) nn)))))))))))))))) (fun k6=>(lb (fun k7=>(lr 161 12 [1,1,1,1,1,1,1,1,1,0,1,0,0] 1 5 [(4,(.bool false))] (sl z4l 155 [] ⟨[],[],[some [4]],[]⟩ ⟨[],[],[]⟩ [false,false,false,false,false,false,false,false,false,false,false,false,false,false,false,false,false,false,false,false,false,true,true,true,true,true,true,true] (tt k7 (tt k6 (tt k5 (pp (pp (xI R6 (Ui l0 aJ aH aI aP).length (Un l0 aJ aH aI aP)) (xw cT)) (pp (pp (xr l0) (xw cS)) (pp (pp (xI R6 (Ui l0 aJ aH aI aP).length (Un l0 aJ aH aI aP)) (xw cR)) (pp (pp (xr l0) (xw cE)) (tt k4 (pp (pp (xr l0) (xw bX)) (tt k3 (tt k2 (tt k1 (tt k0 (pp (pp (xr l0) (xw bQ)) nn))))))))))))))))) (fun k7=>(lb (fun k8=>(lr 161 12 [1,1,1,1,1,1,1,1,1,0,1,0,0] 1 5 [(4,(.bool false))] (sl z4l 155 [] ⟨[],[],[some [4]],[]⟩ ⟨[],[],[]⟩ [false,false,false,false,false,false,false,false,false,false,false,false,false,false,false,false,false,false,false,false,false,false,false,true,true,true,true,true] (tt k8 (tt k7 (tt k6 (tt k5 (pp (pp (xI R6 (Ui l0 aJ aH aI aP).length (Un l0 aJ aH aI aP)) (xw cT)) (pp (pp (xr l0) (xw cS)) (pp (pp (xI R6 (Ui l0 aJ aH aI aP).length (Un l0 aJ aH aI aP)) (xw cR)) (pp (pp (xr l0) (xw cE)) (tt k4 (pp (pp (xr l0) (xw bX)) (tt k3 (tt k2 (tt k1 (tt k0 (pp (pp (xr l0) (xw bQ)) nn)))))))))))))))))) (fun k8=>(lb (fun k9=>(lb (fun k10=>(lr 161 12 [1,1,1,1,1,1,1,1,1,0,1,0,0] 1 5 [(4,(.bool false))] (sl z4l 155 [] ⟨[],[],[some [4]],[]⟩ ⟨[],[],[]⟩ [false,false,false,false,false,false,false,false,false,false,false,false,false,false,false,false,false,false,false,false,false,false,false,false,false,false,true,true,false,true] (tt k10 (tt k9 (tt k8 (tt k7 (tt k6 (tt k5 (pp (pp (xI R6 (Ui l0 aJ aH aI aP).length (Un l0 aJ aH aI aP)) (xw cT)) (pp (pp (xr l0) (xw cS)) (pp (pp (xI R6 (Ui l0 aJ aH aI aP).length (Un l0 aJ aH aI aP)) (xw cR)) (pp (pp (xr l0) (xw cE)) (tt k4 (pp (pp (xr l0) (xw bX)) (tt k3 (tt k2 (tt k1 (tt k0 (pp (pp (xr l0) (xw bQ)) nn)))))))))))))))))))) (fun k10=>(lr 161 12 [1,1,1,1,1,1,1,1,1,1,0,1,0,0] 1 5 [(4,(.bool true))] (sl z4l 164 [] ⟨[],[],[some [4]],[]⟩ ⟨[],[],[]⟩ [false,false,false,false,false,false,false,false,false,false,false,false,false,false,false,false,false,false,false,false,false,false,false,false,false,false,true,true,false,false,true] (tt k9 (tt k10 (tt k9 (tt k8 (tt k7 (tt k6 (tt k5 (pp (pp (xI R6 (Ui l0 aJ aH aI aP).length (Un l0 aJ aH aI aP)) (xw cT)) (pp (pp (xr l0) (xw cS)) (pp (pp (xI R6 (Ui l0 aJ aH aI aP).length (Un l0 aJ aH aI aP)) (xw cR)) (pp (pp (xr l0) (xw cE)) (tt k4 (pp (pp (xr l0) (xw bX)) (tt k3 (tt k2 (tt k1 (tt k0 (pp (pp (xr l0) (xw bQ)) nn))))))))))))))))))))))) (fun k9=>(lo fun cU=>(lo fun cW=>(lo fun cX=>(lo fun cY=>(lb (fun k10=>(lb (fun k11=>(lb (fun k12=>(lb (fun k13=>(lb (fun k14=>(lr 161 3 [1,1,1,1,1,1,1,0] 1 5 [(4,(.bool ((z4e (cvT (Yu (cvT l0))) 0) == (z4e (cvT (Uu l0 aJ aH aI aP)) 0))))] (sl z4l 231 [] ⟨[],[],[some [4]],[]⟩ ⟨[],[],[]⟩ [false,false,false,false,false,false,false,false,false,false,false,false,false,false,false,false,false,false,false,false,false,false,false,false,false,false,false,false,false,false,false,true,true,true,true,true,true,true,true,true,true,true,true,true,true] (tt k14 (tt k13 (tt k12 (tt k11 (tt k10 (pp (pp (xI R7 (Uu l0 aJ aH aI aP).length (Zz (Uu l0 aJ aH aI aP))) (xw cY)) (pp (pp (xI R7 (Yu (cvT l0)).length (z4c l0)) (xw cX)) (pp (pp (xI R7 (Uu l0 aJ aH aI aP).length (Zz (Uu l0 aJ aH aI aP))) (xw cW)) (pp (pp (xI R7 (Yu (cvT l0)).length (z4c l0)) (xw cU)) (tt k9 (tt k9 (tt k8 (tt k7 (tt k6 (tt k5 (pp (pp (xI R6 (Ui l0 aJ aH aI aP).length (Un l0 aJ aH aI aP)) (xw cT)) (pp (pp (xr l0) (xw cS)) (pp (pp (xI R6 (Ui l0 aJ aH aI aP).length (Un l0 aJ aH aI aP)) (xw cR)) (pp (pp (xr l0) (xw cE)) (tt k4 (pp (pp (xr l0) (xw bX)) (tt k3 (tt k2 (tt k1 (tt k0 (pp (pp (xr l0) (xw bQ)) nn))))))))))))))))))))))))))))) (fun k14=>(lr 161 3 [1,1,1,1,1,1,1,0] 1 5 [(4,(.bool false))] (sl z4l 231 [] ⟨[],[],[some [4]],[]⟩ ⟨[],[],[]⟩ [false,false,false,false,false,false,false,false,false,false,false,false,false,false,false,false,false,false,false,false,false,false,false,false,false,false,false,false,false,false,false,true,true,true,true,true,true,true,true,true,true,true,false,false,false] (tt k14 (tt k13 (tt k12 (tt k11 (tt k10 (pp (pp (xI R7 (Uu l0 aJ aH aI aP).length (Zz (Uu l0 aJ aH aI aP))) (xw cY)) (pp (pp (xI R7 (Yu (cvT l0)).length (z4c l0)) (xw cX)) (pp (pp (xI R7 (Uu l0 aJ aH aI aP).length (Zz (Uu l0 aJ aH aI aP))) (xw cW)) (pp (pp (xI R7 (Yu (cvT l0)).length (z4c l0)) (xw cU)) (tt k9 (tt k9 (tt k8 (tt k7 (tt k6 (tt k5 (pp (pp (xI R6 (Ui l0 aJ aH aI aP).length (Un l0 aJ aH aI aP)) (xw cT)) (pp (pp (xr l0) (xw cS)) (pp (pp (xI R6 (Ui l0 aJ aH aI aP).length (Un l0 aJ aH aI aP)) (xw cR)) (pp (pp (xr l0) (xw cE)) (tt k4 (pp (pp (xr l0) (xw bX)) (tt k3 (tt k2 (tt k1 (tt k0 (pp (pp (xr l0) (xw bQ)) nn))))))))))))))))))))))))))))))) (fun k13=>(lr 161 3 [1,1,1,1,1,1,1,0] 1 5 [(4,(.bool false))] (sl z4l 231 [] ⟨[],[],[some [4]],[]⟩ ⟨[],[],[]⟩ [false,false,false,false,false,false,false,false,false,false,false,false,false,false,false,false,false,false,false,false,false,false,false,false,false,false,false,false,false,false,false,true,true,true,true,true,true,true,true,true,false,false,false,false,false] (tt k13 (tt k12 (tt k11 (tt k10 (pp (pp (xI R7 (Uu l0 aJ aH aI aP).length (Zz (Uu l0 aJ aH aI aP))) (xw cY)) (pp (pp (xI R7 (Yu (cvT l0)).length (z4c l0)) (xw cX)) (pp (pp (xI R7 (Uu l0 aJ aH aI aP).length (Zz (Uu l0 aJ aH aI aP))) (xw cW)) (pp (pp (xI R7 (Yu (cvT l0)).length (z4c l0)) (xw cU)) (tt k9 (tt k9 (tt k8 (tt k7 (tt k6 (tt k5 (pp (pp (xI R6 (Ui l0 aJ aH aI aP).length (Un l0 aJ aH aI aP)) (xw cT)) (pp (pp (xr l0) (xw cS)) (pp (pp (xI R6 (Ui l0 aJ aH aI aP).length (Un l0 aJ aH aI aP)) (xw cR)) (pp (pp (xr l0) (xw cE)) (tt k4 (pp (pp (xr l0) (xw bX)) (tt k3 (tt k2 (tt k1 (tt k0 (pp (pp (xr l0) (xw bQ)) nn)))))))))))))))))))))))))))))) (fun k12=>(lr 161 3 [1,1,1,1,1,1,1,0] 1 5 [(4,(.bool false))] (sl z4l 231 [] ⟨[],[],[some [4]],[]⟩ ⟨[],[],[]⟩ [false,false,false,false,false,false,false,false,false,false,false,false,false,false,false,false,false,false,false,false,false,false,false,false,false,false,false,false,false,false,false,true,true,true,true,true,true,true,false,false,false,false,false,false,false] (tt k12 (tt k11 (tt k10 (pp (pp (xI R7 (Uu l0 aJ aH aI aP).length (Zz (Uu l0 aJ aH aI aP))) (xw cY)) (pp (pp (xI R7 (Yu (cvT l0)).length (z4c l0)) (xw cX)) (pp (pp (xI R7 (Uu l0 aJ aH aI aP).length (Zz (Uu l0 aJ aH aI aP))) (xw cW)) (pp (pp (xI R7 (Yu (cvT l0)).length (z4c l0)) (xw cU)) (tt k9 (tt k9 (tt k8 (tt k7 (tt k6 (tt k5 (pp (pp (xI R6 (Ui l0 aJ aH aI aP).length (Un l0 aJ aH aI aP)) (xw cT)) (pp (pp (xr l0) (xw cS)) (pp (pp (xI R6 (Ui l0 aJ aH aI aP).length (Un l0 aJ aH aI aP)) (xw cR)) (pp (pp (xr l0) (xw cE)) (tt k4 (pp (pp (xr l0) (xw bX)) (tt k3 (tt k2 (tt k1 (tt k0 (pp (pp (xr l0) (xw bQ)) nn))))))))))))))))))))))))))))) (fun k11=>(lr 161 3 [1,1,1,1,1,1,1,0] 1 5 [(4,(.bool false))] (sl z4l 231 [] ⟨[],[],[some [4]],[]⟩ ⟨[],[],[]⟩ [false,false,false,false,false,false,false,false,false,false,false,false,false,false,false,false,false,false,false,false,false,false,false,false,false,false,false,false,false,false,false,true,true,true,true,false,false,false,false,false,false,false,false,false,false] (tt k11 (tt k10 (pp (pp (xI R7 (Uu l0 aJ aH aI aP).length (Zz (Uu l0 aJ aH aI aP))) (xw cY)) (pp (pp (xI R7 (Yu (cvT l0)).length (z4c l0)) (xw cX)) (pp (pp (xI R7 (Uu l0 aJ aH aI aP).length (Zz (Uu l0 aJ aH aI aP))) (xw cW)) (pp (pp (xI R7 (Yu (cvT l0)).length (z4c l0)) (xw cU)) (tt k9 (tt k9 (tt k8 (tt k7 (tt k6 (tt k5 (pp (pp (xI R6 (Ui l0 aJ aH aI aP).length (Un l0 aJ aH aI aP)) (xw cT)) (pp (pp (xr l0) (xw cS)) (pp (pp (xI R6 (Ui l0 aJ aH aI aP).length (Un l0 aJ aH aI aP)) (xw cR)) (pp (pp (xr l0) (xw cE)) (tt k4 (pp (pp (xr l0) (xw bX)) (tt k3 (tt k2 (tt k1 (tt k0 (pp (pp (xr l0) (xw bQ)) nn)))))))))))))))))))))))))))) (fun k10=>(lr 161 3 [1,1,1,1,1,1,1,0] 1 5 [(4,(.bool false))] (sl z4l 231 [] ⟨[],[],[some [4]],[]⟩ ⟨[],[],[]⟩ [false,false,false,false,false,false,false,false,false,false,false,false,false,false,false,false,false,false,false,false,false,false,false,false,false,false,false,false,false,false,false,true,true,false,false,false,false,false,false,false,false,false,false,false,false] (tt k10 (pp (pp (xI R7 (Uu l0 aJ aH aI aP).length (Zz (Uu l0 aJ aH aI aP))) (xw cY)) (pp (pp (xI R7 (Yu (cvT l0)).length (z4c l0)) (xw cX)) (pp (pp (xI R7 (Uu l0 aJ aH aI aP).length (Zz (Uu l0 aJ aH aI aP))) (xw cW)) (pp (pp (xI R7 (Yu (cvT l0)).length (z4c l0)) (xw cU)) (tt k9 (tt k9 (tt k8 (tt k7 (tt k6 (tt k5 (pp (pp (xI R6 (Ui l0 aJ aH aI aP).length (Un l0 aJ aH aI aP)) (xw cT)) (pp (pp (xr l0) (xw cS)) (pp (pp (xI R6 (Ui l0 aJ aH aI aP).length (Un l0 aJ aH aI aP)) (xw cR)) (pp (pp (xr l0) (xw cE)) (tt k4 (pp (pp (xr l0) (xw bX)) (tt k3 (tt k2 (tt k1 (tt k0 (pp (pp (xr l0) (xw bQ)) nn))))))))))))))))))))))))))))))))))))))))))))))))))))))))
theorem mpp_ends (l0:List R6) (aJ:Int) (aH:Int) (aI:Int) (aP:Int) (n:Nat) (vs:List AVal) (h:Yz (x9p l0 aJ aH aI aP) n (y3i l0 aJ aH aI aP)=.ret vs):Ji prog (Zy prog 12) (Zb prog 12 [(.dat l0.length (Zz l0)),(.agg [(.int .u8 aJ),(.int .i64 aH),(.int .i64 aI),(.int .i64 aP)])] true []) vs:=by have:=Ze (w8x l0 aJ aH aI aP) n _ (x9q l0 aJ aH aI aP);rwa [h] at this
def z0u (P:Prop):Nat:= @ite _ P (Classical.propDecidable P) 1 0
theorem Ve {P:Prop} (h:P):z0u P=1:= @Au _ (Classical.propDecidable P) h _ _ _
theorem Xs {P:Prop} (h: ¬P):z0u P=0:= @Ao _ (Classical.propDecidable P) h _ _ _
theorem x0s (w:Int): ∀s:List R2,Can s→(s.filter fun t=>decide (t.a≤w)&&decide (w<t.b)).length =z0u (pt s w)
 | [],_=>(Xs fun ⟨_,h,_⟩=>by cases h).symm
 | t::s,h=>by
  have ih:=x0s w s h.tail;have hd:=h.head;rw [Be];by_cases q:t.a≤w∧w<t.b
  ·rw [Au (by simp [q.1,q.2])];have e:(s.filter fun t=>decide (t.a≤w)&&decide (w<t.b))=[]:=BO.2 fun r hr k=>by have:=hd r hr;simp only [Ac,Al] at k;omega
   rw [e,Ve ⟨t,by simp,q⟩];rfl
  ·rw [Ao (by simpa using q),ih];by_cases g:pt s w
   ·rw [Ve g];obtain ⟨r,hr,k⟩:=g;rw [Ve ⟨r,by simp [hr],k⟩]
   ·rw [Xs g,Xs];rintro ⟨r,hr,k⟩;rcases AA.1 hr with rfl | hr
    ·exact q k
    ·exact g ⟨r,hr,k⟩
def inR4 (u w:Int) (t:R4):Bool:=(decide (t.a≤u)&&decide (u<t.c))&&(decide (t.b≤w)&&decide (w<t.d))
theorem v8g {l:List R4} (hc:Wz.can l) (u w:Int):(l.filter (inR4 u w)).length =z0u (ptL Wz.inB l (u,w)):=by
 have h1:=x0s w (D4.inn l u) (z8l hc u);have e:((D4.inn l u).filter fun t=>decide (t.a≤w)&&decide (w<t.b)).length =(l.filter (inR4 u w)).length :=by
  show (((l.filter fun r=>decide (r.a≤u)&&decide (u<r.c)).map fun r=>(⟨r.b,r.d⟩:R2)).filter _).length =_;rw [List.filter_map,A3,List.filter_filter]
  congr 1
  refine List.filter_congr fun r _=> ?_;unfold inR4;simp only [Function.comp];exact Bool.and_comm _ _
 rw [←e,h1];have:pt (D4.inn l u) w↔ptL Wz.inB l (u,w):=z4x l u w;by_cases g:pt (D4.inn l u) w
 ·rw [Ve g,Ve (this.1 g)]
 ·rw [Xs g,Xs fun k=>g (this.2 k)]
theorem shs_in (L:List R6) (x y z:Int):j0u L x y z=true↔inS L x y z:=by
 unfold j0u inS;rw [List.any_eq_true];constructor
 ·rintro ⟨r,hr,h⟩;simp only [shR,Ac,Al] at h;exact ⟨r,hr,⟨h.1,h.2.1⟩,⟨h.2.2.1,h.2.2.2.1⟩,h.2.2.2.2.1,h.2.2.2.2.2⟩
 ·rintro ⟨r,hr,⟨h1,h2⟩,⟨h3,h4⟩,h5,h6⟩;exact ⟨r,hr,by simp only [shR,Ac,Al];exact ⟨h1,h2,h3,h4,h5,h6⟩⟩
theorem w6f {E:Int→Int}: ∀{l:List Int},w6g E l=0→ ∀p∈l,E p=0
 | [],_,p,hp=>by cases hp
 | x::l,h,p,hp=>by
  unfold w6g at h;cases g:(E x != 0) with
  | true=>rw [g,Ab] at h;rw [h] at g;cases g
  | false=>
   rw [g,Aa] at h;rcases AA.1 hp with rfl | hp
   ·simpa using g
   ·exact w6f h p hp
theorem Ur {e x:Int} (h:(bif e != 0 then e else x)=0):e=0∧x=0:=by
 cases g:(e != 0) with
 | true=>rw [g,Ab] at h;rw [h] at g;cases g
 | false=>rw [g,Aa] at h;exact ⟨by simpa using g,h⟩
theorem u4b {L:List R6} (h:y9t L=0) (q:Ax) (s:Bool):z7h q s L=0:=by unfold y9t at h;obtain ⟨h1,h⟩:=Ur h;obtain ⟨h2,h⟩:=Ur h;obtain ⟨h3,h⟩:=Ur h;obtain ⟨h4,h⟩:=Ur h;obtain ⟨h5,h⟩:=Ur h;obtain ⟨h6,_⟩:=Ur h;cases q <;> cases s <;> assumption
theorem w4e {L:List R6} (hv: ∀r∈L,Jf r=true) (q:Ax) {p:Int} (h:p∈plQ q L): -1000000≤p∧p≤1000000:=by obtain ⟨r,hr,h⟩:=(z4z q L p).1 h;obtain ⟨_,h1,h2,h3⟩:=q.val (hv r hr);rcases h with rfl | rfl <;> omega
theorem v5w {L:List R6} (hv: ∀r∈L,Jf r=true) (q:Ax) (s:Bool) (p:Int) (hp: -1000000≤p∧p≤1000000) (h:Vi q L p s=0):
  Wz.can (Wn q L p s)∧ ∀u w,ptL Wz.inB (Wn q L p s) (u,w)↔(match s with
   | true=>q.inL L (p - 1) u w∧ ¬q.inL L p u w
   | false=>q.inL L p u w∧ ¬q.inL L (p - 1) u w):=by
 have w:wrap .i64 (p - 1)=p - 1:=Zq (by omega);unfold Vi at h;obtain ⟨hE,h⟩:=Ur h;have hE':=hE;unfold w5e at hE';obtain ⟨e1,e2⟩:=Ur hE';rw [w] at e1 h;unfold Wn;rw [hE,w];have one: ∀x,Uo q L x=0→Wz.can (Yg q L x)∧(∀u w,ptL Wz.inB (Yg q L x) (u,w)↔q.inL L x u w)∧ ∀r∈Yg q L x,Wh r=true:=fun x hx=>by obtain ⟨m1,m2,m3⟩:=y4v (l:=z1t q L x) hx;obtain ⟨c,pt⟩:=Kt m2 m1;unfold Yg;rw [m3];exact ⟨c,fun u w=>by rw [pt,y1r],Qk c fun u v k=>z1b m2 ((pt _).1 k)⟩
 obtain ⟨a1,a2,a3⟩:=one _ e1;obtain ⟨b1,b2,b3⟩:=one _ e2;cases s with
 | true=>have h:rgE .d (Yg q L (p - 1)) (Yg q L p)=0:=h;show Wz.can (Vy .d (Yg q L (p - 1)) (Yg q L p))∧ ∀u w,ptL Wz.inB (Vy .d (Yg q L (p - 1)) (Yg q L p)) (u,w)↔_;rw [w3y .d h];obtain ⟨j1,j2,_⟩:=Qz 2 a3 b3;exact ⟨j1,fun u w=>by rw [show ptL Wz.inB (rgJ Op.d.k _ _) (u,w)↔_ from j2 (u,w),v4w,a2,b2]⟩
 | false=>have h:rgE .d (Yg q L p) (Yg q L (p - 1))=0:=h;show Wz.can (Vy .d (Yg q L p) (Yg q L (p - 1)))∧ ∀u w,ptL Wz.inB (Vy .d (Yg q L p) (Yg q L (p - 1))) (u,w)↔_;rw [w3y .d h];obtain ⟨j1,j2,_⟩:=Qz 2 b3 a3;exact ⟨j1,fun u w=>by rw [show ptL Wz.inB (rgJ Op.d.k _ _) (u,w)↔_ from j2 (u,w),v4w,a2,b2]⟩
def inI (q:Ax) (L:List R6) (u w p:Int):Int:=(z0u (q.inL L p u w):Int)
theorem w8s (A B:Prop):(z0u (A∧ ¬B):Int) - (z0u (B∧ ¬A):Int)=(z0u A:Int) - (z0u B:Int):=by
 by_cases a:A <;> by_cases b:B
 ·rw [Xs fun k=>k.2 b,Xs fun k=>k.2 a,Ve a,Ve b];rfl
 ·rw [Ve ⟨a,b⟩,Xs fun k=>b k.1,Ve a,Xs b]
 ·rw [Xs fun k=>a k.1,Ve ⟨b,a⟩,Xs a,Ve b]
 ·rw [Xs fun k=>a k.1,Xs fun k=>b k.1,Xs a,Xs b]
theorem v9m {bx:List R6} (h:Vd bx=0): ∀r∈Xk bx,Jf r=true:=by obtain ⟨hl,hv,_,_⟩:=w3j h;obtain ⟨c,pts⟩:=x7s h;refine j6v c fun x y z k=> ?_;obtain ⟨r,hr,h1,h2,h3⟩:=(pts x y z).1 k;have:=Kq (hv r hr);omega
section
variable {L:List R6} (h:Yo L=0) (hl:L.length≤20)
include h hl
end
inductive P6 where
 | xyz | xzy | yxz | yzx | zxy | zyx
def P6.a (p:P6) (x y z:Int):Int:=match p with
 | .xyz =>x
 | .xzy =>x
 | .yxz =>y
 | .yzx =>y
 | .zxy =>z
 | .zyx =>z
def P6.b (p:P6) (x y z:Int):Int:=match p with
 | .xyz =>y
 | .xzy =>z
 | .yxz =>x
 | .yzx =>z
 | .zxy =>x
 | .zyx =>y
def P6.c (p:P6) (x y z:Int):Int:=match p with
 | .xyz =>z
 | .xzy =>y
 | .yxz =>z
 | .yzx =>x
 | .zxy =>y
 | .zyx =>x
def sg (s:Bool) (x:Int):Int:=match s with
 | true=>x
 | false=> -x
theorem v1w (t:Int) (h0:0≤t) (h:t<24): ∃(p:P6) (s1 s2 s3:Bool),∀x y z:Int,x*(Wm t).a +y*(Wm t).d +z*(Wm t).g =sg s1 (p.a x y z)∧x*(Wm t).b +y*(Wm t).e +z*(Wm t).h =sg s2 (p.b x y z)∧x*(Wm t).c +y*(Wm t).f +z*(Wm t).i =sg s3 (p.c x y z):=by
 have:t=0∨t=1∨t=2∨t=3∨t=4∨t=5∨t=6∨t=7∨t=8∨t=9∨t=10∨t=11∨t=12∨t=13∨t=14∨t=15∨t=16∨t=17∨t=18∨t=19∨t=20∨t=21∨t=22∨t=23:=by omega
 rcases this with rfl | rfl | rfl | rfl | rfl | rfl | rfl | rfl | rfl | rfl | rfl | rfl | rfl | rfl | rfl | rfl | rfl | rfl | rfl | rfl | rfl | rfl | rfl | rfl
 ·rw [show Wm 0=⟨1,0,0,0,1,0,0,0,1⟩ by kernel_rfl];exact ⟨.xyz,true,true,true,fun x y z=>⟨by simp [sg,P6.a],by simp [sg,P6.b],by simp [sg,P6.c]⟩⟩
 ·rw [show Wm 1=⟨1,0,0,0,-1,0,0,0,-1⟩ by kernel_rfl];exact ⟨.xyz,true,false,false,fun x y z=>⟨by simp [sg,P6.a],by simp [sg,P6.b],by simp [sg,P6.c]⟩⟩
 ·rw [show Wm 2=⟨1,0,0,0,0,1,0,-1,0⟩ by kernel_rfl];exact ⟨.xzy,true,false,true,fun x y z=>⟨by simp [sg,P6.a],by simp [sg,P6.b],by simp [sg,P6.c]⟩⟩
 ·rw [show Wm 3=⟨1,0,0,0,0,-1,0,1,0⟩ by kernel_rfl];exact ⟨.xzy,true,true,false,fun x y z=>⟨by simp [sg,P6.a],by simp [sg,P6.b],by simp [sg,P6.c]⟩⟩
 ·rw [show Wm 4=⟨-1,0,0,0,1,0,0,0,-1⟩ by kernel_rfl];exact ⟨.xyz,false,true,false,fun x y z=>⟨by simp [sg,P6.a],by simp [sg,P6.b],by simp [sg,P6.c]⟩⟩
 ·rw [show Wm 5=⟨-1,0,0,0,-1,0,0,0,1⟩ by kernel_rfl];exact ⟨.xyz,false,false,true,fun x y z=>⟨by simp [sg,P6.a],by simp [sg,P6.b],by simp [sg,P6.c]⟩⟩
 ·rw [show Wm 6=⟨-1,0,0,0,0,1,0,1,0⟩ by kernel_rfl];exact ⟨.xzy,false,true,true,fun x y z=>⟨by simp [sg,P6.a],by simp [sg,P6.b],by simp [sg,P6.c]⟩⟩
 ·rw [show Wm 7=⟨-1,0,0,0,0,-1,0,-1,0⟩ by kernel_rfl];exact ⟨.xzy,false,false,false,fun x y z=>⟨by simp [sg,P6.a],by simp [sg,P6.b],by simp [sg,P6.c]⟩⟩
 ·rw [show Wm 8=⟨0,1,0,1,0,0,0,0,-1⟩ by kernel_rfl];exact ⟨.yxz,true,true,false,fun x y z=>⟨by simp [sg,P6.a],by simp [sg,P6.b],by simp [sg,P6.c]⟩⟩
 ·rw [show Wm 9=⟨0,1,0,-1,0,0,0,0,1⟩ by kernel_rfl];exact ⟨.yxz,false,true,true,fun x y z=>⟨by simp [sg,P6.a],by simp [sg,P6.b],by simp [sg,P6.c]⟩⟩
 ·rw [show Wm 10=⟨0,1,0,0,0,1,1,0,0⟩ by kernel_rfl];exact ⟨.zxy,true,true,true,fun x y z=>⟨by simp [sg,P6.a],by simp [sg,P6.b],by simp [sg,P6.c]⟩⟩
 ·rw [show Wm 11=⟨0,1,0,0,0,-1,-1,0,0⟩ by kernel_rfl];exact ⟨.zxy,false,true,false,fun x y z=>⟨by simp [sg,P6.a],by simp [sg,P6.b],by simp [sg,P6.c]⟩⟩
 ·rw [show Wm 12=⟨0,-1,0,1,0,0,0,0,1⟩ by kernel_rfl];exact ⟨.yxz,true,false,true,fun x y z=>⟨by simp [sg,P6.a],by simp [sg,P6.b],by simp [sg,P6.c]⟩⟩
 ·rw [show Wm 13=⟨0,-1,0,-1,0,0,0,0,-1⟩ by kernel_rfl];exact ⟨.yxz,false,false,false,fun x y z=>⟨by simp [sg,P6.a],by simp [sg,P6.b],by simp [sg,P6.c]⟩⟩
 ·rw [show Wm 14=⟨0,-1,0,0,0,1,-1,0,0⟩ by kernel_rfl];exact ⟨.zxy,false,false,true,fun x y z=>⟨by simp [sg,P6.a],by simp [sg,P6.b],by simp [sg,P6.c]⟩⟩
 ·rw [show Wm 15=⟨0,-1,0,0,0,-1,1,0,0⟩ by kernel_rfl];exact ⟨.zxy,true,false,false,fun x y z=>⟨by simp [sg,P6.a],by simp [sg,P6.b],by simp [sg,P6.c]⟩⟩
 ·rw [show Wm 16=⟨0,0,1,1,0,0,0,1,0⟩ by kernel_rfl];exact ⟨.yzx,true,true,true,fun x y z=>⟨by simp [sg,P6.a],by simp [sg,P6.b],by simp [sg,P6.c]⟩⟩
 ·rw [show Wm 17=⟨0,0,1,-1,0,0,0,-1,0⟩ by kernel_rfl];exact ⟨.yzx,false,false,true,fun x y z=>⟨by simp [sg,P6.a],by simp [sg,P6.b],by simp [sg,P6.c]⟩⟩
 ·rw [show Wm 18=⟨0,0,1,0,1,0,-1,0,0⟩ by kernel_rfl];exact ⟨.zyx,false,true,true,fun x y z=>⟨by simp [sg,P6.a],by simp [sg,P6.b],by simp [sg,P6.c]⟩⟩
 ·rw [show Wm 19=⟨0,0,1,0,-1,0,1,0,0⟩ by kernel_rfl];exact ⟨.zyx,true,false,true,fun x y z=>⟨by simp [sg,P6.a],by simp [sg,P6.b],by simp [sg,P6.c]⟩⟩
 ·rw [show Wm 20=⟨0,0,-1,1,0,0,0,-1,0⟩ by kernel_rfl];exact ⟨.yzx,true,false,false,fun x y z=>⟨by simp [sg,P6.a],by simp [sg,P6.b],by simp [sg,P6.c]⟩⟩
 ·rw [show Wm 21=⟨0,0,-1,-1,0,0,0,1,0⟩ by kernel_rfl];exact ⟨.yzx,false,true,false,fun x y z=>⟨by simp [sg,P6.a],by simp [sg,P6.b],by simp [sg,P6.c]⟩⟩
 ·rw [show Wm 22=⟨0,0,-1,0,1,0,1,0,0⟩ by kernel_rfl];exact ⟨.zyx,true,true,false,fun x y z=>⟨by simp [sg,P6.a],by simp [sg,P6.b],by simp [sg,P6.c]⟩⟩
 ·rw [show Wm 23=⟨0,0,-1,0,-1,0,-1,0,0⟩ by kernel_rfl];exact ⟨.zyx,false,false,false,fun x y z=>⟨by simp [sg,P6.a],by simp [sg,P6.b],by simp [sg,P6.c]⟩⟩
def fn3 (x y z:Int):Prop:=(-1000000≤x∧x≤1000000)∧(-1000000≤y∧y≤1000000)∧(-1000000≤z∧z≤1000000)
theorem x2q (x y z:Int):x2r x y z=true↔fn3 x y z:=by unfold x2r fn3;rw [Ac,Al,Al,z3l,z3l,z3m,z3m];omega
theorem P6.fine (p:P6) {x y z:Int} (h:fn3 x y z):fn3 (p.a x y z) (p.b x y z) (p.c x y z):=by unfold fn3 at*;cases p <;> simp only [P6.a,P6.b,P6.c] <;> omega
theorem v2u (s:Bool) {x:Int} (h: -1000000≤x∧x≤1000000): -1000000≤sg s x∧sg s x≤1000000:=by cases s <;> simp only [sg] <;> omega
theorem w5 (x y z A D G a v:Int) (e:x*A+y*D+z*G=v) (hv: -1000000≤v∧v≤1000000) (ha: -1000000≤a∧a≤1000000):wrap .i64 (wrap .i64 (wrap .i64 (wrap .i64 (x*A)+wrap .i64 (y*D))+wrap .i64 (z*G))+a)=v+a:=by
 have:Cg (wrap .i64 (wrap .i64 (wrap .i64 (x*A)+wrap .i64 (y*D))+wrap .i64 (z*G))+a) (v+a):=by rw [←e];exact (Cg.w ((Cg.w ((Cg.wrap _).add (Cg.wrap _))).add (Cg.wrap _))).add (Cg.refl a)
 rw [this.eq];exact Zq (by omega)
theorem fim_eq {t:Int} {p:P6} {s1 s2 s3:Bool} (ht: ∀x y z:Int,x*(Wm t).a +y*(Wm t).d +z*(Wm t).g =sg s1 (p.a x y z)∧x*(Wm t).b +y*(Wm t).e +z*(Wm t).h =sg s2 (p.b x y z)∧x*(Wm t).c +y*(Wm t).f +z*(Wm t).i =sg s3 (p.c x y z)) {a b c x y z:Int} (ha:fn3 a b c) (hx:fn3 x y z):
  z7l t a b c x y z=⟨sg s1 (p.a x y z)+a,sg s2 (p.b x y z)+b,sg s3 (p.c x y z)+c⟩:=by
 obtain ⟨e1,e2,e3⟩:=ht x y z;obtain ⟨f1,f2,f3⟩:=p.fine hx;unfold z7l;rw [w5 _ _ _ _ _ _ _ _ e1 (v2u s1 f1) ha.1,w5 _ _ _ _ _ _ _ _ e2 (v2u s2 f2) ha.2.1,w5 _ _ _ _ _ _ _ _ e3 (v2u s3 f3) ha.2.2]
def loT (s:Bool) (k lo hi:Int):Int:=match s with
 | true=>lo+k
 | false=> -hi+k
def hiT (s:Bool) (k lo hi:Int):Int:=match s with
 | true=>hi+k
 | false=> -lo+k
def ptT (s:Bool) (k x:Int):Int:=match s with
 | true=>x+k
 | false=> -x+k - 1
theorem mn_T (s:Bool) (k:Int) {lo hi:Int} (h:lo<hi):Jm (sg s lo+k) (sg s hi+k)=loT s k lo hi∧Jg (sg s lo+k) (sg s hi+k)=hiT s k lo hi:=by rw [z3l,z3m];cases s <;> simp only [sg,loT,hiT] <;> omega
theorem pt_T (s:Bool) (k lo hi x:Int):(loT s k lo hi≤ptT s k x∧ptT s k x<hiT s k lo hi)↔(lo≤x∧x<hi):=by cases s <;> simp only [loT,hiT,ptT] <;> omega
theorem lt_T (s:Bool) (k:Int) {lo hi:Int} (h:lo<hi):loT s k lo hi<hiT s k lo hi:=by cases s <;> simp only [loT,hiT] <;> omega
def bxT (p:P6) (s1 s2 s3:Bool) (a b c:Int) (r:R6):R6:=⟨loT s1 a (p.a r.a r.b r.c) (p.a r.d r.e r.f),loT s2 b (p.b r.a r.b r.c) (p.b r.d r.e r.f),loT s3 c (p.c r.a r.b r.c) (p.c r.d r.e r.f),hiT s1 a (p.a r.a r.b r.c) (p.a r.d r.e r.f),hiT s2 b (p.b r.a r.b r.c) (p.b r.d r.e r.f),hiT s3 c (p.c r.a r.b r.c) (p.c r.d r.e r.f)⟩
theorem P6.lt (p:P6) {r:R6} (h:Jf r=true):p.a r.a r.b r.c<p.a r.d r.e r.f∧p.b r.a r.b r.c<p.b r.d r.e r.f∧p.c r.a r.b r.c<p.c r.d r.e r.f:=by have v:=Kq h;cases p <;> simp only [P6.a,P6.b,P6.c] <;> omega
theorem w6d {r:R6} (h:Jf r=true):fn3 r.a r.b r.c∧fn3 r.d r.e r.f:=by have v:=Kq h;unfold fn3;omega
theorem j0c {r:R6} (h:r.a<r.d∧r.b<r.e∧r.c<r.f∧ -1000000≤r.a∧ -1000000≤r.b∧ -1000000≤r.c∧r.d≤1000000∧r.e≤1000000∧r.f≤1000000):x6y r=true:=by simp only [x6y,Ac,Al];omega
section
variable {t a b c:Int} {p:P6} {s1 s2 s3:Bool} (ht: ∀x y z:Int,x*(Wm t).a +y*(Wm t).d +z*(Wm t).g =sg s1 (p.a x y z)∧x*(Wm t).b +y*(Wm t).e +z*(Wm t).h =sg s2 (p.b x y z)∧x*(Wm t).c +y*(Wm t).f +z*(Wm t).i =sg s3 (p.c x y z)) (h24:t<24) (ha:fn3 a b c)
include ht h24 ha
theorem x2t :x3r t a b c=0:=by have _u:=ht;unfold x3r;rw [Ay (by omega),(x2q a b c).2 ha];rfl
theorem u9e {x y z:Int} (hx:fn3 x y z) (h:z4g t a b c x y z=0):Yf t a b c x y z=⟨sg s1 (p.a x y z)+a,sg s2 (p.b x y z)+b,sg s3 (p.c x y z)+c⟩∧fn3 (sg s1 (p.a x y z)+a) (sg s2 (p.b x y z)+b) (sg s3 (p.c x y z)+c):=by
 have e:=fim_eq ht ha hx;refine ⟨by unfold Yf;rw [h,e];rfl,?_⟩;unfold z4g at h;rw [x2t ht h24 ha,(x2q x y z).2 hx,e] at h;rw [←x2q];cases g:x2r (sg s1 (p.a x y z)+a) (sg s2 (p.b x y z)+b) (sg s3 (p.c x y z)+c) with
 | true=>rfl
 | false=>simp only [g] at h;cases h
theorem w6o {r:R6} (hr:Jf r=true) (ho:okP t a b c r=true):bxP t a b c r=bxT p s1 s2 s3 a b c r∧Jf (bxT p s1 s2 s3 a b c r)=true:=by obtain ⟨f1,f2⟩:=w6d hr;unfold okP at ho;simp only [Ac,BR,bne_eq_false_iff_eq] at ho;obtain ⟨e1,g1⟩:=u9e ht h24 ha f1 ho.1;obtain ⟨e2,g2⟩:=u9e ht h24 ha f2 ho.2;obtain ⟨l1,l2,l3⟩:=p.lt hr;obtain ⟨m1,m2⟩:=mn_T s1 a l1;obtain ⟨m3,m4⟩:=mn_T s2 b l2;obtain ⟨m5,m6⟩:=mn_T s3 c l3;refine ⟨by unfold bxP bxT;rw [e1,e2];simp only [m1,m2,m3,m4,m5,m6],?_⟩;rw [x3w];unfold fn3 at g1 g2;rw [z3l] at m1 m3 m5;rw [z3m] at m2 m4 m6;have k1:=lt_T s1 a l1;have k2:=lt_T s2 b l2;have k3:=lt_T s3 c l3;refine j0c ⟨k1,k2,k3,?_,?_,?_,?_,?_,?_⟩ <;> simp only [bxT] <;> omega
end
theorem u9n (p:P6) (s1 s2 s3:Bool) (a b c:Int) (r:R6) (x y z:Int):(((bxT p s1 s2 s3 a b c r).a ≤ptT s1 a (p.a x y z)∧ptT s1 a (p.a x y z)<(bxT p s1 s2 s3 a b c r).d)∧((bxT p s1 s2 s3 a b c r).b ≤ptT s2 b (p.b x y z)∧ptT s2 b (p.b x y z)<(bxT p s1 s2 s3 a b c r).e)∧((bxT p s1 s2 s3 a b c r).c ≤ptT s3 c (p.c x y z)∧ptT s3 c (p.c x y z)<(bxT p s1 s2 s3 a b c r).f))↔((r.a≤x∧x<r.d)∧(r.b≤y∧y<r.e)∧(r.c≤z∧z<r.f)):=by unfold bxT;simp only [pt_T];cases p <;> simp only [P6.a,P6.b,P6.c] <;> omega
theorem v4p {L:List R6} {t a b c:Int} {p:P6} {s1 s2 s3:Bool} (ht: ∀x y z:Int,x*(Wm t).a +y*(Wm t).d +z*(Wm t).g =sg s1 (p.a x y z)∧x*(Wm t).b +y*(Wm t).e +z*(Wm t).h =sg s2 (p.b x y z)∧x*(Wm t).c +y*(Wm t).f +z*(Wm t).i =sg s3 (p.c x y z)) (h24:t<24) (ha:fn3 a b c) (hL:Yo L=0) (h:Ka L t a b c=0):
  Yo (Wi L t a b c)=0∧(∀x y z,inS (Wi L t a b c) (ptT s1 a (p.a x y z)) (ptT s2 b (p.b x y z)) (ptT s3 c (p.c x y z))↔inS L x y z)∧(∀x y z,inS (Wi L t a b c) x y z→ ∃r∈L,(loT s1 a (p.a r.a r.b r.c) (p.a r.d r.e r.f)≤x∧x<hiT s1 a (p.a r.a r.b r.c) (p.a r.d r.e r.f))∧(loT s2 b (p.b r.a r.b r.c) (p.b r.d r.e r.f)≤y∧y<hiT s2 b (p.b r.a r.b r.c) (p.b r.d r.e r.f))∧(loT s3 c (p.c r.a r.b r.c) (p.c r.d r.e r.f)≤z∧z<hiT s3 c (p.c r.a r.b r.c) (p.c r.d r.e r.f))):=by
 have hv:=(Wx hL).2.1;have hk:=x2t ht h24 ha;unfold Ka at h;rw [hL,hk] at h;have h:(bif L.all (okP t a b c) then Vd (L.map (bxP t a b c)) else 16)=0:=h;cases g:L.all (okP t a b c) with
 | false=>rw [g] at h;cases h
 | true=>
  rw [g,Ab] at h;have e0:Wi L t a b c=Xk (L.map (bxP t a b c)):=by unfold Wi;rw [hL,hk,g];rfl
  rw [e0];obtain ⟨c1,c2⟩:=x7s h;refine ⟨x1i (v2r _) (v9m h) c1,fun x y z=> ?_,fun x y z k=> ?_⟩
  rotate_left
  ·obtain ⟨m,hm,k⟩:=(c2 x y z).1 k;obtain ⟨r,hr,rfl⟩:=AO.1 hm;rw [(w6o ht h24 ha (hv r hr) (At.1 g r hr)).1] at k;exact ⟨r,hr,k⟩
  rw [c2];constructor
  ·rintro ⟨m,hm,k⟩;obtain ⟨r,hr,rfl⟩:=AO.1 hm;rw [(w6o ht h24 ha (hv r hr) (At.1 g r hr)).1] at k;exact ⟨r,hr,(u9n p s1 s2 s3 a b c r x y z).1 k⟩
  ·rintro ⟨r,hr,k⟩;refine ⟨_,AO.2 ⟨r,hr,rfl⟩,?_⟩;rw [(w6o ht h24 ha (hv r hr) (At.1 g r hr)).1];exact (u9n p s1 s2 s3 a b c r x y z).2 k
theorem v6n (a b t x:Int):ind (a+t) (b+t) x=ind a b (x - t):=by
 unfold ind;by_cases h:a≤x - t∧x - t<b
 ·rw [Au h,Au (by omega)]
 ·rw [Ao h,Ao (by omega)]
theorem j2q (d:Int) (hd:0≤d∧d≤5) {r:R6} (h:Jf r=true):j2r (nx d r):=by
 have v:=Kq h;have:d=0∨d=1∨d=2∨d=3∨d=4∨d=5:=by omega
 rcases this with rfl | rfl | rfl | rfl | rfl | rfl
 ·refine ⟨?_,?_,?_,?_,?_,?_⟩ <;> first | (show _≤r.a+1;omega) | (show r.d+1≤_;omega) | (show _≤r.b;omega) | (show r.e≤_;omega) | (show _≤r.c;omega) | (show r.f≤_;omega)
 ·refine ⟨?_,?_,?_,?_,?_,?_⟩ <;> first | (show _≤r.a+ -1;omega) | (show r.d+ -1≤_;omega) | (show _≤r.b;omega) | (show r.e≤_;omega) | (show _≤r.c;omega) | (show r.f≤_;omega)
 ·refine ⟨?_,?_,?_,?_,?_,?_⟩ <;> first | (show _≤r.b+1;omega) | (show r.e+1≤_;omega) | (show _≤r.a;omega) | (show r.d≤_;omega) | (show _≤r.c;omega) | (show r.f≤_;omega)
 ·refine ⟨?_,?_,?_,?_,?_,?_⟩ <;> first | (show _≤r.b+ -1;omega) | (show r.e+ -1≤_;omega) | (show _≤r.a;omega) | (show r.d≤_;omega) | (show _≤r.c;omega) | (show r.f≤_;omega)
 ·refine ⟨?_,?_,?_,?_,?_,?_⟩ <;> first | (show _≤r.c+1;omega) | (show r.f+1≤_;omega) | (show _≤r.a;omega) | (show r.d≤_;omega) | (show _≤r.b;omega) | (show r.e≤_;omega)
 ·refine ⟨?_,?_,?_,?_,?_,?_⟩ <;> first | (show _≤r.c+ -1;omega) | (show r.f+ -1≤_;omega) | (show _≤r.a;omega) | (show r.d≤_;omega) | (show _≤r.b;omega) | (show r.e≤_;omega)
theorem E2_S3 {p:List Int} (hp:Pts p) (d:Int) (hd:0≤d∧d≤5) {X:List R6} (Y:List R6) (hX: ∀r∈X,Jf r=true):E2 d X Y=S3 p fun x y z=>cnt (X.map (nx d)) x y z*cnt Y x y z:=by rw [←E2_map,S2_S3 hp];intro r hr;obtain ⟨s,hs,rfl⟩:=AO.1 hr;exact j2q d hd (hX s hs)
theorem v2o (g:Int→Int) (c:Int): ∀P:List Int,c ∉ P→sm P (fun x=>if x=c then g x else 0)=0
 | [],_=>rfl
 | x::P,h=>by rw [Xd,v2o g c P (fun k=>h (by simp [k])),Ao (fun e=>h (by simp [e]))];rfl
theorem u5h (g:Int→Int) (c:Int): ∀P:List Int,P.Pairwise (· < ·)→(c ∉ P→g c=0)→sm P (fun x=>if x=c then g x else 0)=g c
 | [],_,h=>(h (by simp)).symm
 | x::P,hP,h=>by
  obtain ⟨h1,h2⟩:=AQ.1 hP;rw [Xd];by_cases e:x=c
  ·subst e;rw [Au rfl,v2o g x P fun k=>by have:=h1 x k;omega];omega
  ·rw [Ao e,u5h g c P h2 fun k=>h (by simp [k,Ne.symm e])];omega
theorem u5f (g:Int→Int) (lo:Int) (P:List Int) (hP:P.Pairwise (· < ·)) (hl: ∀x∈P,lo≤x) (hz: ∀x,x ∉ P→g x=0): ∀n:Nat,sm P (fun x=>if x<lo+(n:Int) then g x else 0)=sm (x6z lo n) g
 | 0=>by show _=(0:Int);rw [Zp (g:=fun _=>0) fun x hx=>Ao (by have:=hl x hx;omega),Wc]
 | n+1=>by
  have ih:=u5f g lo P hP hl hz n;unfold x6z at ih ⊢;rw [BD,Bf,Uy,←ih,AW,Ba,Xd,z1e,←u5h g (lo+(n:Int)) P hP (hz _),A5,←z6e];exact Zp fun x _=>by
   by_cases h1:x<lo+(n:Int)
   ·rw [Au h1,Au (by omega),Ao (by omega)];omega
   ·by_cases h2:x=lo+(n:Int)
    ·rw [Ao h1,Au h2,Au (by omega)];omega
    ·rw [Ao h1,Ao h2,Ao (by omega)];rfl
theorem tel_n (f:Int→Int) (lo:Int): ∀n:Nat,sm (x6z lo n) (fun x=>f (x - 1) - f x)=f (lo - 1) - f (lo+(n:Int) - 1)
 | 0=>by show (0:Int)=_;rw [show lo+((0:Nat):Int) - 1=lo - 1 by omega];omega
 | n+1=>by have ih:=tel_n f lo n;unfold x6z at ih ⊢;rw [BD,Bf,Uy,ih,AW,Ba,Xd,z1e,show lo+((n+1:Nat):Int) - 1=lo+(n:Int) by omega];omega
theorem u9s (f:Int→Int) (lo:Int): ∀n:Nat,sm (x6z lo n) (fun x=>x*(f (x - 1) - f x))=sm (x6z lo n) f+lo*f (lo - 1) - (lo+(n:Int))*f (lo+(n:Int) - 1)
 | 0=>by show (0:Int)=0+_ - _;rw [show lo+((0:Nat):Int)=lo by omega];omega
 | n+1=>by have ih:=u9s f lo n;unfold x6z at ih ⊢;rw [BD,Bf,Uy,Uy,ih,AW,Ba,Xd,z1e,Xd,z1e,show lo+((n+1:Nat):Int) - 1=lo+(n:Int) by omega,show lo+((n+1:Nat):Int)=(lo+(n:Int))+1 by omega];generalize lo+(n:Int)=c;rw [Int.mul_sub,Int.add_mul c 1,Cx];omega
structure PtS (p:List Int):Prop where
 pts:Pts p
 sum: ∀(g:Int→Int) (P:List Int),P.Pairwise (· < ·)→(∀x∈P,-1000005≤x∧x<1000005)→(∀x,x ∉ P→g x=0)→sm P g=sm p g
 tel: ∀f:Int→Int,f (-1000006)=0→f 1000004=0→sm p (fun x=>f (x - 1) - f x)=0
 abel: ∀f:Int→Int,f (-1000006)=0→f 1000004=0→sm p (fun x=>x*(f (x - 1) - f x))=sm p f
theorem v4n : ∃p,PtS p:=by
 have key: ∀N:Nat,(N:Int)=2000010→PtS (x6z (-1000005) N):=fun N hN=>by
  have e1:(-1000005:Int) - 1= -1000006:=by decide
  have e2:(-1000005:Int)+(N:Int) - 1=1000004:=by omega
  refine ⟨⟨fun a b h=> ?_,?_⟩,fun g P hP hb hz=> ?_,fun f h1 h2=> ?_,fun f h1 h2=> ?_⟩
  ·rw [v6m];unfold ovl;omega
  ·simp only [x6z,A3,Cc];omega
  ·rw [←u5f g (-1000005) P hP (fun x hx=>(hb x hx).1) hz N];exact Zp fun x hx=>(Au (by have:=hb x hx;omega)).symm
  ·rw [tel_n,e1,e2,h1,h2];rfl
  ·rw [u9s,e1,e2,h1,h2];omega
 exact ⟨_,key 2000010 rfl⟩
def A4 (l:List R4):Int:=sm l fun t=>(t.c - t.a)*(t.d - t.b)
theorem sm_in (u w:Int): ∀l:List R4,sm l (fun t=>ind t.a t.c u*ind t.b t.d w)=((l.filter (inR4 u w)).length :Int)
 | []=>rfl
 | t::l=>by
  rw [Xd,sm_in u w l,Be];unfold ind inR4;by_cases h1:t.a≤u∧u<t.c <;> by_cases h2:t.b≤w∧w<t.d
  ·rw [Au h1,Au h2,Au (by simp [h1,h2]),AV];omega
  ·rw [Au h1,Ao h2,Ao (by simpa [h1] using h2)];omega
  ·rw [Ao h1,Cv,Ao (by simp only [Ac,Al];exact fun k=>h1 k.1)];omega
  ·rw [Ao h1,Cv,Ao (by simp only [Ac,Al];exact fun k=>h1 k.1)];omega
theorem A4_pts {p:List Int} (hp:Pts p) {l:List R4} (hc:Wz.can l) (hv: ∀r∈l,Wh r=true):A4 l=sm p fun u=>sm p fun w=>((z0u (ptL Wz.inB l (u,w)):Nat):Int):=by
 have one: ∀t∈l,(t.c - t.a)*(t.d - t.b)=sm p fun u=>sm p fun w=>ind t.a t.c u*ind t.b t.d w:=fun t ht=>by have v:=hv t ht;simp only [Wh,Ac,Al] at v;rw [Zp (fun u _=>z2v p (ind t.b t.d) (ind t.a t.c u)),y4t,hp.1 _ _ (by omega),hp.1 _ _ (by omega)];rw [show max 0 (t.c - t.a)=t.c - t.a by omega,show max 0 (t.d - t.b)=t.d - t.b by omega]
 unfold A4;rw [Zp one,Um l p];refine Zp fun u _=> ?_;rw [Um l p];exact Zp fun w _=>by rw [sm_in,v8g hc]
def upI (q:Ax) (L:List R6) (u w x:Int):Int:=(z0u (q.inL L (x - 1) u w∧ ¬q.inL L x u w):Int)
def dnI (q:Ax) (L:List R6) (u w x:Int):Int:=(z0u (q.inL L x u w∧ ¬q.inL L (x - 1) u w):Int)
def faI (s:Bool) (q:Ax) (L:List R6) (u w x:Int):Int:=match s with
 | true=>upI q L u w x
 | false=>dnI q L u w x
theorem up_dn (q:Ax) (L:List R6) (u w x:Int):upI q L u w x - dnI q L u w x=inI q L u w (x - 1) - inI q L u w x:=w8s _ _
theorem z3f {P Q:Prop} (h:P↔Q):z0u P=z0u Q:=by
 by_cases g:P
 ·rw [Ve g,Ve (h.1 g)]
 ·rw [Xs g,Xs fun k=>g (h.2 k)]
theorem v3b (q:Ax) (L:List R6) {x:Int} (hx:x ∉ plQ q L) (u w:Int):q.inL L (x - 1) u w↔q.inL L x u w:=by
 constructor
 ·rintro ⟨r,hr,⟨h1,h2⟩,k⟩;exact ⟨r,hr,⟨by omega,AL fun hn=>hx ((z4z q L x).2 ⟨r,hr,.inr (by omega)⟩)⟩,k⟩
 ·rintro ⟨r,hr,⟨h1,h2⟩,k⟩;exact ⟨r,hr,⟨AL fun hn=>hx ((z4z q L x).2 ⟨r,hr,.inl (by omega)⟩),by omega⟩,k⟩
theorem fa_off (s:Bool) (q:Ax) (L:List R6) {x:Int} (hx:x ∉ plQ q L) (u w:Int):faI s q L u w x=0:=by
 have h:=v3b q L hx u w;cases s with
 | true=>show ((z0u _:Nat):Int)=0;rw [Xs fun k=>k.2 (h.1 k.1)];rfl
 | false=>show ((z0u _:Nat):Int)=0;rw [Xs fun k=>k.2 (h.2 k.1)];rfl
def z0q (g:Int→Int) (q:Ax) (s:Bool) (L:List R6):Int:=sm (plQ q L) fun x=>g x*A4 (Wn q L x s)
section
variable {L:List R6} (hv: ∀r∈L,Jf r=true) (hz:y9t L=0)
include hv hz
theorem w5c (q:Ax) (s:Bool) {x:Int} (hx:x∈plQ q L):Vi q L x s=0:=by have _u:=hv;exact w6f (u4b hz q s) x hx
theorem y5y (q:Ax) {x u w:Int} (h:q.inL L x u w):(-1000000≤x∧x<1000000)∧(-1000000≤u∧u<1000000)∧(-1000000≤w∧w<1000000):=by have _u:=hz;obtain ⟨r,hr,⟨h1,h2⟩,h3,h4⟩:=h;obtain ⟨v,_,h5,h6⟩:=q.val (hv r hr);simp only [Wh,Ac,Al] at v;omega
theorem mfc_A4 {p:List Int} (hp:Pts p) (q:Ax) (s:Bool) {x:Int} (hx:x∈plQ q L):A4 (Wn q L x s)=sm p fun u=>sm p fun w=>faI s q L u w x:=by
 obtain ⟨c,pts⟩:=v5w hv q s x (w4e hv q hx) (w5c hv hz q s hx);rw [A4_pts hp c (Qk c fun u w k=> ?_)]
 ·refine Zp fun u _=>Zp fun w _=> ?_;cases s with
  | true=>show _=((z0u _:Nat):Int);rw [z3f (pts u w)]
  | false=>show _=((z0u _:Nat):Int);rw [z3f (pts u w)]
 ·have k:=(pts u w).1 k;cases s with
  | true=>exact (y5y hv hz q k.1).2
  | false=>exact (y5y hv hz q k.1).2
theorem z9e {p:List Int} (hp:PtS p) (g:Int→Int) (q:Ax) (s:Bool):z0q g q s L=sm p fun u=>sm p fun w=>sm p fun x=>g x*faI s q L u w x:=by
 have e:z0q g q s L=sm (plQ q L) fun x=>g x*sm p fun u=>sm p fun w=>faI s q L u w x:=Zp fun x hx=>by rw [mfc_A4 hv hz hp.pts q s hx]
 rw [e,hp.sum _ _ (z9x q L) (fun x hx=>by have:=w4e hv q hx;omega) fun x hx=>by
  rw [Zp (g:=fun _=>0) fun u _=>by rw [Zp (g:=fun _=>0) fun w _=>fa_off s q L hx u w,Wc],Wc,Int.mul_zero]]
 have e2:(sm p fun x=>g x*sm p fun u=>sm p fun w=>faI s q L u w x)=sm p fun x=>sm p fun u=>sm p fun w=>g x*faI s q L u w x:=Zp fun x _=>by rw [←z2v];exact Zp fun u _=>by rw [←z2v]
 rw [e2,Um p p];exact Zp fun u _=>by rw [Um p p]
theorem x2n (q:Ax) (u w:Int) {x:Int} (hx:x< -1000000∨1000000≤x):inI q L u w x=0:=by unfold inI;rw [Xs];rfl;intro k;have:=(y5y hv hz q k).1;omega
theorem v8j {p:List Int} (hp:PtS p) (q:Ax):z0q (fun _=>1) q true L=z0q (fun _=>1) q false L:=by
 have h:z0q (fun _=>1) q true L - z0q (fun _=>1) q false L=0:=by rw [z9e hv hz hp,z9e hv hz hp,←z7n,Zp (g:=fun _=>0),Wc];intro u _;rw [←z7n,Zp (g:=fun _=>0),Wc];intro w _;rw [←z7n,←hp.tel (inI q L u w) (x2n hv hz q u w (.inl (by decide))) (x2n hv hz q u w (.inr (by decide)))];refine Zp fun x _=> ?_;rw [Cx,Cx];exact up_dn q L u w x
 omega
theorem vol_in {p:List Int} (hp:PtS p) (q:Ax):z0q id q true L - z0q id q false L=sm p fun u=>sm p fun w=>sm p fun x=>inI q L u w x:=by rw [z9e hv hz hp,z9e hv hz hp,←z7n];refine Zp fun u _=> ?_;rw [←z7n];refine Zp fun w _=> ?_;show _=sm p (inI q L u w);rw [←z7n,←hp.abel (inI q L u w) (x2n hv hz q u w (.inl (by decide))) (x2n hv hz q u w (.inr (by decide)))];refine Zp fun x _=> ?_;rw [←Int.mul_sub,←up_dn q L u w x];rfl
theorem j6y {p:List Int} (hp:PtS p) (q:Ax):z0q (fun _=>1) q false L=(sm p fun u=>sm p fun w=>sm p fun x=>inI q L u w x) - sm p fun u=>sm p fun w=>sm p fun x=>inI q L u w (x - 1)*inI q L u w x:=by
 rw [z9e hv hz hp,←z7n];refine Zp fun u _=> ?_;rw [←z7n];refine Zp fun w _=> ?_;rw [←z7n];refine Zp fun x _=> ?_;rw [Cx];show ((z0u (q.inL L x u w∧ ¬q.inL L (x - 1) u w):Nat):Int)=(z0u (q.inL L x u w):Int) - (z0u (q.inL L (x - 1) u w):Int)*(z0u (q.inL L x u w):Int);by_cases a:q.inL L x u w <;> by_cases b:q.inL L (x - 1) u w
 ·rw [Ve a,Ve b,Xs fun k=>k.2 b];rfl
 ·rw [Ve a,Xs b,Ve ⟨a,b⟩];rfl
 ·rw [Xs a,Ve b,Xs fun k=>a k.1];rfl
 ·rw [Xs a,Xs b,Xs fun k=>a k.1];rfl
end
theorem w6z (p:List Int) (q:Ax) (G:Int×Int×Int→Int):(sm p fun u=>sm p fun w=>sm p fun t=>G (q.to t u w))=S3 p fun x y z=>G (x,y,z):=by
 cases q
 ·show (sm p fun u=>sm p fun w=>sm p fun t=>G (t,u,w))=sm p fun x=>sm p fun y=>sm p fun z=>G (x,y,z);rw [Um p p fun x y=>sm p fun z=>G (x,y,z)];exact Zp fun u _=>Um p p _
 ·exact Zp fun u _=>Um p p _
 ·rfl
theorem y0h {L:List R6} (ha:L.Pairwise Ap6) (q:Ax) (u w x:Int):inI q L u w x=cnt L (q.to x u w).1 (q.to x u w).2.1 (q.to x u w).2.2:=by
 obtain ⟨c1,c2⟩:=x0q L ha (q.to x u w).1 (q.to x u w).2.1 (q.to x u w).2.2;unfold inI;rw [z3f (q.inL_S L x u w)];by_cases g:inS L (q.to x u w).1 (q.to x u w).2.1 (q.to x u w).2.2
 ·rw [Ve g,c1 g];rfl
 ·rw [Xs g,c2 g];rfl
theorem w6m (q:Ax) (X:List R6) (t u w:Int):cnt (X.map (nx (2*q.ix))) (q.to t u w).1 (q.to t u w).2.1 (q.to t u w).2.2=cnt X (q.to (t - 1) u w).1 (q.to (t - 1) u w).2.1 (q.to (t - 1) u w).2.2:=by
 unfold cnt;rw [x4b];refine Zp fun r _=> ?_;cases q
 ·show ind (r.a+1) (r.d+1) t*_*_=_;rw [v6n];rfl
 ·show _*ind (r.b+1) (r.e+1) t*_=_;rw [v6n];rfl
 ·show _*_*ind (r.c+1) (r.f+1) t=_;rw [v6n];rfl
section
variable {L:List R6} (h:Yo L=0) (hz:y9t L=0)
include h hz
theorem v9e (q:Ax):z0q id q true L - z0q id q false L=sm L bxV:=by obtain ⟨p,hp⟩:=v4n;have hs:=Sol.of h;rw [vol_in hs.val hz hp q,w3d hp.pts hs,←w6z p q fun v=>cnt L v.1 v.2.1 v.2.2];exact Zp fun u _=>Zp fun w _=>Zp fun x _=>y0h hs.ap q u w x
theorem z1x (q:Ax):z0q (fun _=>1) q true L=sm L bxV - E2 (2*q.ix) L L∧z0q (fun _=>1) q false L=sm L bxV - E2 (2*q.ix) L L:=by
 obtain ⟨p,hp⟩:=v4n;have hs:=Sol.of h;rw [v8j hs.val hz hp q,j6y hs.val hz hp q,w3d hp.pts hs,E2_S3 hp.pts (2*q.ix) (by cases q <;> decide) L hs.val,←w6z p q fun v=>cnt L v.1 v.2.1 v.2.2,←w6z p q fun v=>cnt (L.map (nx (2*q.ix))) v.1 v.2.1 v.2.2*cnt L v.1 v.2.1 v.2.2];have e1:(sm p fun u=>sm p fun w=>sm p fun x=>inI q L u w x)=sm p fun u=>sm p fun w=>sm p fun t=>cnt L (q.to t u w).1 (q.to t u w).2.1 (q.to t u w).2.2:=Zp fun u _=>Zp fun w _=>Zp fun x _=>y0h hs.ap q u w x;have e2:(sm p fun u=>sm p fun w=>sm p fun x=>inI q L u w (x - 1)*inI q L u w x)=sm p fun u=>sm p fun w=>sm p fun t=>cnt (L.map (nx (2*q.ix))) (q.to t u w).1 (q.to t u w).2.1 (q.to t u w).2.2*cnt L (q.to t u w).1 (q.to t u w).2.1 (q.to t u w).2.2:=Zp fun u _=>Zp fun w _=>Zp fun x _=>by rw [y0h hs.ap,y0h hs.ap,w6m]
 rw [e1,e2];exact ⟨rfl,rfl⟩
end
def z6z :Int→List Int→Int
 | a,[]=>a
 | _,b::l=>z6z b l
theorem w0h : ∀(l:List Int) (a:Int),(a::l).Pairwise (· ≤ ·)→a≤z6z a l
 | [],a,_=>AZ _
 | b::l,a,h=>by obtain ⟨h1,h2⟩:=AQ.1 h;have:=w0h l b h2;have:=h1 b (by simp);show a≤z6z b l;omega
theorem v2v {p:List Int} (hp:Pts p) {g:Int→Int}: ∀(l:List Int) (a:Int),(a::l).Pairwise (· ≤ ·)→ -1000005≤a→z6z a l≤1000005→(∀t,a<t→t<z6z a l→t ∉ l→g (t - 1)=g t)→sgS g a l=sm p fun t=>if a≤t∧t<z6z a l then g t else 0
 | [],a,_,_,_,_=>by rw [Zp (g:=fun _=>0) fun t _=>Ao (by show¬(a≤t∧t<a);omega),Wc];rfl
 | b::l,a,h,ha,hb,hg=>by
  obtain ⟨h1,h2⟩:=AQ.1 h;have hab:=h1 b (by simp);have hbl:=w0h l b h2;have hb:z6z b l≤1000005:=hb;have low: ∀t∈b::l,b≤t:=fun t ht=>by
   rcases AA.1 ht with rfl | ht
   ·exact AZ _
   ·exact (AQ.1 h2).1 t ht
  have cst: ∀n:Nat,a+(n:Int)<b→g (a+(n:Int))=g a:=fun n=>by
   induction n with
   | zero=>intro _;rw [show a+((0:Nat):Int)=a by omega]
   | succ n ih=>
    intro hn;rw [←ih (by omega),←hg (a+((n+1:Nat):Int)) (by omega) (by show _<z6z b l;omega) (fun k=>by have:=low _ k;omega)]
    congr 1;omega
  have ih:=v2v hp l b h2 (by omega) hb fun t t1 t2 t3=>hg t (by omega) t2 fun k=>by
   rcases AA.1 k with rfl | k
   ·omega
   ·exact t3 k
  show g a*(b - a)+sgS g b l=sm p fun t=>if a≤t∧t<z6z b l then g t else 0
  rw [ih,show g a*(b - a)=sm p fun t=>g a*ind a b t by rw [z2v,hp.1 a b ⟨ha,by omega⟩,show max 0 (b - a)=b - a by omega],←z6e];refine Zp fun t _=> ?_;unfold ind;by_cases q1:a≤t∧t<b
  ·have e:=cst (t - a).toNat (by omega);rw [show a+((t - a).toNat :Int)=t by omega] at e;rw [Au q1,Ao (by omega),Au (by omega),e];omega
  ·rw [Ao q1];by_cases q2:b≤t∧t<z6z b l
   ·rw [Au q2,Au (by omega)];omega
   ·rw [Ao q2,Ao (by omega)];omega
theorem w3l (q:Ax) (L:List R6) (t u w:Int):shQ q L t u w=true↔q.inL L t u w:=by rw [q.inL_S];cases q <;> exact shs_in _ _ _ _
theorem w9t {q:Ax} {L:List R6} {u w x:Int} (h:q.inL L x u w):inI q L u w x=1:=by unfold inI;rw [Ve h];rfl
theorem w9u {q:Ax} {L:List R6} {u w x:Int} (h: ¬q.inL L x u w):inI q L u w x=0:=by unfold inI;rw [Xs h];rfl
theorem u3c (q:Ax) (L:List R6) (x f s t:Int):gO q L x f s t=(1 - inI q L (x - 1) f t)*(1 - inI q L x s t):=by
 unfold gO;rcases Yp (shQ q L t (x - 1) f) with h1 | h1 <;> rw [h1]
 ·rw [w9t ((w3l ..).1 h1)];simp
 rw [w9u fun k=>by rw [(w3l ..).2 k] at h1;cases h1];rcases Yp (shQ q L t x s) with h2 | h2 <;> rw [h2]
 ·rw [w9t ((w3l ..).1 h2)];simp
 ·rw [w9u fun k=>by rw [(w3l ..).2 k] at h2;cases h2];simp
theorem w5u {q:Ax} {L:List R6} {t:Int} (h:t ∉ plQ q L) (u w:Int):inI q L u w (t - 1)=inI q L u w t:=by unfold inI;rw [z3f (v3b q L h u w)]
theorem u3a (lo hi c x:Int):x∈v6l lo hi c↔x=c∧lo<c∧c<hi:=by unfold v6l;by_cases h1:lo<c <;> by_cases h2:c<hi <;> simp [h1,h2]
theorem w6l (q:Ax) (lo hi x:Int): ∀L:List R6,x∈v7v q lo hi L↔(∃r∈L,x=q.lo r∨x=q.hi r)∧lo<x∧x<hi
 | []=>⟨fun h=>(by cases h),fun ⟨⟨_,h,_⟩,_⟩=>(by cases h)⟩
 | r::L=>by
  have ih:=w6l q lo hi x L;simp only [v7v,AD,ih,u3a];constructor
  ·rintro (⟨rfl,h⟩ | ⟨rfl,h⟩ | ⟨⟨s,hs,h⟩,k⟩)
   ·exact ⟨⟨r,by simp,.inl rfl⟩,h⟩
   ·exact ⟨⟨r,by simp,.inr rfl⟩,h⟩
   ·exact ⟨⟨s,by simp [hs],h⟩,k⟩
  ·rintro ⟨⟨s,hs,h⟩,k⟩;rcases AA.1 hs with rfl | hs
   ·rcases h with rfl | rfl
    ·exact .inl ⟨rfl,k⟩
    ·exact .inr (.inl ⟨rfl,k⟩)
   ·exact .inr (.inr ⟨⟨s,hs,h⟩,k⟩)
theorem w5n : ∀(l:List Int) (a:Int),z6z a l∈a::l
 | [],a=>by simp [z6z]
 | b::l,a=>List.mem_cons_of_mem _ (w5n l b)
theorem w5o : ∀(l:List Int) (a:Int),(a::l).Pairwise (· ≤ ·)→ ∀x∈a::l,x≤z6z a l
 | [],a,_,x,hx=>by rw [AN.1 hx];exact AZ _
 | b::l,a,h,x,hx=>by
  obtain ⟨h1,h2⟩:=AQ.1 h;rcases AA.1 hx with rfl | hx
  ·exact w0h (b::l) x h
  ·exact w5o l b h2 x hx
theorem u9d (q:Ax) (L:List R6) (x f s t:Int):0≤gO q L x f s t∧gO q L x f s t≤1:=by unfold gO;cases shQ q L t (x - 1) f <;> cases shQ q L t x s <;> decide
theorem j2z {p:List Int} (hp:Pts p) (q:Ax) (L:List R6) (x y lo hi:Int) (b:Bool) (hlo: -1000000≤lo) (hhi:hi≤1000000):w8w q L x y lo hi b=sm p fun t=>ind lo hi t*gO q L x (bif b then y else y - 1) (bif b then y - 1 else y) t:=by
 unfold w8w;generalize (bif b then y else y - 1)=f;generalize (bif b then y - 1 else y)=s;by_cases hlt:lo<hi
 ·rw [Ay (by omega),Aa];have hs:=u4v ([lo,hi]++v7v q lo hi L);have hm:=v2e ([lo,hi]++v7v q lo hi L);have mem: ∀z,z∈ [lo,hi]++v7v q lo hi L↔z=lo∨z=hi∨((∃r∈L,z=q.lo r∨z=q.hi r)∧lo<z∧z<hi):=fun z=>by rw [AD,w6l];simp [or_assoc]
  generalize Xu ([lo,hi]++v7v q lo hi L)=C at hs hm;cases C with
  | nil=>have:=(hm lo).2 ((mem lo).2 (.inl rfl));cases this
  | cons a l=>
   have e1:a=lo:=by
    have h1:=(mem a).1 ((hm a).1 (by simp));have h2:=(hm lo).2 ((mem lo).2 (.inl rfl));rcases AA.1 h2 with h2 | h2
    ·exact h2.symm
    ·have:=(AQ.1 hs).1 lo h2;omega
   have e2:z6z a l=hi:=by have h1:=(mem _).1 ((hm _).1 (w5n l a));have h2:=w5o l a hs hi ((hm hi).2 ((mem hi).2 (.inr (.inl rfl))));omega
   have hg: ∀t,a<t→t<z6z a l→t ∉ l→gO q L x f s (t - 1)=gO q L x f s t:=fun t h1 h2 h3=>by
    have hn:t ∉ plQ q L:=fun k=>by
     have k:=(z4z q L t).1 k;have:=(hm t).2 ((mem t).2 (.inr (.inr ⟨k,by omega,by omega⟩)));rcases AA.1 this with k | k
     ·omega
     ·exact h3 k
    rw [u3c,u3c,w5u hn,w5u hn]
   show wrap .i64 (sgS (gO q L x f s) a l)=_;rw [v2v hp l a hs (by omega) (by omega) hg,e2,e1];have e3:(sm p fun t=>if lo≤t∧t<hi then gO q L x f s t else 0)=sm p fun t=>ind lo hi t*gO q L x f s t:=Zp fun t _=>by
    unfold ind;by_cases k:lo≤t∧t<hi
    ·rw [Au k,Au k,Cx]
    ·rw [Ao k,Ao k,Cv]
   rw [e3];refine Zq ⟨?_,?_⟩
   ·have:0≤sm p fun t=>ind lo hi t*gO q L x f s t:=y4s fun t _=>Int.mul_nonneg (z2m ..) (u9d ..).1;omega
   ·have:(sm p fun t=>ind lo hi t*gO q L x f s t)≤sm p (ind lo hi):=v2p fun t _=>by
     have h1:=u9d q L x f s t;have h2:=z2m lo hi t
     calc ind lo hi t*gO q L x f s t≤ind lo hi t*1:=Int.mul_le_mul_of_nonneg_left h1.2 h2
      _=ind lo hi t:=Int.mul_one _
    rw [hp.1 lo hi ⟨by omega,by omega⟩] at this;omega
 ·rw [Ah (by omega),Ab,Zp (g:=fun _=>0) fun t _=> ?_,Wc];unfold ind;rw [Ao (by omega),Cv]
def bI (q:Ax) (r:R6) (u w x:Int):Int:=ind (q.lo r) (q.hi r) x*(ind (q.rc r).a (q.rc r).c u*ind (q.rc r).b (q.rc r).d w)
theorem w5v {L:List R6} (ha:L.Pairwise Ap6) (q:Ax) (u w x:Int):inI q L u w x=sm L fun r=>bI q r u w x:=by
 rw [y0h ha];unfold cnt;refine Zp fun r _=> ?_;unfold bI inR;cases q
 ·show ind r.a r.d x*ind r.b r.e u*ind r.c r.f w=ind r.a r.d x*(ind r.b r.e u*ind r.c r.f w);rw [Int.mul_assoc]
 ·show ind r.a r.d u*ind r.b r.e x*ind r.c r.f w=ind r.b r.e x*(ind r.a r.d u*ind r.c r.f w);rw [BM (ind r.a r.d u),Int.mul_assoc]
 ·show ind r.a r.d u*ind r.b r.e w*ind r.c r.f x=ind r.c r.f x*(ind r.a r.d u*ind r.b r.e w);rw [BM]
def w8r (a b c d:Int):Int:=a*b*((1 - c)*(1 - d))+c*d*((1 - a)*(1 - b))
def w8q (q:Ax) (L:List R6) (u w x:Int):Int:=w8r (inI q L (u - 1) (w - 1) x) (inI q L u w x) (inI q L (u - 1) w x) (inI q L u (w - 1) x)
def PQ (p:List Int) (q:Ax) (L:List R6):Int:=sm p fun u=>sm p fun w=>sm p fun x=>w8q q L u w x
def DE (q:Ax) (L:List R6) (r s:R6) (u w x:Int):Int:=bI q r (u - 1) (w - 1) x*bI q s u w x*((1 - inI q L (u - 1) w x)*(1 - inI q L u (w - 1) x))+bI q r (u - 1) w x*bI q s u (w - 1) x*((1 - inI q L (u - 1) (w - 1) x)*(1 - inI q L u w x))
theorem v2n {α:Type} (l:List α) (f g:α→Int) (c:Int):(sm l f)*(sm l g)*c=sm l fun r=>sm l fun s=>f r*g s*c:=by rw [←y4t,←y4t];refine Zp fun r _=> ?_;rw [←z2v,←y4t]
theorem pin_DE {L:List R6} (ha:L.Pairwise Ap6) (q:Ax) (u w x:Int):w8q q L u w x=sm L fun r=>sm L fun s=>DE q L r s u w x:=by
 have e:w8q q L u w x=(sm L fun r=>bI q r (u - 1) (w - 1) x)*(sm L fun r=>bI q r u w x)*((1 - inI q L (u - 1) w x)*(1 - inI q L u (w - 1) x))+(sm L fun r=>bI q r (u - 1) w x)*(sm L fun r=>bI q r u (w - 1) x)*((1 - inI q L (u - 1) (w - 1) x)*(1 - inI q L u w x)):=by unfold w8q w8r;rw [←w5v ha,←w5v ha,←w5v ha,←w5v ha]
 rw [e,v2n,v2n,←z6e];refine Zp fun r _=> ?_;rw [←z6e];exact Zp fun s _=>rfl
theorem bI_t {q:Ax} {r:R6} {u w x:Int} (h:q.inB r x u w):bI q r u w x=1:=by obtain ⟨h1,h2,h3⟩:=h;unfold bI ind;rw [Au h1,Au h2,Au h3];rfl
theorem bI_f {q:Ax} {r:R6} {u w x:Int} (h: ¬q.inB r x u w):bI q r u w x=0:=by
 unfold bI ind;by_cases h1:q.lo r≤x∧x<q.hi r
 ·by_cases h2:(q.rc r).a ≤u∧u<(q.rc r).c
  ·rw [Ao (c:=(q.rc r).b ≤w∧w<(q.rc r).d) fun k=>h ⟨h1,h2,k⟩,Int.mul_zero,Int.mul_zero]
  ·rw [Ao (c:=(q.rc r).a ≤u∧u<(q.rc r).c) h2,Cv,Int.mul_zero]
 ·rw [Ao h1,Cv]
theorem w5s (q:Ax) (r s:R6) (x:Int):ind (Jg (q.lo r) (q.lo s)) (Jm (q.hi r) (q.hi s)) x=if (q.lo r≤x∧x<q.hi r)∧(q.lo s≤x∧x<q.hi s) then 1 else 0:=by
 rw [z3m,z3l];unfold ind;by_cases h:(q.lo r≤x∧x<q.hi r)∧(q.lo s≤x∧x<q.hi s)
 ·rw [Au h,Au (by omega)]
 ·rw [Ao h,Ao (by omega)]
theorem D_pt {q:Ax} {L:List R6} (hv: ∀r∈L,Jf r=true) {r s:R6} (hr:r∈L) (hs:s∈L) (u w x:Int):bI q r (u - 1) (w - 1) x*bI q s u w x*((1 - inI q L (u - 1) w x)*(1 - inI q L u (w - 1) x))=
  if u=(q.rc r).c ∧w=(q.rc r).d then (if (q.rc r).c =(q.rc s).a ∧(q.rc r).d =(q.rc s).b then ind (Jg (q.lo r) (q.lo s)) (Jm (q.hi r) (q.hi s)) x*gO q L u w (w - 1) x else 0) else 0:=by
 have v1:=(q.val (hv r hr)).1;have v2:=(q.val (hv s hs)).1;simp only [Wh,Ac,Al] at v1 v2;rw [w5s,u3c];by_cases p1:q.inL L x (u - 1) w
 ·rw [w9t p1];simp
 by_cases p2:q.inL L x u (w - 1)
 ·rw [w9t p2];simp
 rw [w9u p1,w9u p2];by_cases b1:q.inB r x (u - 1) (w - 1)
 ·by_cases b2:q.inB s x u w
  ·have hx:(q.lo r≤x∧x<q.hi r)∧(q.lo s≤x∧x<q.hi s):=⟨b1.1,b2.1⟩
   have n1: ¬((q.rc r).b ≤w∧w<(q.rc r).d):=fun k=>p1 ⟨r,hr,b1.1,b1.2.1,k⟩;have n2: ¬((q.rc r).a ≤u∧u<(q.rc r).c):=fun k=>p2 ⟨r,hr,b1.1,k,b1.2.2⟩;have n3: ¬((q.rc s).a ≤u - 1∧u - 1<(q.rc s).c):=fun k=>p1 ⟨s,hs,b2.1,k,b2.2.2⟩;have n4: ¬((q.rc s).b ≤w - 1∧w - 1<(q.rc s).d):=fun k=>p2 ⟨s,hs,b2.1,b2.2.1,k⟩;obtain ⟨_,b12,b13⟩:=b1;obtain ⟨_,b22,b23⟩:=b2;rw [bI_t ⟨hx.1,b12,b13⟩,bI_t ⟨hx.2,b22,b23⟩,Au (by omega),Au (by omega),Au hx];rfl
  ·rw [bI_f b2];by_cases h1:u=(q.rc r).c ∧w=(q.rc r).d
   ·by_cases h2:(q.rc r).c =(q.rc s).a ∧(q.rc r).d =(q.rc s).b
    ·rw [Au h1,Au h2,Ao fun k=>b2 ⟨k.2,by omega,by omega⟩];simp
    ·rw [Au h1,Ao h2];simp
   ·rw [Ao h1];simp
 ·rw [bI_f b1];by_cases h1:u=(q.rc r).c ∧w=(q.rc r).d
  ·by_cases h2:(q.rc r).c =(q.rc s).a ∧(q.rc r).d =(q.rc s).b
   ·rw [Au h1,Au h2,Ao fun k=>b1 ⟨k.1,by omega,by omega⟩];simp
   ·rw [Au h1,Ao h2];simp
  ·rw [Ao h1];simp
theorem E_pt {q:Ax} {L:List R6} (hv: ∀r∈L,Jf r=true) {r s:R6} (hr:r∈L) (hs:s∈L) (u w x:Int):bI q r (u - 1) w x*bI q s u (w - 1) x*((1 - inI q L (u - 1) (w - 1) x)*(1 - inI q L u w x))=
  if u=(q.rc r).c ∧w=(q.rc r).b then (if (q.rc r).c =(q.rc s).a ∧(q.rc s).d =(q.rc r).b then ind (Jg (q.lo r) (q.lo s)) (Jm (q.hi r) (q.hi s)) x*gO q L u (w - 1) w x else 0) else 0:=by
 have v1:=(q.val (hv r hr)).1;have v2:=(q.val (hv s hs)).1;simp only [Wh,Ac,Al] at v1 v2;rw [w5s,u3c];by_cases p1:q.inL L x (u - 1) (w - 1)
 ·rw [w9t p1];simp
 by_cases p2:q.inL L x u w
 ·rw [w9t p2];simp
 rw [w9u p1,w9u p2];by_cases b1:q.inB r x (u - 1) w
 ·by_cases b2:q.inB s x u (w - 1)
  ·have hx:(q.lo r≤x∧x<q.hi r)∧(q.lo s≤x∧x<q.hi s):=⟨b1.1,b2.1⟩
   have n1: ¬((q.rc r).b ≤w - 1∧w - 1<(q.rc r).d):=fun k=>p1 ⟨r,hr,b1.1,b1.2.1,k⟩;have n2: ¬((q.rc r).a ≤u∧u<(q.rc r).c):=fun k=>p2 ⟨r,hr,b1.1,k,b1.2.2⟩;have n3: ¬((q.rc s).a ≤u - 1∧u - 1<(q.rc s).c):=fun k=>p1 ⟨s,hs,b2.1,k,b2.2.2⟩;have n4: ¬((q.rc s).b ≤w∧w<(q.rc s).d):=fun k=>p2 ⟨s,hs,b2.1,b2.2.1,k⟩;obtain ⟨_,b12,b13⟩:=b1;obtain ⟨_,b22,b23⟩:=b2;rw [bI_t ⟨hx.1,b12,b13⟩,bI_t ⟨hx.2,b22,b23⟩,Au (by omega),Au (by omega),Au hx];rfl
  ·rw [bI_f b2];by_cases h1:u=(q.rc r).c ∧w=(q.rc r).b
   ·by_cases h2:(q.rc r).c =(q.rc s).a ∧(q.rc s).d =(q.rc r).b
    ·rw [Au h1,Au h2,Ao fun k=>b2 ⟨k.2,by omega,by omega⟩];simp
    ·rw [Au h1,Ao h2];simp
   ·rw [Ao h1];simp
 ·rw [bI_f b1];by_cases h1:u=(q.rc r).c ∧w=(q.rc r).b
  ·by_cases h2:(q.rc r).c =(q.rc s).a ∧(q.rc s).d =(q.rc r).b
   ·rw [Au h1,Au h2,Ao fun k=>b1 ⟨k.1,by omega,by omega⟩];simp
   ·rw [Au h1,Ao h2];simp
  ·rw [Ao h1];simp
theorem pick {p:List Int} (hp:PtS p) (f:Int→Int) {c:Int} (hc: -1000005≤c∧c<1000005):sm p (fun u=>if u=c then f u else 0)=f c:=by rw [←hp.sum (fun u=>if u=c then f u else 0) [c] (by simp) (by simpa using hc) fun x hx=>Ao (by simpa using hx),Xd,z1e,Au rfl,A5]
theorem pick2 {p:List Int} (hp:PtS p) (F:Int→Int→Int→Int) {c d:Int} (hc: -1000005≤c∧c<1000005) (hd: -1000005≤d∧d<1000005):(sm p fun u=>sm p fun w=>sm p fun x=>if u=c∧w=d then F u w x else 0)=sm p fun x=>F c d x:=by
 have e: ∀u,(sm p fun w=>sm p fun x=>if u=c∧w=d then F u w x else 0)=if u=c then (sm p fun w=>if w=d then (sm p fun x=>F u w x) else 0) else 0:=fun u=>by
  by_cases h:u=c
  ·rw [Au h];refine Zp fun w _=> ?_;by_cases k:w=d
   ·rw [Au k];exact Zp fun x _=>Au ⟨h,k⟩
   ·rw [Ao k,Zp (g:=fun _=>0) fun x _=>Ao fun z=>k z.2,Wc]
  ·rw [Ao h,Zp (g:=fun _=>0) fun w _=>by rw [Zp (g:=fun _=>0) fun x _=>Ao fun z=>h z.1,Wc],Wc]
 rw [Zp fun u _=>e u,pick hp _ hc,pick hp _ hd]
theorem DE_sum {p:List Int} (hp:PtS p) {q:Ax} {L:List R6} (hv: ∀r∈L,Jf r=true) {r s:R6} (hr:r∈L) (hs:s∈L):(sm p fun u=>sm p fun w=>sm p fun x=>DE q L r s u w x)=prH q L (q.rc r) (q.rc s) (Jg (q.lo r) (q.lo s)) (Jm (q.hi r) (q.hi s)):=by
 have v1:=(q.val (hv r hr))
 have v2:=(q.val (hv s hs))
 obtain ⟨v1,_,l1,l2⟩:=v1;obtain ⟨v2,_,l3,l4⟩:=v2;simp only [Wh,Ac,Al] at v1 v2;have e:(sm p fun u=>sm p fun w=>sm p fun x=>DE q L r s u w x)=(sm p fun u=>sm p fun w=>sm p fun x=>if u=(q.rc r).c ∧w=(q.rc r).d then (if (q.rc r).c =(q.rc s).a ∧(q.rc r).d =(q.rc s).b then ind (Jg (q.lo r) (q.lo s)) (Jm (q.hi r) (q.hi s)) x*gO q L u w (w - 1) x else 0) else 0)+sm p fun u=>sm p fun w=>sm p fun x=>if u=(q.rc r).c ∧w=(q.rc r).b then (if (q.rc r).c =(q.rc s).a ∧(q.rc s).d =(q.rc r).b then ind (Jg (q.lo r) (q.lo s)) (Jm (q.hi r) (q.hi s)) x*gO q L u (w - 1) w x else 0) else 0:=by rw [←z6e];refine Zp fun u _=> ?_;rw [←z6e];refine Zp fun w _=> ?_;rw [←z6e];refine Zp fun x _=> ?_;unfold DE;rw [D_pt hv hr hs,E_pt hv hr hs]
 have b1: -1000000≤Jg (q.lo r) (q.lo s):=by rw [z3m];omega
 have b2:Jm (q.hi r) (q.hi s)≤1000000:=by rw [z3l];omega
 have m:=fun x y b=>j2z hp.pts q L x y (Jg (q.lo r) (q.lo s)) (Jm (q.hi r) (q.hi s)) b b1 b2;rw [e,pick2 hp _ (by omega) (by omega),pick2 hp _ (by omega) (by omega)];unfold prH;by_cases h1:(q.rc r).c =(q.rc s).a
 ·rw [show ((q.rc r).c != (q.rc s).a)=false by simp [h1],Aa];by_cases h2:(q.rc r).d =(q.rc s).b
  ·rw [show ((q.rc r).d != (q.rc s).b)=false by simp [h2],Aa,show ((q.rc r).d == (q.rc s).b)=true by simp [h2],m];have h3: ¬((q.rc r).c =(q.rc s).a ∧(q.rc s).d =(q.rc r).b):=by omega
   rw [Zp (g:=fun _=>0) (fun x _=>Ao h3),Wc,A5];exact Zp fun x _=>Au ⟨h1,h2⟩
  ·rw [show ((q.rc r).d != (q.rc s).b)=true by simpa using h2,Ab];have h4: ¬((q.rc r).c =(q.rc s).a ∧(q.rc r).d =(q.rc s).b):=fun k=>h2 k.2;rw [Zp (g:=fun _=>0) (fun x _=>Ao h4),Wc,BN];by_cases h3:(q.rc s).d =(q.rc r).b
   ·rw [show ((q.rc s).d != (q.rc r).b)=false by simp [h3],Aa,show ((q.rc r).d == (q.rc s).b)=false by simpa using h2,m];exact Zp fun x _=>Au ⟨h1,h3⟩
   ·rw [show ((q.rc s).d != (q.rc r).b)=true by simpa using h3,Ab,Zp (g:=fun _=>0) (fun x _=>Ao fun k=>h3 k.2),Wc]
 ·rw [show ((q.rc r).c != (q.rc s).a)=true by simpa using h1,Ab,Zp (g:=fun _=>0) (fun x _=>Ao fun k=>h1 k.1),Wc,Zp (g:=fun _=>0) (fun x _=>Ao fun k=>h1 k.1),Wc];rfl
def prR (q:Ax) (L:List R6) (r s:R6):Int:=prH q L (q.rc r) (q.rc s) (Jg (q.lo r) (q.lo s)) (Jm (q.hi r) (q.hi s))
theorem v4o {q:Ax} {L:List R6} {P Q:R4} {lo hi:Int} (h:P.c≠Q.a):prH q L P Q lo hi=0:=by unfold prH;rw [show (P.c != Q.a)=true by simpa using h];rfl
theorem j2n {q:Ax} {L:List R6} {r s:R6} (hr:Jf r=true) (hs:Jf s=true):prO q L r s=prR q L r s+prR q L s r:=by
 have v1:=(q.val hr).1;have v2:=(q.val hs).1;simp only [Wh,Ac,Al] at v1 v2;unfold prO prR;rw [show Jg (q.lo s) (q.lo r)=Jg (q.lo r) (q.lo s) by rw [z3m,z3m];omega,show Jm (q.hi s) (q.hi r)=Jm (q.hi r) (q.hi s) by rw [z3l,z3l];omega];by_cases h:(q.rc s).a <(q.rc r).a
 ·rw [Ah h,Ab,v4o (P:=q.rc r) (Q:=q.rc s) (by omega),BN]
 ·rw [Ay h,Aa,v4o (P:=q.rc s) (Q:=q.rc r) (by omega),A5]
theorem x4y {q:Ax} {L:List R6} (hv: ∀r∈L,Jf r=true): ∀k,k≤L.length→y3f q L k=sm (L.take k) fun r=>sm (L.take k) fun s=>prR q L r s
 | 0,_=>rfl
 | k+1,h=>by
  have hk:k<L.length:=by omega
  have er:rd L k∈L:=by rw [Xz hk];exact AS hk
  have e:L.take (k+1)=L.take k++[rd L k]:=by rw [Bg,As hk,Xz hk];rfl
  have self:prR q L (rd L k) (rd L k)=0:=v4o (by
   have v1:=(q.val (hv _ er)).1;simp only [Wh,Ac,Al] at v1;omega)
  show y3f q L k+j1l q L k=_;unfold j1l;rw [x4y hv k (by omega),w4h (show 0+k≤L.length by omega),A0,e,Uy,Xd,z1e,Uy,Xd,z1e,self,A5,A5];have e2:(sm (L.take k) fun r=>sm (L.take k++[rd L k]) fun s=>prR q L r s)=(sm (L.take k) fun r=>sm (L.take k) fun s=>prR q L r s)+sm (L.take k) fun r=>prR q L r (rd L k):=by rw [←z6e];exact Zp fun r _=>by rw [Uy,Xd,z1e,A5]
  have e3:sm (L.take k) (prO q L (rd L k))=(sm (L.take k) fun s=>prR q L (rd L k) s)+sm (L.take k) fun s=>prR q L s (rd L k):=by rw [←z6e];exact Zp fun s hs=>j2n (hv _ er) (hv _ (BZ hs))
  rw [e2,e3];omega
theorem x9j {p:List Int} (hp:PtS p) {L:List R6} (h:Sol L) (q:Ax):y3f q L L.length=PQ p q L:=by
 have hv: ∀r∈L,Jf r=true:=h.val;rw [x4y hv L.length (Aq _),List.take_length];unfold PQ;have e: ∀u w x,w8q q L u w x=sm L fun r=>sm L fun s=>DE q L r s u w x:=pin_DE h.ap q;have e1:(sm p fun u=>sm p fun w=>sm p fun x=>w8q q L u w x)=sm L fun r=>sm L fun s=>sm p fun u=>sm p fun w=>sm p fun x=>DE q L r s u w x:=by
  have a: ∀u w,(sm p fun x=>w8q q L u w x)=sm L fun r=>sm L fun s=>sm p fun x=>DE q L r s u w x:=fun u w=>by rw [Zp fun x _=>e u w x,Um p L];exact Zp fun r _=>Um p L _
  have b: ∀u,(sm p fun w=>sm p fun x=>w8q q L u w x)=sm L fun r=>sm L fun s=>sm p fun w=>sm p fun x=>DE q L r s u w x:=fun u=>by rw [Zp fun w _=>a u w,Um p L];exact Zp fun r _=>Um p L _
  rw [Zp fun u _=>b u,Um p L];exact Zp fun r _=>Um p L _
 rw [e1];exact Zp fun r hr=>Zp fun s hs=>(DE_sum hp hv hr hs).symm
end Go.Am
end
