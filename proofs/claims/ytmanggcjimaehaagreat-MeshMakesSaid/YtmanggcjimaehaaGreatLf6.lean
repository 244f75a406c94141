/- A part of a proof: several texts in one. -/
import Derived.Test.YtmanggcjimaehaaGreatLf5
set_option maxRecDepth 1000000
set_option maxHeartbeats 8000000
set_option linter.unusedVariables false
set_option linter.unusedSimpArgs false
noncomputable section
namespace Go.Am
open IntKind (wrap)
open Go.Proofs Go.Sort Go.Shelf Go.RowKit Go.Lib
theorem chg {L:List R2} (h:Can L) {y:Int} (hy:y∈z8v L) (hS:pt L (y - 1)↔pt L y):False:=by
 obtain ⟨s,hs,h1⟩:=AP.1 hy;have hp:=h.pos s hs;have sepL: ∀t∈L,t=s∨t.b<s.a∨s.b<t.a:=fun t ht=>by
  obtain ⟨i,hi,ei⟩:=A1 hs;obtain ⟨j,hj,ej⟩:=A1 ht;have pw:=Bo.1 h.sep;rcases By i j with q | q | q
  ·have:=pw i j hi hj q;rw [ei,ej] at this;exact .inr (.inr this)
  ·subst q;exact .inl (ej.symm.trans ei)
  ·have:=pw j i hj hi q;rw [ei,ej] at this;exact .inr (.inl this)
 simp only [AG,BD,Cq] at h1;rcases h1 with rfl | rfl
 ·obtain ⟨t,ht,t1,t2⟩:=hS.2 ⟨s,hs,AZ _,hp⟩;rcases sepL t ht with rfl | q | q <;> omega
 ·obtain ⟨t,ht,t1,t2⟩:=hS.1 ⟨s,hs,by omega,by omega⟩;rcases sepL t ht with rfl | q | q <;> omega
theorem z7z : ∀(l S:List Int),l.Pairwise (· ≠ ·)→(∀x∈l,x∈S)→l.length≤S.length
 | [],S,_,_=>AD _
 | x::l,S,h,hs=>by obtain ⟨h1,h2⟩:=AU.1 h;have hx:=hs x (by simp);have:=z7z l (S.erase x) h2 fun y hy=>(List.mem_erase_of_ne (fun e=>h1 y hy e.symm)).2 (hs y (by simp [hy]));rw [List.length_erase_of_mem hx] at this;have:=List.length_pos_of_mem hx;simp only [AV];omega
theorem u7q {a b:List R2} (ha:a.all z0u=true) (hb:b.all z0u=true):(spJ 2 a b).length +(spJ 2 b a).length ≤a.length+b.length:=by
 obtain ⟨c1,p1⟩:=y3z 2 ha hb;obtain ⟨c2,p2⟩:=y3z 2 hb ha;have q1: ∀y,pt (spJ 2 a b) y↔pt a y∧ ¬pt b y:=fun y=>by rw [show pt (spJ 2 a b) y↔_ from p1 y];unfold opB;simp
 have q2: ∀y,pt (spJ 2 b a) y↔pt b y∧ ¬pt a y:=fun y=>by rw [show pt (spJ 2 b a) y↔_ from p2 y];unfold opB;simp
 have f: ∀y:Int,∃z,(z=2*y∧ ¬(pt a (y - 1)↔pt a y))∨(z=2*y+1∧(pt a (y - 1)↔pt a y)):=fun y=>by
  by_cases h:pt a (y - 1)↔pt a y
  ·exact ⟨_,.inr ⟨rfl,h⟩⟩
  ·exact ⟨_,.inl ⟨rfl,h⟩⟩
 have g: ∀y:Int,∃z,(z=2*y+1∧ ¬(pt b (y - 1)↔pt b y))∨(z=2*y∧(pt b (y - 1)↔pt b y)):=fun y=>by
  by_cases h:pt b (y - 1)↔pt b y
  ·exact ⟨_,.inr ⟨rfl,h⟩⟩
  ·exact ⟨_,.inl ⟨rfl,h⟩⟩
 obtain ⟨f,hf⟩:=Classical.axiomOfChoice f;obtain ⟨g,hg⟩:=Classical.axiomOfChoice g;have key:=z7z ((z8v (spJ 2 a b)).map f++(z8v (spJ 2 b a)).map g) ((z8v a).map (2* ·)++(z8v b).map (2* · +1)) (by
  refine BI.2 ⟨List.pairwise_map.2 ((z8u c1).imp fun {x y} h=> ?_),List.pairwise_map.2 ((z8u c2).imp fun {x y} h=> ?_),?_⟩
  ·have:=hf x;have:=hf y;omega
  ·have:=hg x;have:=hg y;omega
  ·intro x hx z hz;obtain ⟨y,hy,rfl⟩:=AR.1 hx;obtain ⟨y',hy',rfl⟩:=AR.1 hz;intro e;have e1:y'=y:=by have:=hf y;have:=hg y';omega
   subst e1;have n1:=chg c1 hy;have n2:=chg c2 hy';rw [q1,q1] at n1;rw [q2,q2] at n2;rcases hf y' with ⟨e1,h1⟩ | ⟨e1,h1⟩ <;> rcases hg y' with ⟨e2,h2⟩ | ⟨e2,h2⟩
   ·omega
   ·by_cases h3:pt b y'
    ·exact n1 (by simp [h2,h3])
    ·exact n2 (by simp [h2,h3])
   ·by_cases h3:pt a y'
    ·exact n2 (by simp [h1,h3])
    ·exact n1 (by simp [h1,h3])
   ·omega) (by
  intro x hx;rcases AF.1 hx with hx | hx
  ·obtain ⟨y,hy,rfl⟩:=AR.1 hx;have n1:=chg c1 hy;rw [q1,q1] at n1;rcases hf y with ⟨e1,h1⟩ | ⟨e1,h1⟩
   ·refine AF.2 (.inl (AR.2 ⟨y,A0 fun hn=>h1 (z9m hn),e1.symm⟩))
   ·refine AF.2 (.inr (AR.2 ⟨y,A0 fun hn=>n1 (by rw [h1,z9m hn]),e1.symm⟩))
  ·obtain ⟨y,hy,rfl⟩:=AR.1 hx;have n1:=chg c2 hy;rw [q2,q2] at n1;rcases hg y with ⟨e1,h1⟩ | ⟨e1,h1⟩
   ·refine AF.2 (.inr (AR.2 ⟨y,A0 fun hn=>h1 (z9m hn),e1.symm⟩))
   ·refine AF.2 (.inl (AR.2 ⟨y,A0 fun hn=>n1 (by rw [h1,z9m hn]),e1.symm⟩)))
 simp only [Ay,AT,Qu] at key;omega
theorem y9p : ∀(l m:List Int),l.Pairwise (· < ·)→m.Pairwise (· < ·)→(∀x,x∈l↔x∈m)→l=m
 | [],[],_,_,_=>rfl
 | [],y::m,_,_,h=>by have:=(h y).2 (by simp);cases this
 | x::l,[],_,_,h=>by have:=(h x).1 (by simp);cases this
 | x::l,y::m,hl,hm,h=>by
  obtain ⟨l1,l2⟩:=AU.1 hl;obtain ⟨m1,m2⟩:=AU.1 hm;have e:x=y:=by
   have hx:=(h x).1 (by simp);have hy:=(h y).2 (by simp);rcases AG.1 hx with hx | hx
   ·exact hx
   ·rcases AG.1 hy with hy | hy
    ·exact hy.symm
    ·have:=l1 y hy;have:=m1 x hx;omega
  subst e
  congr 1
  refine y9p l m l2 m2 fun z=>⟨fun hz=> ?_,fun hz=> ?_⟩
  ·have:=l1 z hz;rcases AG.1 ((h z).1 (by simp [hz])) with q | q
   ·omega
   ·exact q
  ·have:=m1 z hz;rcases AG.1 ((h z).2 (by simp [hz])) with q | q
   ·omega
   ·exact q
namespace Dim
variable {α β:Type} {D:Dim α β}
theorem w3w (l:List α):(D.cuts l).Pairwise (· < ·):=by show (Jq (D.ends l)).Pairwise (· < ·);rw [Jd];exact (Wy _).1
theorem w3v (l:List α) (x:Int):x∈D.cuts l↔x∈D.ends l:=by show x∈Jq (D.ends l)↔_;rw [Jd];exact (Wy _).2 x
theorem w3u (l:List α) (x:Int):x∈D.ends l↔ ∃r∈l,x=D.lo r∨x=D.hi r:=by
 induction l with
 | nil=>exact ⟨fun h=>(by cases h),fun ⟨r,h,_⟩=>(by cases h)⟩
 | cons r l ih=>
  show x∈D.lo r::D.hi r::D.ends l↔_;rw [AG,AG,ih];constructor
  ·rintro (h | h | ⟨s,hs,h⟩)
   ·exact ⟨r,by simp,.inl h⟩
   ·exact ⟨r,by simp,.inr h⟩
   ·exact ⟨s,by simp [hs],h⟩
  ·rintro ⟨s,hs,h⟩;rcases AG.1 hs with rfl | hs
   ·rcases h with h | h
    ·exact .inl h
    ·exact .inr (.inl h)
   ·exact .inr (.inr ⟨s,hs,h⟩)
theorem cuts_comm (a b:List α):D.cuts (a++b)=D.cuts (b++a):=y9p _ _ (w3w _) (w3w _) fun x=>by
 rw [w3v,w3v,w3u,w3u];constructor <;> exact fun ⟨r,hr,h⟩=>⟨r,by rw [AF] at*;exact hr.symm,h⟩
end Dim
theorem v8k {a b:List R4} (ha: ∀r∈a,Vj r=true) (hb: ∀r∈b,Vj r=true):(rgJ 2 a b).length +(rgJ 2 b a).length ≤(a.length+b.length)*(a.length+b.length):=by
 have hv: ∀r∈a++b,D4.lo r<D4.hi r:=fun r hr=>by
  have hv:Vj r=true:=by
   rcases AF.1 hr with h | h
   ·exact ha r h
   ·exact hb r h
  simp only [Vj,Ac,At] at hv;exact hv.1
 have g1:=D4.goS_length (fun x=>spJ 2 (D4.inn a x) (D4.inn b x)) (D4.cuts (a++b)) ((D4.cuts (a++b)).length - 1) 0 ⟨[],[],0,0⟩;have g2:=D4.goS_length (fun x=>spJ 2 (D4.inn b x) (D4.inn a x)) (D4.cuts (a++b)) ((D4.cuts (a++b)).length - 1) 0 ⟨[],[],0,0⟩;have h2:=D4.open_sum (a++b) hv ((D4.cuts (a++b)).length - 1) (Nat.sub_le _ _);have e1:(rgJ 2 b a).length =(D4.goS (fun x=>spJ 2 (D4.inn b x) (D4.inn a x)) (D4.cuts (a++b)) ((D4.cuts (a++b)).length - 1) 0 ⟨[],[],0,0⟩).out.length :=by unfold rgJ;rw [Dim.cuts_comm b a]
 have e2:(rgJ 2 a b).length =(D4.goS (fun x=>spJ 2 (D4.inn a x) (D4.inn b x)) (D4.cuts (a++b)) ((D4.cuts (a++b)).length - 1) 0 ⟨[],[],0,0⟩).out.length :=rfl;rw [e1,e2];rw [Ay] at h2;refine AL (Nat.add_le_add g1 g2) (AL ?_ h2);simp only [Bp,Ah];generalize (D4.cuts (a++b)).length - 1=k
 induction k with
 | zero=>exact An _
 | succ k ih=>rw [BH,Be,Be,Be,B7,B7,B7];have:=u7q (Ja ha (rd (D4.cuts (a++b)) k)) (Ja hb (rd (D4.cuts (a++b)) k));simp only [AW,A5,BF,List.sum_nil];rw [D4.inn_append,Ay];omega
open Go.Proofs Go.Sort Go.Shelf Go.RowKit Go.Lib
def ind (a b t:Int):Int:=if a≤t∧t<b then 1 else 0
def w8o (lo:Int) (n:Nat):List Int:=(List.range n).map fun (k:Nat)=>lo+(k:Int)
theorem v3o (a b lo:Int): ∀n:Nat,sm (w8o lo n) (ind a b)=ovl a b lo (lo+n)
 | 0=>by show (0:Int)=_;unfold ovl;omega
 | n+1=>by unfold w8o;rw [BH,Be,Ks];have:=v3o a b lo n;unfold w8o at this;rw [this,AW,A5,We,z3h];unfold ind ovl;split <;> omega
theorem z1w (a b t:Int):0≤ind a b t:=by unfold ind;split <;> omega
theorem ind_le (a b t:Int):ind a b t≤1:=by unfold ind;split <;> omega
def Pts (p:List Int):Prop:=(∀a b,-1000005≤a∧b≤1000005→sm p (ind a b)=max 0 (b - a))∧p.length=2000010
def inR (r:R6) (x y z:Int):Int:=ind r.a r.d x*ind r.b r.e y*ind r.c r.f z
theorem y9d (r:R6) (x y z:Int):0≤inR r x y z:=Int.mul_nonneg (Int.mul_nonneg (z1w ..) (z1w ..)) (z1w ..)
theorem w3k (r:R6) (x y z:Int):inR r x y z=if (r.a≤x∧x<r.d)∧(r.b≤y∧y<r.e)∧(r.c≤z∧z<r.f) then 1 else 0:=by unfold inR ind;by_cases h1:r.a≤x∧x<r.d <;> by_cases h2:r.b≤y∧y<r.e <;> by_cases h3:r.c≤z∧z<r.f <;> simp [h1,h2,h3]
def cnt (X:List R6) (x y z:Int):Int:=sm X fun r=>inR r x y z
theorem w7x (X:List R6) (x y z:Int):0≤cnt X x y z:=y4a fun r _=>y9d r x y z
theorem u6z : ∀(X:List R6),X.Pairwise Ap6→ ∀x y z,cnt X x y z≤1
 | [],_,x,y,z=>by show (0:Int)≤1;omega
 | r::X,h,x,y,z=>by
  obtain ⟨h1,h2⟩:=AU.1 h;have ih:=u6z X h2 x y z;have e:cnt (r::X) x y z=inR r x y z+cnt X x y z:=We _ _ _;rw [e,w3k];split
  ·rename_i hp;have:cnt X x y z=0:=by
    have:cnt X x y z=sm X fun _=>0:=Yv fun s hs=>by rw [w3k];refine As fun hq=> ?_;have:=h1 s hs;unfold Ap6 at this;omega
    rw [this,Vw]
   omega
  ·omega
theorem sm_pos {α:Type} {l:List α} {f:α→Int} (h:sm l f≠0): ∃x∈l,f x≠0:=A0 fun hn=>h (by
 have:sm l f=sm l fun _=>0:=Yv fun x hx=>A0 fun e=>hn ⟨x,hx,e⟩;rw [this,Vw])
theorem x8i {p:List Int} (hp:Pts p) {t:Int} (h: -1000005≤t∧t<1000005):t∈p:=by
 have h1:=hp.1 t (t+1) (by omega);have h2:sm p (ind t (t+1))≠0:=by rw [h1];omega
 obtain ⟨x,hx,hn⟩:=sm_pos h2;unfold ind at hn;split at hn
 ·have:x=t:=by omega
  rwa [←this]
 ·exact absurd rfl hn
def inS (X:List R6) (x y z:Int):Prop:= ∃r∈X,(r.a≤x∧x<r.d)∧(r.b≤y∧y<r.e)∧(r.c≤z∧z<r.f)
theorem cnt_eq (X:List R6) (hX:X.Pairwise Ap6) (x y z:Int):(inS X x y z→cnt X x y z=1)∧(¬inS X x y z→cnt X x y z=0):=by
 have h0:=w7x X x y z;have h1:=u6z X hX x y z;constructor
 ·rintro ⟨r,hr,hp⟩;have:cnt X x y z≠0:=fun e=>by have:=w4w (fun r _=>y9d r x y z) e r hr;rw [w3k,Az hp] at this;cases this
  omega
 ·intro hn;have:cnt X x y z=sm X fun _=>0:=Yv fun r hr=>by rw [w3k];exact As fun hp=>hn ⟨r,hr,hp⟩
  rw [this,Vw]
structure Sol (X:List R6):Prop where
 len:X.length≤400
 val: ∀r∈X,z0a r=true
 ap:X.Pairwise Ap6
theorem Sol.of {X:List R6} (h:Wx X=0):Sol X:=⟨(Ky h).1,(Ky h).2.1,(Ky h).2.2.2⟩
theorem Sol.bnd {X:List R6} (h:Sol X) {x y z:Int} (hp:inS X x y z):(-1000000≤x∧x<1000000)∧(-1000000≤y∧y<1000000)∧(-1000000≤z∧z<1000000):=by obtain ⟨r,hr,h1,h2,h3⟩:=hp;have:=y3n (h.val r hr);omega
theorem Sol.pts {p:List Int} (hp:Pts p) {X:List R6} (h:Sol X) {x y z:Int} (hq:inS X x y z):x∈p∧y∈p∧z∈p:=by have:=h.bnd hq;exact ⟨x8i hp (by omega),x8i hp (by omega),x8i hp (by omega)⟩
namespace Dim
variable {α β:Type} {D:Dim α β}
theorem j1g (hD:D.Fair) (s:List β) (a b x:Int):D.inn (s.map (D.put a b)) x=if a≤x∧x<b then s else []:=by
 unfold inn;have e:(s.map (D.put a b)).filter (fun r=>decide (D.lo r≤x)&&decide (x<D.hi r))=if a≤x∧x<b then s.map (D.put a b) else []:=by
  split
  ·rename_i h;refine List.filter_eq_self.2 fun r hr=> ?_;obtain ⟨c,_,rfl⟩:=AR.1 hr;rw [hD.lo_put,hD.hi_put,Ag h.1,Ag h.2];rfl
  ·rename_i h;refine List.filter_eq_nil_iff.2 fun r hr hq=>h ?_;obtain ⟨c,_,rfl⟩:=AR.1 hr;rw [hD.lo_put,hD.hi_put,Ac] at hq;exact ⟨AA hq.1,AA hq.2⟩
 rw [e];split
 ·rw [List.map_map];exact (B2 fun c _=>hD.pr_put a b c).trans (List.map_id _)
 ·rfl
theorem inn_can (hD:D.Fair) {γ:Type} (M:Sem β γ) (x:Int): ∀G:List (z1k β),z3p M G→M.can (D.inn (D.flat G) x)
 | [],_=>M.nil
 | g::r,h=>by
  rw [show D.flat (g::r)=g.s.map (D.put g.a g.b)++D.flat r from rfl,D.inn_append,j1g hD];split
  ·rename_i hx;have e:D.inn (D.flat r) x=[]:=by unfold inn;rw [List.map_eq_nil_iff,List.filter_eq_nil_iff];intro a ha hq;obtain ⟨k,hk,ha⟩:=AP.1 ha;obtain ⟨c,_,rfl⟩:=AR.1 ha;rw [hD.lo_put,Ac] at hq;have h1:=AA hq.1;have:=h.later k hk;omega
   rw [e,AB];exact h.head.2.1
  ·rw [Bg];exact inn_can hD M x r h.tail
end Dim
open Go.Proofs Go.Sort Go.Shelf Go.RowKit Go.Lib
def Ax.inB (q:Ax) (r:R6) (p u v:Int):Prop:=(q.lo r≤p∧p<q.hi r)∧((q.rc r).a ≤u∧u<(q.rc r).c)∧((q.rc r).b ≤v∧v<(q.rc r).d)
def Ax.inL (q:Ax) (L:List R6) (p u v:Int):Prop:= ∃r∈L,q.inB r p u v
def Ax.to (q:Ax) (p u v:Int):Int×Int×Int:=match q with
 | .x =>(p,u,v)
 | .y =>(u,p,v)
 | .z =>(u,v,p)
theorem Ax.inL_S (q:Ax) (L:List R6) (p u v:Int):q.inL L p u v↔inS L (q.to p u v).1 (q.to p u v).2.1 (q.to p u v).2.2:=by
 cases q <;> constructor <;> rintro ⟨r,hr,h1,h2,h3⟩
 ·exact ⟨r,hr,h1,h2,h3⟩
 ·exact ⟨r,hr,h1,h2,h3⟩
 ·exact ⟨r,hr,h2,h1,h3⟩
 ·exact ⟨r,hr,h2,h1,h3⟩
 ·exact ⟨r,hr,h2,h3,h1⟩
 ·exact ⟨r,hr,h3,h1,h2⟩
theorem j0b (l:List R4) (u v:Int):ptL Qd.inB l (u,v)↔ ∃r∈l,(r.a≤u∧u<r.c)∧(r.b≤v∧v<r.d):=by
 constructor
 ·rintro ⟨r,hr,h1,h2,h3,h4⟩;exact ⟨r,hr,⟨h1,h2⟩,h3,h4⟩
 ·rintro ⟨r,hr,⟨h1,h2⟩,h3,h4⟩;exact ⟨r,hr,h1,h2,h3,h4⟩
theorem x5c (q:Ax) (L:List R6) (p u v:Int):ptL Qd.inB (z1l q L p) (u,v)↔q.inL L p u v:=by
 rw [j0b];constructor
 ·rintro ⟨s,hs,h⟩;obtain ⟨r,hr,rfl⟩:=AR.1 hs;obtain ⟨h1,h2⟩:=A3.1 hr;simp only [Ac,At] at h2;exact ⟨r,h1,h2,h⟩
 ·rintro ⟨r,hr,h1,h2⟩;exact ⟨q.rc r,AR.2 ⟨r,A3.2 ⟨hr,by simp only [Ac,At];exact h1⟩,rfl⟩,h2⟩
theorem Ax.val (q:Ax) {r:R6} (h:z0a r=true):Vj (q.rc r)=true∧q.lo r<q.hi r∧ -1000000≤q.lo r∧q.hi r≤1000000:=by
 have:=y3n h;cases q
 ·refine ⟨?_,by show r.a<r.d;omega,by show _≤r.a;omega,by show r.d≤_;omega⟩;show Vj ⟨r.b,r.c,r.e,r.f⟩=true;simp only [Vj,Ac,At]
  (repeat' apply And.intro) <;> omega
 ·refine ⟨?_,by show r.b<r.e;omega,by show _≤r.b;omega,by show r.e≤_;omega⟩;show Vj ⟨r.a,r.c,r.d,r.f⟩=true;simp only [Vj,Ac,At]
  (repeat' apply And.intro) <;> omega
 ·refine ⟨?_,by show r.c<r.f;omega,by show _≤r.c;omega,by show r.f≤_;omega⟩;show Vj ⟨r.a,r.b,r.d,r.e⟩=true;simp only [Vj,Ac,At]
  (repeat' apply And.intro) <;> omega
theorem v4r (q:Ax) {L:List R6} (hv: ∀r∈L,z0a r=true) (p:Int): ∀s∈z1l q L p,Vj s=true:=fun s hs=>by obtain ⟨r,hr,rfl⟩:=AR.1 hs;exact (q.val (hv r (A3.1 hr).1)).1
theorem x1v (q:Ax) (L:List R6) (p:Int):(z1l q L p).length ≤L.length:=by unfold z1l;rw [AT];exact BO _ _
theorem u1m {l:List R4} (hc:Qd.can l) (hb: ∀u v,ptL Qd.inB l (u,v)→(-1000000≤u∧u<1000000)∧(-1000000≤v∧v<1000000)): ∀r∈l,Vj r=true:=fun r hr=>by
 have hp:r.a<r.c∧r.b<r.d:=by obtain ⟨G,hG,e⟩:=hc;rw [e] at hr;obtain ⟨g,hg,hr⟩:=AP.1 hr;obtain ⟨b,hb,rfl⟩:=AR.1 hr;obtain ⟨h1,h2,_⟩:=hG.all g hg;exact ⟨h1,Can.pos h2 b hb⟩
 have h1:=hb r.a r.b ((j0b _ _ _).2 ⟨r,hr,by omega,by omega⟩);have h2:=hb (r.c - 1) (r.d - 1) ((j0b _ _ _).2 ⟨r,hr,by omega,by omega⟩);simp only [Vj,Ac,At];omega
theorem v6e {l:List R4} (hv: ∀r∈l,Vj r=true) {u v:Int} (h:ptL Qd.inB l (u,v)):(-1000000≤u∧u<1000000)∧(-1000000≤v∧v<1000000):=by obtain ⟨r,hr,h1,h2⟩:=(j0b _ _ _).1 h;have:=hv r hr;simp only [Vj,Ac,At] at this;omega
structure Few (c l:List R4) (n:Nat):Prop where
 can:Qd.can l
 pts: ∀u v,ptL Qd.inB l (u,v)↔ptL Qd.inB c (u,v)
 val: ∀r∈l,Vj r=true
 len:l.length≤n*n
 sec: ∀x,(D4.inn l x).length ≤n
theorem v1x {l:List R4} (hv: ∀r∈l,Vj r=true) (hl:l.length≤400):(D4.out l).length ≤l.length*l.length:=by
 have h:=y4g 0 hv (fun r (h:r∈([]:List R4))=>by cases h);have e:rgJ 0 l []=D4.out l:=Qd.uniq _ _ h.1 (y4c hv hl).1 fun p=>by rw [h.2.1,(y4c hv hl).2];have: ¬ptL Qd.inB ([]:List R4) p:=x0r _ _;by_cases hp:ptL Qd.inB l p <;> simp [opB,hp,this]
 have:=h.2.2;rw [e] at this;exact this
theorem w3i {l:List R4} (hc:Qd.can l) (x:Int):x2o.can (D4.inn l x):=by obtain ⟨G,hG,e⟩:=hc;rw [e];exact Dim.inn_can y6n x2o x G hG
theorem j1s {c:List R4} (hv: ∀r∈c,Vj r=true) (hl:c.length≤20):Few c (D4.out c) c.length:=by
 obtain ⟨h1,h2⟩:=y4c hv (by omega);refine ⟨h1,fun u v=>h2 (u,v),u1m h1 fun u v h=>v6e hv ((h2 _).1 h),v1x hv (by omega),fun x=> ?_⟩;have h3:=z4n 0 (a:=D4.inn c x) (b:=[]) (Ja hv x) rfl;have h4:=y3z 0 (a:=D4.inn c x) (b:=[]) (Ja hv x) rfl;have e:spJ 0 (D4.inn c x) []=D4.inn (D4.out c) x:=x2o.uniq _ _ h4.1 (w3i h1 x) fun y=>by
  rw [h4.2];have a1:=x0s c x y;have a2:=x0s (D4.out c) x y;have: ¬pt [] y:=fun ⟨_,h,_⟩=>by cases h
  show _↔pt (D4.inn (D4.out c) x) y;rw [a2,h2,←a1];by_cases hp:pt (D4.inn c x) y <;> simp [opB,hp,this]
 rw [←e];have:=D4.inn_length c x;simp only [Bp] at h3;omega
theorem j1r {c:List R4} (hv: ∀r∈c,Vj r=true) (hl:c.length≤20):Zd c=D4.out c∧Wo c=0:=by refine v8a hv (by omega) (AL (v1x hv (by omega)) ?_);exact AL (BX hl hl) (by decide)
theorem w2c {l:List R4} (hl:l.length≤400) (hv: ∀r∈l,Vj r=true) (hc:Qd.can l):y6o l=0:=by
 obtain ⟨h1,h2⟩:=y4c hv hl;have e:D4.out l=l:=Qd.uniq _ _ h1 hc h2;have m1:z1a l=0:=by show x5d (D4.out l).length =0;rw [e];unfold x5d;rw [Au (by omega)];rfl
 have m0:Wv l=l:=by unfold Wv x4x;rw [show u6o l=0 from m1,e];rfl
 unfold y6o rgcF;rw [Au (by omega),Aw.2 hv,m1,m0,show Us l l=true from Ag rfl];rfl
theorem v4a {E:Int→Int} {cs:List Int} (h: ∀x,E x=0): ∀k i,w8r E cs k i=0
 | 0,i=>rfl
 | k+1,i=>by show (bif E (rd cs i) != 0 then E (rd cs i) else w8r E cs k (i+1))=0;rw [h];exact v4a h k (i+1)
theorem v1d (o:Op) {a b:List R4} (la:a.length≤400) (lb:b.length≤400) (va: ∀r∈a,Vj r=true) (vb: ∀r∈b,Vj r=true) (ca:Qd.can a) (cb:Qd.can b)
  (sa: ∀x,(D4.inn a x).length +(D4.inn b x).length ≤400) (lj:(rgJ o.k a b).length ≤400):rgE o a b=0:=by
 have sc: ∀(l:List R4) (x:Int),l.length≤400→(∀r∈l,Vj r=true)→Qd.can l→y7v (D4.inn l x)=0:=fun l x hl hv hc=>
  (x0f _).2 ⟨AL (D4.inn_length l x) hl,Ja hv x,w3i hc x⟩
 have hz: ∀x,rgA o a b x=0:=fun x=>by unfold rgA spE;rw [sc a x la va ca,sc b x lb vb cb];have:=z4n o.k (Ja va x) (Ja vb x);show x5d _=0;unfold x5d;rw [Au (by have:=sa x;omega)];rfl
 unfold rgE;rw [w2c la va ca,w2c lb vb cb,v4a hz];show x5d _=0;unfold x5d;rw [Au (by omega)];rfl
def hiL (q:Ax) (L:List R6) (p:Int):List R4:=(L.filter fun r=>decide (q.hi r=p)).map q.rc
def loL (q:Ax) (L:List R6) (p:Int):List R4:=(L.filter fun r=>decide (q.lo r=p)).map q.rc
theorem y3o (q:Ax) {L:List R6} (hv: ∀r∈L,q.lo r<q.hi r) (p:Int):(hiL q L p).length +(loL q L p).length ≤L.length:=by
 unfold hiL loL;rw [AT,AT]
 induction L with
 | nil=>exact An _
 | cons r L ih=>
  have ih:=ih fun s hs=>hv s (by simp [hs]);have:=hv r (by simp);rw [Bs,Bs];by_cases h1:q.hi r=p
  ·rw [Az (by simp [h1]),As (by simp;omega)];simp only [AV];omega
  ·rw [As (by simp [h1])];by_cases h2:q.lo r=p
   ·rw [Az (by simp [h2])];simp only [AV];omega
   ·rw [As (by simp [h2])];simp only [AV];omega
theorem hi_pt (q:Ax) (L:List R6) (p u v:Int):ptL Qd.inB (hiL q L p) (u,v)↔ ∃r∈L,q.hi r=p∧((q.rc r).a ≤u∧u<(q.rc r).c)∧((q.rc r).b ≤v∧v<(q.rc r).d):=by
 rw [j0b];constructor
 ·rintro ⟨s,hs,h⟩;obtain ⟨r,hr,rfl⟩:=AR.1 hs;obtain ⟨h1,h2⟩:=A3.1 hr;exact ⟨r,h1,AA h2,h⟩
 ·rintro ⟨r,hr,h1,h2⟩;exact ⟨q.rc r,AR.2 ⟨r,A3.2 ⟨hr,Ag h1⟩,rfl⟩,h2⟩
theorem lo_pt (q:Ax) (L:List R6) (p u v:Int):ptL Qd.inB (loL q L p) (u,v)↔ ∃r∈L,q.lo r=p∧((q.rc r).a ≤u∧u<(q.rc r).c)∧((q.rc r).b ≤v∧v<(q.rc r).d):=by
 rw [j0b];constructor
 ·rintro ⟨s,hs,h⟩;obtain ⟨r,hr,rfl⟩:=AR.1 hs;obtain ⟨h1,h2⟩:=A3.1 hr;exact ⟨r,h1,AA h2,h⟩
 ·rintro ⟨r,hr,h1,h2⟩;exact ⟨q.rc r,AR.2 ⟨r,A3.2 ⟨hr,Ag h1⟩,rfl⟩,h2⟩
theorem Ap6.not (q:Ax) {r s:R6} (h:Ap6 r s) {p u v:Int} (h1:q.inB r p u v) (h2:q.inB s p u v):False:=by obtain ⟨a1,a2,a3⟩:=h1;obtain ⟨b1,b2,b3⟩:=h2;unfold Ap6 at h;cases q <;> simp only [Ax.lo,Ax.hi,Ax.rc] at* <;> omega
theorem u5f {L:List R6} (hL:L.Pairwise Ap6) (q:Ax) {r s:R6} (hr:r∈L) (hs:s∈L) {p u v:Int} (h1:q.inB r p u v) (h2:q.inB s p u v):r=s:=by
 obtain ⟨i,hi,ei⟩:=A1 hr;obtain ⟨j,hj,ej⟩:=A1 hs;have pw:=Bo.1 hL;rcases By i j with h | h | h
 ·have:=pw i j hi hj h;rw [ei,ej] at this;exact (this.not q h1 h2).elim
 ·subst h;exact ei.symm.trans ej
 ·have:=pw j i hj hi h;rw [ei,ej] at this;exact (this.not q h2 h1).elim
theorem v6f (q:Ax) {L:List R6} (hL:L.Pairwise Ap6) (hv: ∀r∈L,q.lo r<q.hi r) (p u v:Int):
  (q.inL L (p - 1) u v∧ ¬q.inL L p u v)↔(ptL Qd.inB (hiL q L p) (u,v)∧ ¬ptL Qd.inB (loL q L p) (u,v)):=by
 rw [hi_pt,lo_pt];constructor
 ·rintro ⟨⟨r,hr,h1,h2⟩,h3⟩;refine ⟨⟨r,hr,?_,h2⟩,fun ⟨s,hs,k1,k2⟩=>h3 ⟨s,hs,⟨by omega,by have:=hv s hs;omega⟩,k2⟩⟩;refine A0 fun hn=>h3 ⟨r,hr,⟨by omega,by omega⟩,h2⟩
 ·rintro ⟨⟨r,hr,h1,h2⟩,h3⟩;have hlt:=hv r hr;have hb:q.inB r (p - 1) u v:=⟨⟨by omega,by omega⟩,h2⟩
  refine ⟨⟨r,hr,hb⟩,fun ⟨s,hs,k1,k2⟩=> ?_⟩;by_cases e:q.lo s=p
  ·exact h3 ⟨s,hs,e,k2⟩
  ·have:=u5f hL q hr hs hb ⟨⟨by omega,by omega⟩,k2⟩;subst this;omega
theorem w7r (q:Ax) {L:List R6} (hL:L.Pairwise Ap6) (hv: ∀r∈L,q.lo r<q.hi r) (p u v:Int):
  (q.inL L p u v∧ ¬q.inL L (p - 1) u v)↔(ptL Qd.inB (loL q L p) (u,v)∧ ¬ptL Qd.inB (hiL q L p) (u,v)):=by
 rw [hi_pt,lo_pt];constructor
 ·rintro ⟨⟨r,hr,h1,h2⟩,h3⟩;refine ⟨⟨r,hr,?_,h2⟩,fun ⟨s,hs,k1,k2⟩=>h3 ⟨s,hs,⟨by have:=hv s hs;omega,by omega⟩,k2⟩⟩;refine A0 fun hn=>h3 ⟨r,hr,⟨by omega,by omega⟩,h2⟩
 ·rintro ⟨⟨r,hr,h1,h2⟩,h3⟩;have hlt:=hv r hr;have hb:q.inB r p u v:=⟨⟨by omega,by omega⟩,h2⟩
  refine ⟨⟨r,hr,hb⟩,fun ⟨s,hs,k1,k2⟩=> ?_⟩;by_cases e:q.hi s=p
  ·exact h3 ⟨s,hs,e,k2⟩
  ·have:=u5f hL q hr hs hb ⟨⟨by omega,by omega⟩,k2⟩;subst this;omega
def upF (q:Ax) (L:List R6) (p:Int):List R4:=rgJ 2 (D4.out (z1l q L (p - 1))) (D4.out (z1l q L p))
def dnF (q:Ax) (L:List R6) (p:Int):List R4:=rgJ 2 (D4.out (z1l q L p)) (D4.out (z1l q L (p - 1)))
section
variable (q:Ax) {L:List R6} (hv: ∀r∈L,z0a r=true) (hl:L.length≤20) (hL:L.Pairwise Ap6)
include hv hl
theorem fw (p:Int):Few (z1l q L p) (D4.out (z1l q L p)) (z1l q L p).length :=j1s (v4r q hv p) (AL (x1v q L p) hl)
theorem w9b (p:Int):Qd.can (upF q L p)∧ ∀u v,ptL Qd.inB (upF q L p) (u,v)↔(q.inL L (p - 1) u v∧ ¬q.inL L p u v):=by have f1:=fw q hv hl (p - 1);have f2:=fw q hv hl p;obtain ⟨h1,h2,_⟩:=y4g 2 f1.val f2.val;refine ⟨h1,fun u v=> ?_⟩;rw [show ptL Qd.inB (upF q L p) (u,v)↔_ from h2 (u,v),←x5c,←x5c,←f1.pts,←f2.pts];simp [opB]
theorem v4m (p:Int):Qd.can (dnF q L p)∧ ∀u v,ptL Qd.inB (dnF q L p) (u,v)↔(q.inL L p u v∧ ¬q.inL L (p - 1) u v):=by have f1:=fw q hv hl (p - 1);have f2:=fw q hv hl p;obtain ⟨h1,h2,_⟩:=y4g 2 f2.val f1.val;refine ⟨h1,fun u v=> ?_⟩;rw [show ptL Qd.inB (dnF q L p) (u,v)↔_ from h2 (u,v),←x5c,←x5c,←f1.pts,←f2.pts];simp [opB]
include hL
theorem y9x (p:Int):(upF q L p).length +(dnF q L p).length ≤((hiL q L p).length +(loL q L p).length)*((hiL q L p).length +(loL q L p).length):=by
 have hr: ∀r∈L,q.lo r<q.hi r:=fun r h=>(q.val (hv r h)).2.1;have va: ∀s∈hiL q L p,Vj s=true:=fun s hs=>by obtain ⟨r,hr,rfl⟩:=AR.1 hs;exact (q.val (hv r (A3.1 hr).1)).1
 have vb: ∀s∈loL q L p,Vj s=true:=fun s hs=>by obtain ⟨r,hr,rfl⟩:=AR.1 hs;exact (q.val (hv r (A3.1 hr).1)).1
 obtain ⟨a1,a2,_⟩:=y4g 2 va vb;obtain ⟨b1,b2,_⟩:=y4g 2 vb va;obtain ⟨u1,u2⟩:=w9b q hv hl p;obtain ⟨d1,d2⟩:=v4m q hv hl p;have e1:upF q L p=rgJ 2 (hiL q L p) (loL q L p):=Qd.uniq _ _ u1 a1 fun ⟨u,v⟩=>by rw [u2,v6f q hL hr,a2];simp [opB]
 have e2:dnF q L p=rgJ 2 (loL q L p) (hiL q L p):=Qd.uniq _ _ d1 b1 fun ⟨u,v⟩=>by rw [d2,w7r q hL hr,b2];simp [opB]
 rw [e1,e2];exact v8k va vb
theorem y9g (p:Int):Wo (z1l q L p)=0∧Zd (z1l q L p)=D4.out (z1l q L p)∧rgE .d (D4.out (z1l q L (p - 1))) (D4.out (z1l q L p))=0∧rgE .d (D4.out (z1l q L p)) (D4.out (z1l q L (p - 1)))=0:=by
 have hr: ∀r∈L,q.lo r<q.hi r:=fun r h=>(q.val (hv r h)).2.1;have f1:=fw q hv hl (p - 1);have f2:=fw q hv hl p;have l1:=x1v q L (p - 1);have l2:=x1v q L p;have t:=y3o q hr p;have hud:=y9x q hv hl hL p;have h4:((hiL q L p).length +(loL q L p).length)*((hiL q L p).length +(loL q L p).length)≤400:=AL (BX (AL t hl) (AL t hl)) (by decide);obtain ⟨m0,m1⟩:=j1r (v4r q hv p) (AL l2 hl);have n1:=AL f1.len (AL (BX (AL l1 hl) (AL l1 hl)) (show 20*20≤400 by decide));have n2:=AL f2.len (AL (BX (AL l2 hl) (AL l2 hl)) (show 20*20≤400 by decide));refine ⟨m1,m0,v1d .d n1 n2 f1.val f2.val f1.can f2.can (fun x=> ?_) ?_,v1d .d n2 n1 f2.val f1.val f2.can f1.can (fun x=> ?_) ?_⟩
 ·have:=f1.sec x;have:=f2.sec x;omega
 ·show (upF q L p).length ≤400;omega
 ·have:=f1.sec x;have:=f2.sec x;omega
 ·show (dnF q L p).length ≤400;omega
end
open Go.Proofs.Tryz
def prH (q:Ax) (L:List R6) (P Q:R4) (lo hi:Int):Int:=bif P.c != Q.a then 0 else bif P.d != Q.b then (bif Q.d != P.b then 0 else v2r q L P.c P.b lo hi (P.d == Q.b)) else v2r q L P.c P.d lo hi (P.d == Q.b)
def prO (q:Ax) (L:List R6) (r s:R6):Int:=bif decide ((q.rc s).a <(q.rc r).a) then prH q L (q.rc s) (q.rc r) (z1j (q.lo r) (q.lo s)) (z1i (q.hi r) (q.hi s)) else prH q L (q.rc r) (q.rc s) (z1j (q.lo r) (q.lo s)) (z1i (q.hi r) (q.hi s))
def rowP (q:Ax) (L:List R6) (i:Nat):Int:=sm (Jx L 0 i) (prO q L (rd L i))
def x2r (q:Ax) (L:List R6):Nat→Int
 | 0=>0
 | k+1=>x2r q L k+rowP q L k
theorem u5c (q:Ax) (r:R6):q.u r.a r.b=(q.rc r).a :=by cases q <;> rfl
theorem u5a (q:Ax) (r:R6):q.w r.b r.c=(q.rc r).b :=by cases q <;> rfl
theorem u5b (q:Ax) (r:R6):q.u r.d r.e=(q.rc r).c :=by cases q <;> rfl
theorem u4z (q:Ax) (r:R6):q.w r.e r.f=(q.rc r).d :=by cases q <;> rfl
theorem x3s (q:Ax) (r:R6):q.l r.a r.b r.c=q.lo r:=by cases q <;> rfl
theorem x3t (q:Ax) (r:R6):q.l r.d r.e r.f=q.hi r:=by cases q <;> rfl
section
variable (L:List R6) (hl:L.length≤400) (hv: ∀r∈L,z0a r=true)
include hl hv
theorem u5x (q:Ax) {r s:R6} (hr:r∈L) (hs:s∈L) (lo hi:Int) (b:Bool):Qz q L (q.rc r).c (q.rc s).b lo hi b=true∧Qz q L (q.rc r).c (q.rc s).d lo hi b=true:=by have h1:=(q.val (hv r hr)).1;have h2:=(q.val (hv s hs)).1;simp only [Vj,Ac,At] at h1 h2;exact ⟨Ag (by omega),Ag (by omega)⟩
theorem u5z (q:Ax) (i:Nat) (hi:i<L.length): ∀(k j:Nat) (S:Int),j+k=i→
  ∃n,∀N,Zs (Wm L) (N+n) (.to (.h1 q (wrap .i64 S) (i:Int) (Jx L 0 i) (i:Int) (j:Int) (rd L i).a (rd L i).b (rd L i).c (rd L i).d (rd L i).e (rd L i).f))=Zs (Wm L) N (.to (.h0 q (wrap .i64 (S+sm ((Jx L 0 i).drop j) (prO q L (rd L i)))) ((i+1:Nat):Int)))
 | 0,j,S,h=>by
  refine ⟨1,fun N=> ?_⟩;have e:(Jx L 0 i).length =i:=Kt ..;have g:decide ((j:Int)<(i:Int))=false:=Au (by omega);have w3:wrap .i64 ((i:Int)+1)=((i+1:Nat):Int):=by rw [Zk (by omega)];rfl
  rw [Ar (by omega),Zv,z3h,A6];simp only [Wm,g,w3,Aa]
 | k+1,j,S,h=>by
  have e:(Jx L 0 i).length =i:=Kt ..;obtain ⟨n,hn⟩:=u5z q i hi k (j+1) (S+prO q L (rd L i) (rd (Jx L 0 i) j)) (by omega);refine ⟨n+1,fun N=> ?_⟩;have hn:=hn N;rw [Yx (show j<(Jx L 0 i).length by omega),We,←Cv,←hn,←AC,Zv]
  congr 1
  have hj:rd (Jx L 0 i) j∈L:=by
   have e2:Jx L 0 i=L.take i:=by rw [w2j (show 0+i≤L.length by omega),AX]
   rw [Yo (show j<(Jx L 0 i).length by omega)];have hm: ∀M:List R6,M=L.take i→ ∀(h:j<M.length),M[j]∈L:=fun M hM h=>by subst hM;exact BY (AN h)
   exact hm _ e2 _
  have hr:rd L i∈L:=by rw [Yo hi];exact AN hi
  have g1:decide ((j:Int)<(i:Int))=true:=Ag (by omega);have g2:decide (0≤(j:Int)∧(j:Int)<(((Jx L 0 i).length :Nat):Int))=true:=Ag (by omega);have w3:wrap .i64 ((j:Int)+1)=((j+1:Nat):Int):=by rw [Zk (by omega)];rfl
  have wp: ∀y,wrap .i64 (wrap .i64 S+y)=wrap .i64 (S+y):=fun y=>Cg.eq ((Cg.wrap S).add (Cg.refl y));have o1:=fun lo hi b=>u5x L hl hv q hr hr lo hi b;have o2:=fun lo hi b=>u5x L hl hv q hj hj lo hi b;generalize hsd:rd (Jx L 0 i) j=s at*;unfold prO prH;rcases Ym (decide ((q.rc s).a <(q.rc (rd L i)).a)) with q1 | q1
  ·rcases Ym ((q.rc s).c != (q.rc (rd L i)).a) with q2 | q2
   ·simp only [Wm,Zm,u5c,u5a,u5b,u4z,x3s,x3t,g1,g2,w3,Zj,hsd,q1,q2,Ai,Ab,Aa,A6]
   rcases Ym ((q.rc s).d != (q.rc (rd L i)).b) with q3 | q3
   ·rcases Ym ((q.rc (rd L i)).d != (q.rc s).b) with q4 | q4
    ·simp only [Wm,Zm,u5c,u5a,u5b,u4z,x3s,x3t,g1,g2,w3,Zj,hsd,q1,q2,q3,q4,Ai,Ab,Aa,A6]
    ·simp only [Wm,Zm,u5c,u5a,u5b,u4z,x3s,x3t,g1,g2,w3,Zj,hsd,q1,q2,q3,q4,wp,o2,Ai,Ab,Aa]
   ·simp only [Wm,Zm,u5c,u5a,u5b,u4z,x3s,x3t,g1,g2,w3,Zj,hsd,q1,q2,q3,wp,o2,Ai,Ab,Aa]
  ·rcases Ym ((q.rc (rd L i)).c != (q.rc s).a) with q2 | q2
   ·simp only [Wm,Zm,u5c,u5a,u5b,u4z,x3s,x3t,g1,g2,w3,Zj,hsd,q1,q2,Ai,Ab,Aa,A6]
   rcases Ym ((q.rc (rd L i)).d != (q.rc s).b) with q3 | q3
   ·rcases Ym ((q.rc s).d != (q.rc (rd L i)).b) with q4 | q4
    ·simp only [Wm,Zm,u5c,u5a,u5b,u4z,x3s,x3t,g1,g2,w3,Zj,hsd,q1,q2,q3,q4,Ai,Ab,Aa,A6]
    ·simp only [Wm,Zm,u5c,u5a,u5b,u4z,x3s,x3t,g1,g2,w3,Zj,hsd,q1,q2,q3,q4,wp,o1,Ai,Ab,Aa]
   ·simp only [Wm,Zm,u5c,u5a,u5b,u4z,x3s,x3t,g1,g2,w3,Zj,hsd,q1,q2,q3,wp,o1,Ai,Ab,Aa]
theorem w2x (q:Ax) (B:Int): ∀(k i:Nat),i+k=L.length→
  ∃n,∀N,Zs (Wm L) (N+n) (.to (.h0 q (wrap .i64 (B+x2r q L i)) (i:Int)))=Zs (Wm L) N (mpgE q (wrap .i64 (B+x2r q L L.length)))
 | 0,i,h=>by
  refine ⟨1,fun N=> ?_⟩;have:i=L.length:=by omega
  subst this;rw [Zv];have g:decide ((L.length:Int)<(L.length:Int))=false:=Au (by omega);simp only [Wm,g,Aa]
 | k+1,i,h=>by
  have hi:i<L.length:=by omega
  obtain ⟨n,hn⟩:=w2x q B k (i+1) (by omega);obtain ⟨m,hm⟩:=u5z L hl hv q i hi i 0 (B+x2r q L i) (Ah _);refine ⟨n+m+1,fun N=> ?_⟩;have hn:=hn N;have hm:=hm (N+n);rw [show N+(n+m+1)=(N+n+m)+1 by omega,Zv];have g1:decide ((i:Int)<(L.length:Int))=true:=Ag (by omega);have g2:decide (0≤(i:Int)∧(i:Int)<(L.length:Int))=true:=Ag (by omega);have g3:decide (0≤i)=true:=Ag (by omega);have g4:decide (i≤L.length)=true:=Ag (by omega);have g5:decide (0≤(i:Int))=true:=Ag (by omega);have hs:Wm L (.h0 q (wrap .i64 (B+x2r q L i)) (i:Int))=.to (.h1 q (wrap .i64 (B+x2r q L i)) (i:Int) (Jx L 0 i) (i:Int) 0 (rd L i).a (rd L i).b (rd L i).c (rd L i).d (rd L i).e (rd L i).f):=by simp only [Wm,g1,g2,g3,g4,g5,Zj,Ai,Ab]
  rw [hs];rw [Kb] at hm;rw [hm,AX,Cv];exact hn
end
def y8u (L:List R6):Int:=bif Wx L != 0 then 0 else wrap .i64 (x2r .x L L.length+x2r .y L L.length+x2r .z L L.length)
def y8t (L:List R6):Int:=Wx L
def z8a (L:List R6):Bool:=true
theorem j0l (L:List R6) (h:z8a L=true): ∃n,Zs (Wm L) n (y2t L)=.ret [.int .i64 (y8u L),.int .i64 (y8t L)]:=by
 unfold y2t y8u y8t;simp only [Zm,show z2f L=true from rfl,Ab];rcases Ym (Wx L != 0) with q1 | q1
 ·exact ⟨0,by simp only [q1,Ab];rfl⟩
 ·have hl:=w5b q1;have hz:Wx L=0:=by simpa using q1
  have hv:=(Ky hz).2.1;obtain ⟨n1,h1⟩:=w2x L hl hv .x 0 L.length 0 (Ah _);obtain ⟨n2,h2⟩:=w2x L hl hv .y (x2r .x L L.length) L.length 0 (Ah _);obtain ⟨n3,h3⟩:=w2x L hl hv .z (x2r .x L L.length+x2r .y L L.length) L.length 0 (Ah _);refine ⟨0+n3+n2+n1,?_⟩;have h1:=h1 (0+n3+n2);have h2:=h2 (0+n3);have h3:=h3 0;rw [Kb,show x2r Ax.x L 0=0 from rfl,A6,show wrap .i64 0=0 from rfl,B6] at h1;rw [Kb,show x2r Ax.y L 0=0 from rfl,A6] at h2;rw [Kb,show x2r Ax.z L 0=0 from rfl,A6] at h3;simp only [q1,Aa];rw [h1];show Zs (Wm L) (0+n3+n2) (.to (.h0 .y _ 0))=_;rw [h2];show Zs (Wm L) (0+n3) (.to (.h0 .z _ 0))=_;rw [h3,hz];rfl
def fMpg :List AVal→Option (AVal×Bool)
 | [a0]=>match asL R6 a0 with
  | some (L0,g0,n0)=>some (.tup [.int .i64 (y8u L0),.int .i64 (y8t L0)],isT R6 n0 g0&&(z8a L0))
  | _=>none
 | _=>none
theorem j2q {S:Specs} (hS:Zu prog S):Zu prog (S.with v2k fMpg):=by
 refine z0o hS (by kernel_rfl) fun args v h=> ?_;unfold fMpg at h;split at h
 ·rename_i a0;split at h
  ·rename_i L0 g0 n0 e0;simp only [Ae,Ad,Ac] at h;obtain ⟨rfl,ho0,hw⟩:=h;obtain ⟨N,hN⟩:=j0l L0 hw;exact ⟨_,_,(.cons (asL_le e0 ho0) .nil),rfl,v9h L0 N _ hN,3,rfl⟩
  ·cases h
 ·cases h
def Nk :Specs:=Ni.with v2k fMpg
theorem Qj :Zu prog Nk:=j2q z5m
inductive putS where
def putC (x0:Int) (x1:Int) (x2:Int) (x3:Int):putS→Cfg
 :=nofun
def x8g (x0:Int) (x1:Int) (x2:Int) (x3:Int):putS→Xv putS
 :=nofun
def y2q (x0:Int) (x1:Int) (x2:Int) (x3:Int):Xv putS:=(bif (x0 == 0) then (.ret [(.agg [(.int .i64 x1),(.int .i64 x2),(.int .i64 x3)])]) else (bif (x0 == 1) then (.ret [(.agg [(.int .i64 x2),(.int .i64 x1),(.int .i64 x3)])]) else (.ret [(.agg [(.int .i64 x2),(.int .i64 x3),(.int .i64 x1)])])))
theorem w6d (x0:Int) (x1:Int) (x2:Int) (x3:Int): ∀s,Ys prog (Zy prog 62) (putC x0 x1 x2 x3) (putC x0 x1 x2 x3 s) (x8g x0 x1 x2 x3 s)
 :=nofun
theorem x8h (x0:Int) (x1:Int) (x2:Int) (x3:Int):Ys prog (Zy prog 62) (putC x0 x1 x2 x3) (Za prog 62 [(.int .i64 x0),(.int .i64 x1),(.int .i64 x2),(.int .i64 x3)] true []) (y2q x0 x1 x2 x3):=(lb (fun k0=>(z2u ⟨⟨26,0,true⟩,none,(Zb prog 3 [1,1,1,1,1,1,1,0] 1),none,(Zy prog 62),⟨Ya [(8,(.ptr 0 0))],Wr [⟨[(ii x1),(ii x2),(ii x3)],55,none⟩] 0,1,[],true⟩,[],.leaf⟩ (sl Qj 132 [] ⟨[0],[],[some [8]],[]⟩ ⟨[],[],[]⟩ [true,true,false,true,false,false] (tt k0 (tt k0 nn))) rfl (by kernel_rfl))) (fun k0=>(lb (fun k1=>(z2u ⟨⟨26,0,true⟩,none,(Zb prog 3 [1,1,1,1,1,1,1,0] 1),none,(Zy prog 62),⟨Ya [(8,(.ptr 0 0))],Wr [⟨[(ii x2),(ii x1),(ii x3)],55,none⟩] 0,1,[],true⟩,[],.leaf⟩ (sl Qj 140 [] ⟨[0],[],[some [8]],[]⟩ ⟨[],[],[]⟩ [false,true,false,true,true,false,false] (tt k1 (tt k0 (tt k1 (tt k0 nn))))) rfl (by kernel_rfl))) (fun k1=>(z2u ⟨⟨26,0,true⟩,none,(Zb prog 3 [1,1,1,1,1,1,1,0] 1),none,(Zy prog 62),⟨Ya [(8,(.ptr 0 0))],Wr [⟨[(ii x2),(ii x3),(ii x1)],55,none⟩] 0,1,[],true⟩,[],.leaf⟩ (sl Qj 141 [] ⟨[0],[],[some [8]],[]⟩ ⟨[],[],[]⟩ [false,false,false,false,true,false,true] (tt k1 (tt k0 (tt k1 (tt k0 nn))))) rfl (by kernel_rfl))))))
theorem v8y (x0:Int) (x1:Int) (x2:Int) (x3:Int) (n:Nat) (vs:List AVal) (h:Zs (x8g x0 x1 x2 x3) n (y2q x0 x1 x2 x3)=.ret vs):Jw prog (Zy prog 62) (Za prog 62 [(.int .i64 x0),(.int .i64 x1),(.int .i64 x2),(.int .i64 x3)] true []) vs:=by have:=Zc (w6d x0 x1 x2 x3) n _ (x8h x0 x1 x2 x3);rwa [h] at this
inductive rh6S where
 | h0 (v5:Int)
def rh6C (l0:List R6) (bS:Int) (bT:Int) (bU:Int):rh6S→Cfg
 | .h0 v5=>⟨⟨18,0,true⟩,none,(Zb prog 61 [1,0,1,0,0] 0),none,(Zy prog 5),⟨Ya [(0,(.dat l0.length (Zz l0))),(3,(.ptr 0 0)),(5,(ii v5))],Wr [⟨[(ii bS),(ii bT),(ii bU)],55,none⟩] 0,1,[],true⟩,[],.leaf⟩
def x7s :List (Option (List Nat)):=[some [0,3,5]]
def x7t :List (Option (List Nat)):=[]
def z6g (l0:List R6) (bS:Int) (bT:Int) (bU:Int):rh6S→Xv rh6S
 | .h0 v5=>(bif (decide (v5<(l0.length:Int))) then (bif ((decide (0≤v5∧v5<(l0.length:Int)))&&true) then (bif (decide ((rd l0 v5.toNat).a ≤bS)) then (bif (decide (bS<(rd l0 v5.toNat).d)) then (bif (decide ((rd l0 v5.toNat).b ≤bT)) then (bif (decide (bT<(rd l0 v5.toNat).e)) then (bif (decide ((rd l0 v5.toNat).c ≤bU)) then (bif (decide (bU<(rd l0 v5.toNat).f)) then (.ret [(.bool true)]) else (.to (.h0 (wrap .i64 (v5+1))))) else (.to (.h0 (wrap .i64 (v5+1))))) else (.to (.h0 (wrap .i64 (v5+1))))) else (.to (.h0 (wrap .i64 (v5+1))))) else (.to (.h0 (wrap .i64 (v5+1))))) else (.to (.h0 (wrap .i64 (v5+1))))) else .stuck) else (.ret [(.bool false)]))
def x0m (l0:List R6) (bS:Int) (bT:Int) (bU:Int):Xv rh6S:=(.to (.h0 0))
theorem w5u (l0:List R6) (bS:Int) (bT:Int) (bU:Int): ∀s,Ys prog (Zy prog 61) (rh6C l0 bS bT bU) (rh6C l0 bS bT bU s) (z6g l0 bS bT bU s)
 | .h0 v5=>(lb (fun k0=>(lo fun aF=>(lb (fun k1=>(lb (fun k2=>(lb (fun k3=>(lb (fun k4=>(lb (fun k5=>(lb (fun k6=>(lr 18 61 [1,0,1,0,0,1,0,0,1,0,0] 1 5 [(4,(.bool true))] (sl Qj 19 [] ⟨[],[],[some [4]],[]⟩ ⟨[],[],[]⟩ (trs 32 []) (tt k6 (tt k5 (tt k4 (tt k3 (tt k2 (tt k1 (ww aF (tt k0 nn))))))))))) (fun k6=>(sl Qj 23 [] ⟨[0],[],x7s,x7t⟩ ⟨[],[],[]⟩ (trs 31 [false]) (tt k6 (tt k5 (tt k4 (tt k3 (tt k2 (tt k1 (ww aF (tt k0 nn)))))))))))) (fun k5=>(sl Qj 23 [] ⟨[0],[],x7s,x7t⟩ ⟨[],[],[]⟩ (trs 25 (bl 7 0)) (tt k5 (tt k4 (tt k3 (tt k2 (tt k1 (ww aF (tt k0 nn))))))))))) (fun k4=>(sl Qj 23 [] ⟨[0],[],x7s,x7t⟩ ⟨[],[],[]⟩ (trs 19 (bl 13 0)) (tt k4 (tt k3 (tt k2 (tt k1 (ww aF (tt k0 nn)))))))))) (fun k3=>(sl Qj 23 [] ⟨[0],[],x7s,x7t⟩ ⟨[],[],[]⟩ (trs 13 (bl 19 0)) (tt k3 (tt k2 (tt k1 (ww aF (tt k0 nn))))))))) (fun k2=>(sl Qj 23 [] ⟨[0],[],x7s,x7t⟩ ⟨[],[],[]⟩ (trs 7 (bl 25 0)) (tt k2 (tt k1 (ww aF (tt k0 nn)))))))) (fun k1=>(sl Qj 23 [] ⟨[0],[],x7s,x7t⟩ ⟨[],[],[]⟩ (bl 32 1) (tt k1 (ww aF (tt k0 nn)))))))) (fun k0=>(lr 18 3 [1,1,1,1,1,1,1,0] 1 5 [(4,(.bool false))] (sl Qj 14 [] ⟨[],[],[some [4]],[]⟩ ⟨[],[],[]⟩ [false] (tt k0 nn)))))
theorem x7r (l0:List R6) (bS:Int) (bT:Int) (bU:Int):Ys prog (Zy prog 61) (rh6C l0 bS bT bU) (Za prog 61 [(.dat l0.length (Zz l0)),(.agg [(.int .i64 bS),(.int .i64 bT),(.int .i64 bU)])] true []) (x0m l0 bS bT bU):=(sl Qj 12 [] ⟨[0],[],x7s,x7t⟩ ⟨[],[],[]⟩ [] nn)
theorem v7x (l0:List R6) (bS:Int) (bT:Int) (bU:Int) (n:Nat) (vs:List AVal) (h:Zs (z6g l0 bS bT bU) n (x0m l0 bS bT bU)=.ret vs):Jw prog (Zy prog 61) (Za prog 61 [(.dat l0.length (Zz l0)),(.agg [(.int .i64 bS),(.int .i64 bT),(.int .i64 bU)])] true []) vs:=by have:=Zc (w5u l0 bS bT bU) n _ (x7r l0 bS bT bU);rwa [h] at this
inductive twiS where
def twiC (l0:List R6):twiS→Cfg
 :=nofun
def x6g (l0:List R6):twiS→Xv twiS
 :=nofun
def y1t (l0:List R6):Xv twiS:=(bif (decide ((0+l0.length+1)*(48+1)≤Uj)) then (.ret [(.dat l0.length (Zz l0))]) else .stuck)
theorem w4i (l0:List R6): ∀s,Ys prog (Zy prog 14) (twiC l0) (twiC l0 s) (x6g l0 s)
 :=nofun
theorem x6h (l0:List R6):Ys prog (Zy prog 14) (twiC l0) (Za prog 14 [(.dat l0.length (Zz l0))] true []) (y1t l0):=(lo fun o0=>(lr 6 3 [1,1,1,1,1,1,1,0] 1 3 [(2,(.dat l0.length (Zz l0)))] (sl Qj 11 [] ⟨[],[1],[some [2]],[]⟩ ⟨[(2,.frz (0+l0.length) l0.length (Ui (fun k=>(([]:List AVal).drop (k*6)).take 6) 0 (Zz l0)) (Zz l0))],[],[]⟩ [] (pp (xZ (z3k 6 6 0 (0+l0.length) (0+l0.length) (Ui (fun k=>(([]:List AVal).drop (k*6)).take 6) 0 (Zz l0))) (0+l0.length) (Ui (fun k=>(([]:List AVal).drop (k*6)).take 6) 0 (Zz l0))) (pp (xL (0+l0.length) l0.length (Wc (Ah _))) (pp (xS (0+l0.length) (Ui (fun k=>(([]:List AVal).drop (k*6)).take 6) 0 (Zz l0)) (Zz l0)) (pp (pp (xF (Ui (fun k=>(([]:List AVal).drop (k*6)).take 6) 0 (Zz l0))) nn) (pp (pp nn (pp (xG (x1u 6 l0.length (Zz l0))) (xw o0))) nn))))))))
theorem v6g (l0:List R6) (n:Nat) (vs:List AVal) (h:Zs (x6g l0) n (y1t l0)=.ret vs):Jw prog (Zy prog 14) (Za prog 14 [(.dat l0.length (Zz l0))] true []) vs:=by have:=Zc (w4i l0) n _ (x6h l0);rwa [h] at this
inductive rsqS where
 | h0 (v5:Int)
def rsqC (l0:List R7) (l1:List R7):rsqS→Cfg
 | .h0 v5=>⟨⟨26,0,true⟩,none,(Zb prog 19 [1,1,0,1,0,0] 0),none,(Zy prog 5),⟨Ya [(0,(.dat l0.length (Zz l0))),(1,(.dat l1.length (Zz l1))),(5,(ii v5))],Wr [] 0,0,[],true⟩,[],.leaf⟩
def rsqN0 :List (Option (List Nat)):=[some [0,1,5]]
def rsqM0 :List (Option (List Nat)):=[]
def z6d (l0:List R7) (l1:List R7):rsqS→Xv rsqS
 | .h0 v5=>(bif (decide (v5<(l0.length:Int))) then (bif ((decide (0≤v5∧v5<(l0.length:Int)))&&true) then (bif ((decide (0≤v5∧v5<(l1.length:Int)))&&true) then (bif (!(((rd l0 v5.toNat).a == (rd l1 v5.toNat).a)&&((((rd l0 v5.toNat).b == (rd l1 v5.toNat).b)&&(((rd l0 v5.toNat).c == (rd l1 v5.toNat).c)&&(((rd l0 v5.toNat).d == (rd l1 v5.toNat).d)&&true)))&&((((rd l0 v5.toNat).e == (rd l1 v5.toNat).e)&&(((rd l0 v5.toNat).f == (rd l1 v5.toNat).f)&&(((rd l0 v5.toNat).g == (rd l1 v5.toNat).g)&&true)))&&true)))) then (.ret [(.bool false)]) else (.to (.h0 (wrap .i64 (v5+1))))) else .stuck) else .stuck) else (.ret [(.bool true)]))
def y2c (l0:List R7) (l1:List R7):Xv rsqS:=(bif ((l0.length:Int) != (l1.length:Int)) then (.ret [(.bool false)]) else (.to (.h0 0)))
theorem w5j (l0:List R7) (l1:List R7): ∀s,Ys prog (Zy prog 19) (rsqC l0 l1) (rsqC l0 l1 s) (z6d l0 l1 s)
 | .h0 v5=>(lb (fun k0=>(lo fun aF=>(lo fun aR=>(lb (fun k1=>(lr 26 19 [1,1,0,1,0,0,1,0,0,1,0,0] 1 5 [(4,(.bool false))] (sl Qj 19 [] ⟨[],[],[some [4]],[]⟩ ⟨[],[],[]⟩ (bl 2 3) (tt k1 (ww aR (ww aF (tt k0 nn))))))) (fun k1=>(sl Qj 23 [] ⟨[],[],rsqN0,rsqM0⟩ ⟨[],[],[]⟩ (bl 2 1) (tt k1 (ww aR (ww aF (tt k0 nn)))))))))) (fun k0=>(lr 26 3 [1,1,1,1,1,1,1,0] 1 5 [(4,(.bool true))] (sl Qj 14 [] ⟨[],[],[some [4]],[]⟩ ⟨[],[],[]⟩ [false] (tt k0 nn)))))
theorem x7b (l0:List R7) (l1:List R7):Ys prog (Zy prog 19) (rsqC l0 l1) (Za prog 19 [(.dat l0.length (Zz l0)),(.dat l1.length (Zz l1))] true []) (y2c l0 l1):=(lb (fun k0=>(lr 26 19 [1,0,1,0,0] 1 5 [(4,(.bool false))] (sl Qj 18 [] ⟨[],[],[some [4]],[]⟩ ⟨[],[],[]⟩ [true] (tt k0 nn)))) (fun k0=>(sl Qj 22 [] ⟨[],[],rsqN0,rsqM0⟩ ⟨[],[],[]⟩ [false] (tt k0 nn))))
theorem v7d (l0:List R7) (l1:List R7) (n:Nat) (vs:List AVal) (h:Zs (z6d l0 l1) n (y2c l0 l1)=.ret vs):Jw prog (Zy prog 19) (Za prog 19 [(.dat l0.length (Zz l0)),(.dat l1.length (Zz l1))] true []) vs:=by have:=Zc (w5j l0 l1) n _ (x7b l0 l1);rwa [h] at this
inductive greS where
def greC (l0:List R6):greS→Cfg
 :=nofun
def x9p (l0:List R6):greS→Xv greS
 :=nofun
def y3e (l0:List R6):Xv greS:=(bif (decide ((l0.length:Int)>12)) then (bif (decide ((l0.length:Int)≤400)) then (.ret [(.bool true)]) else (.ret [(.bool (decide ((l0.length:Int)>420)))])) else (.ret [(.bool (decide ((l0.length:Int)>420)))]))
theorem w7c (l0:List R6): ∀s,Ys prog (Zy prog 13) (greC l0) (greC l0 s) (x9p l0 s)
 :=nofun
theorem x9q (l0:List R6):Ys prog (Zy prog 13) (greC l0) (Za prog 13 [(.dat l0.length (Zz l0))] true []) (y3e l0):=(lb (fun k0=>(lb (fun k1=>(lr 16 3 [1,1,1,1,1,1,1,0] 1 3 [(2,(.bool true))] (sl Qj 21 [] ⟨[],[],[some [2]],[]⟩ ⟨[],[],[]⟩ (trs 6 []) (tt k1 (tt k0 nn))))) (fun k1=>(lr 16 3 [1,1,1,1,1,1,1,0] 1 3 [(2,(.bool (decide ((l0.length:Int)>420))))] (sl Qj 21 [] ⟨[],[],[some [2]],[]⟩ ⟨[],[],[]⟩ (trs 3 [false,false,false]) (tt k1 (tt k0 nn))))))) (fun k0=>(lr 16 3 [1,1,1,1,1,1,1,0] 1 3 [(2,(.bool (decide ((l0.length:Int)>420))))] (sl Qj 21 [] ⟨[],[],[some [2]],[]⟩ ⟨[],[],[]⟩ [false,false,false,false,false,false] (tt k0 nn)))))
theorem u0l (l0:List R6) (n:Nat) (vs:List AVal) (h:Zs (x9p l0) n (y3e l0)=.ret vs):Jw prog (Zy prog 13) (Za prog 13 [(.dat l0.length (Zz l0))] true []) vs:=by have:=Zc (w7c l0) n _ (x9q l0);rwa [h] at this
inductive cu9S where
 | h0 (v5:List Int) (v6:Int)
def cu9C (l0:List R6) (x1:Int):cu9S→Cfg
 | .h0 v5 v6=>⟨⟨32,0,true⟩,none,(Zb prog 60 [1,1,0,1,0,0] 0),none,(Zy prog 5),⟨Ya [(0,(.dat l0.length (Zz l0))),(1,(ii x1)),(5,(.sla 0 1 0 v5.length (.un 1))),(6,(ii v6))],Wr [⟨rows v5.length (Zz v5),3,some ⟨1,v5.length,(Zz v5)⟩⟩] 0,1,[],true⟩,[],.leaf⟩
def cu9N0 :List (Option (List Nat)):=[some [0,1,5,6]]
def cu9M0 :List (Option (List Nat)):=[]
def z9y (l0:List R6) (x1:Int):cu9S→Xv cu9S
 | .h0 v5 v6=>(bif (decide (v6<(l0.length:Int))) then (bif ((decide (0≤v6∧v6<(l0.length:Int)))&&true) then (bif (Nat.beq 1 1&&((decide (0+v5.length=v5.length))&&decide ((v5.length+2+1)*(8+1)≤Uj))) then (.to (.h0 (v5++[(y1i (rd l0 v6.toNat).a (rd l0 v6.toNat).b (rd l0 v6.toNat).c x1),(y1i (rd l0 v6.toNat).d (rd l0 v6.toNat).e (rd l0 v6.toNat).f x1)]) (wrap .i64 (v6+1)))) else .stuck) else .stuck) else (bif (Jv (cvT v5)) then (.ret [(.dat (z1g (cvT v5)).length (Zz (z1g (cvT v5))))]) else .stuck))
def x1w (l0:List R6) (x1:Int):Xv cu9S:=(.to (.h0 ([]:List Int) 0))
theorem w7v (l0:List R6) (x1:Int): ∀s,Ys prog (Zy prog 60) (cu9C l0 x1) (cu9C l0 x1 s) (z9y l0 x1 s)
 | .h0 v5 v6=>(lb (fun k0=>(lo fun o0=>(lo fun o1=>(sl Qj 20 [] ⟨[2],[],cu9N0,cu9M0⟩ ⟨[(5,.len (v5++[(y1i (rd l0 (tn v6)).a (rd l0 (tn v6)).b (rd l0 (tn v6)).c x1),(y1i (rd l0 (tn v6)).d (rd l0 (tn v6)).e (rd l0 (tn v6)).f x1)]).length)],[.rowed 1 (v5++[(y1i (rd l0 (tn v6)).a (rd l0 (tn v6)).b (rd l0 (tn v6)).c x1),(y1i (rd l0 (tn v6)).d (rd l0 (tn v6)).e (rd l0 (tn v6)).f x1)]).length (Zz (v5++[(y1i (rd l0 (tn v6)).a (rd l0 (tn v6)).b (rd l0 (tn v6)).c x1),(y1i (rd l0 (tn v6)).d (rd l0 (tn v6)).e (rd l0 (tn v6)).f x1)]))],[]⟩ [true] (pp (xL (v5.length+2) (v5++[(y1i (rd l0 (tn v6)).a (rd l0 (tn v6)).b (rd l0 (tn v6)).c x1),(y1i (rd l0 (tn v6)).d (rd l0 (tn v6)).e (rd l0 (tn v6)).f x1)]).length) (pp (xL (v5.length+2) (v5++[(y1i (rd l0 (tn v6)).a (rd l0 (tn v6)).b (rd l0 (tn v6)).c x1),(y1i (rd l0 (tn v6)).d (rd l0 (tn v6)).e (rd l0 (tn v6)).f x1)]).length) (pp (xS (v5.length+2) (Ze (Zz v5) 0 v5.length 1 [(ii (y1i (rd l0 (tn v6)).a (rd l0 (tn v6)).b (rd l0 (tn v6)).c x1)),(ii (y1i (rd l0 (tn v6)).d (rd l0 (tn v6)).e (rd l0 (tn v6)).f x1))]) (Zz (v5++[(y1i (rd l0 (tn v6)).a (rd l0 (tn v6)).b (rd l0 (tn v6)).c x1),(y1i (rd l0 (tn v6)).d (rd l0 (tn v6)).e (rd l0 (tn v6)).f x1)]))) (pp (pp (xF (Ze (Zz v5) 0 v5.length 1 [(ii (y1i (rd l0 (tn v6)).a (rd l0 (tn v6)).b (rd l0 (tn v6)).c x1)),(ii (y1i (rd l0 (tn v6)).d (rd l0 (tn v6)).e (rd l0 (tn v6)).f x1))])) nn) (ww o1 (ww o0 (ww o0 (tt k0 nn)))))))))))) (fun k0=>(Wu (sl Qj (C':=⟨⟨32,0,true⟩,(Ur prog 60 [1,1,1,0] 1),(Zb prog 60 [1,1,1,0] 1),none,(Zy prog 5),⟨Ya [(30,(.dat v5.length (Zz v5)))],Wr [] 0,0,[],true⟩,[],.leaf⟩) 13 [] ⟨[],[0],[some [30]],[]⟩ ⟨[(30,.frz v5.length v5.length (Zz v5) (Zz v5))],[],[]⟩ [false] (pp (xZ (z3k 1 1 0 v5.length v5.length (Zz v5)) v5.length (Zz v5)) (pp (xL v5.length v5.length) (pp (xS v5.length (Zz v5) (Zz v5)) (pp (fl v5 nn) (tt k0 nn)))))) (lo fun o0=>(lr 32 3 [1,1,1,1,1,1,1,0] 1 5 [(4,(.dat (z1g (cvT v5)).length (Zz (z1g (cvT v5)))))] (sl Qj 3 [] ⟨[],[],[some [4]],[]⟩ ⟨[],[],[]⟩ [] (pp (pp (xr v5) (xw o0)) nn)))))))
theorem w0l (l0:List R6) (x1:Int):Ys prog (Zy prog 60) (cu9C l0 x1) (Za prog 60 [(.dat l0.length (Zz l0)),(.int .i64 x1)] true []) (x1w l0 x1):=(sl Qj 15 [(3,1,Zz ([]:List Int))] ⟨[0],[],cu9N0,cu9M0⟩ ⟨[(5,.grow 0 1)],[],[]⟩ [] (pp (fl ([]:List Int) nn) nn))
theorem u1j (l0:List R6) (x1:Int) (n:Nat) (vs:List AVal) (h:Zs (z9y l0 x1) n (x1w l0 x1)=.ret vs):Jw prog (Zy prog 60) (Za prog 60 [(.dat l0.length (Zz l0)),(.int .i64 x1)] true []) vs:=by have:=Zc (w7v l0 x1) n _ (w0l l0 x1);rwa [h] at this
abbrev nPut :Nat:=62
abbrev nCu9 :Nat:=60
abbrev nRh6 :Nat:=61
abbrev nTwi :Nat:=14
abbrev nRsq :Nat:=19
abbrev nGre :Nat:=13
abbrev nRfa :Nat:=104
abbrev nRse :Nat:=103
abbrev nRqu :Nat:=55
abbrev nRma :Nat:=54
abbrev nRof :Nat:=16
abbrev nRpi :Nat:=18
def Yf (i a x y:Int):R3:=bif i == 0 then ⟨a,x,y⟩ else bif i == 1 then ⟨x,a,y⟩ else ⟨x,y,a⟩
theorem u9z (i a x y:Int): ∃N,Zs (x8g i a x y) N (y2q i a x y)=.ret [.agg [.int .i64 (Yf i a x y).a,.int .i64 (Yf i a x y).b,.int .i64 (Yf i a x y).c]]:=⟨0,by
 unfold y2q Yf;cases i == 0 <;> cases i == 1 <;> rfl⟩
def fPut :List AVal→Option (AVal×Bool)
 | [.int .i64 i,.int .i64 a,.int .i64 x,.int .i64 y]=>some (.agg [.int .i64 (Yf i a x y).a,.int .i64 (Yf i a x y).b,.int .i64 (Yf i a x y).c],true)
 | _=>none
theorem j2n {S:Specs} (hS:Zu prog S):Zu prog (S.with nPut fPut):=by
 refine z0o hS (by kernel_rfl) fun args v h=> ?_;unfold fPut at h;split at h
 ·rename_i i a x y;simp only [Ae,Ad,Cp] at h;subst h;obtain ⟨N,hN⟩:=u9z i a x y;exact ⟨_,_,(.cons (.refl _) (.cons (.refl _) (.cons (.refl _) (.cons (.refl _) .nil)))),rfl,v8y i a x y N _ hN,3,rfl⟩
 ·cases h
def z6h (L:List R6) (x y z:Int):Bool:=u2t L x y z
def Vi (L:List R6) (x y z:Int):Bool:=decide (L.length≤100000)
theorem u4d {L:List R6} {x y z:Int} (hl:L.length≤100000): ∀(k i:Nat),i+k=L.length→ ∃N,Zs (z6g L x y z) N (.to (.h0 (i:Int)))=.ret [.bool ((L.drop i).any (shR x y z))]
 | 0,i,h=>by refine ⟨1,?_⟩;rw [Zv,Ar (by omega)];simp (disch:=omega) only [z6g,Yz,Aa,Zp,List.any_nil]
 | k+1,i,h=>by
  have hi:i<L.length:=by omega
  obtain ⟨N,hN⟩:=u4d (x:=x) (y:=y) (z:=z) hl k (i+1) (by omega);refine ⟨N+1,?_⟩;rw [Zv,Yx hi,List.any_cons];have e:z6g L x y z (.h0 (i:Int))=bif shR x y z (rd L i) then .ret [.bool true] else .to (.h0 ((i+1:Nat):Int)):=by unfold shR;simp (disch:=omega) only [z6g,y0b,Zo,Zr,Zk,Zx,Zj,Ai,Ab]
  rw [e];cases shR x y z (rd L i) with
  | true=>rw [Ab,Zp,Ce]
  | false=>rw [Aa,hN,Cb]
theorem u9m (L:List R6) (x y z:Int) (h:Vi L x y z=true): ∃N,Zs (z6g L x y z) N (x0m L x y z)=.ret [.bool (z6h L x y z)]:=by obtain ⟨N,hN⟩:=u4d (x:=x) (y:=y) (z:=z) (AA h) L.length 0 (Ah _);exact ⟨N,hN⟩
def fRh6 :List AVal→Option (AVal×Bool)
 | [a0,.agg [.int .i64 bS,.int .i64 bT,.int .i64 bU]]=>match asL R6 a0 with
  | some (L0,g0,n0)=>some (.bool (z6h L0 bS bT bU),isT R6 n0 g0&&(Vi L0 bS bT bU))
  | _=>none
 | _=>none
theorem j2i {S:Specs} (hS:Zu prog S):Zu prog (S.with nRh6 fRh6):=by
 refine z0o hS (by kernel_rfl) fun args v h=> ?_;unfold fRh6 at h;split at h
 ·rename_i a0 bS bT bU;split at h
  ·rename_i L0 g0 n0 e0;simp only [Ae,Ad,Ac] at h;obtain ⟨rfl,ho0,hw⟩:=h;obtain ⟨N,hN⟩:=u9m L0 bS bT bU hw;exact ⟨_,_,(.cons (asL_le e0 ho0) (.cons (.refl _) .nil)),rfl,v7x L0 bS bT bU N _ hN,3,rfl⟩
  ·cases h
 ·cases h
def z0e (L:List R6):List R6:=L
def z6y (L:List R6):Bool:=decide (L.length≤1000)
theorem u7r (L:List R6) (h:z6y L=true): ∃N,Zs (x6g L) N (y1t L)=.ret [.dat (z0e L).length (Zz (z0e L))]:=⟨0,by
 have h:L.length≤1000:=AA h;unfold y1t;rw [Zf (by omega)];rfl⟩
def fTwi :List AVal→Option (AVal×Bool)
 | [a0]=>match asL R6 a0 with
  | some (L0,g0,n0)=>some (.dat (z0e L0).length (Zz (z0e L0)),isT R6 n0 g0&&(z6y L0))
  | _=>none
 | _=>none
theorem j1v {S:Specs} (hS:Zu prog S):Zu prog (S.with nTwi fTwi):=by
 refine z0o hS (by kernel_rfl) fun args v h=> ?_;unfold fTwi at h;split at h
 ·rename_i a0;split at h
  ·rename_i L0 g0 n0 e0;simp only [Ae,Ad,Ac] at h;obtain ⟨rfl,ho0,hw⟩:=h;obtain ⟨N,hN⟩:=u7r L0 hw;exact ⟨_,_,(.cons (asL_le e0 ho0) .nil),rfl,v6g L0 N _ hN,3,rfl⟩
  ·cases h
 ·cases h
def rsqV (l m:List R7):Bool:=y7w l m
def z7c (l m:List R7):Bool:=decide (l.length≤1000000)
theorem u3h (l m:List R7) (hl:l.length≤1000000) (hm:l.length=m.length): ∀(k i:Nat),i+k=l.length→ ∃N,Zs (z6d l m) N (.to (.h0 (i:Int)))=.ret [.bool (decide (l.drop i=m.drop i))]
 | 0,i,h=>by refine ⟨1,?_⟩;rw [Zv,Ar (by omega),Ar (by omega)];simp (disch:=omega) only [z6d,Yz,Aa,Zp,Av]
 | k+1,i,h=>by
  have hi:i<l.length:=by omega
  obtain ⟨N,hN⟩:=u3h l m hl hm k (i+1) (by omega);refine ⟨N+1,?_⟩;rw [Zv,Yx hi,Yx (show i<m.length by omega)];have e:z6d l m (.h0 (i:Int))=bif !(eq7 (rd l i) (rd m i)) then .ret [.bool false] else .to (.h0 ((i+1:Nat):Int)):=by simp (disch:=omega) only [z6d,eq7,Zo,Zr,Zk,Zx,Zj,Ai,Ab,Aa]
  rw [e];by_cases q:rd l i=rd m i
  ·rw [(x1r _ _).2 q,AE,Aa,hN]
   congr 3
   exact BJ.2 ⟨fun h=>by rw [q,h],fun h=>(List.cons.inj h).2⟩
  ·rw [show eq7 (rd l i) (rd m i)=false from A9.2 fun h=>q ((x1r _ _).1 h),AI,Ab,Zp]
   congr 3
   exact (Au fun h=>q (List.cons.inj h).1).symm
theorem u8t (l m:List R7) (h:z7c l m=true): ∃N,Zs (z6d l m) N (y2c l m)=.ret [.bool (rsqV l m)]:=by
 have hl:l.length≤1000000:=AA h;unfold y2c;by_cases hm:l.length=m.length
 ·obtain ⟨N,hN⟩:=u3h l m hl hm l.length 0 (Ah _);refine ⟨N,?_⟩;rw [show ((l.length:Int) != (m.length:Int))=false by rw [hm];simp,Aa];exact hN
 ·refine ⟨0,?_⟩;rw [show ((l.length:Int) != (m.length:Int))=true by simp;omega,Ab,Zp]
  congr 3
  exact (Au fun e=>hm (by rw [e])).symm
def fRsq :List AVal→Option (AVal×Bool)
 | [a0,a1]=>match asL R7 a0,asL R7 a1 with
  | some (L0,g0,n0),some (L1,g1,n1)=>some (.bool (rsqV L0 L1),isT R7 n0 g0&&(isT R7 n1 g1&&(z7c L0 L1)))
  | _,_=>none
 | _=>none
theorem j2c {S:Specs} (hS:Zu prog S):Zu prog (S.with nRsq fRsq):=by
 refine z0o hS (by kernel_rfl) fun args v h=> ?_;unfold fRsq at h;split at h
 ·rename_i a0 a1;split at h
  ·rename_i L0 g0 n0 L1 g1 n1 e0 e1;simp only [Ae,Ad,Ac] at h;obtain ⟨rfl,ho0,ho1,hw⟩:=h;obtain ⟨N,hN⟩:=u8t L0 L1 hw;exact ⟨_,_,(.cons (asL_le e0 ho0) (.cons (asL_le e1 ho1) .nil)),rfl,v7d L0 L1 N _ hN,3,rfl⟩
  ·cases h
 ·cases h
def j1k (L:List R6):Bool:=bif decide ((L.length:Int)>12) then (bif decide ((L.length:Int)≤400) then true else decide ((L.length:Int)>420)) else decide ((L.length:Int)>420)
def z8f (L:List R6):Bool:=true
theorem j1j (L:List R6) (h:z8f L=true): ∃N,Zs (x9p L) N (y3e L)=.ret [.bool (j1k L)]:=⟨0,by
 unfold y3e j1k;cases decide ((L.length:Int)>12) <;> cases decide ((L.length:Int)≤400) <;> rfl⟩
def fGre :List AVal→Option (AVal×Bool)
 | [a0]=>match asL R6 a0 with
  | some (L0,g0,n0)=>some (.bool (j1k L0),isT R6 n0 g0&&(z8f L0))
  | _=>none
 | _=>none
theorem j2y {S:Specs} (hS:Zu prog S):Zu prog (S.with nGre fGre):=by
 refine z0o hS (by kernel_rfl) fun args v h=> ?_;unfold fGre at h;split at h
 ·rename_i a0;split at h
  ·rename_i L0 g0 n0 e0;simp only [Ae,Ad,Ac] at h;obtain ⟨rfl,ho0,hw⟩:=h;obtain ⟨N,hN⟩:=j1j L0 hw;exact ⟨_,_,(.cons (asL_le e0 ho0) .nil),rfl,u0l L0 N _ hN,3,rfl⟩
  ·cases h
 ·cases h
def u1f (L:List R6) (i:Int):List Int:=L.flatMap fun r=>[y1i r.a r.b r.c i,y1i r.d r.e r.f i]
def Kq (L:List R6) (i:Int):List Int:=z1g (u1f L i)
def Yd (L:List R6) (i:Int):Bool:=decide (L.length≤1000)
theorem z6s (L:List R6) (i:Int):(u1f L i).length =2*L.length:=by
 unfold u1f
 induction L with
 | nil=>rfl
 | cons r l ih=>rw [B9,Ay,ih];simp only [AV,Bp];omega
theorem u6y (L:List R6) (x:Int) (hl:L.length≤1000): ∀(k i:Nat) (acc:List Int),i+k=L.length→acc=u1f (L.take i) x→ ∃N,Zs (z9y L x) N (.to (.h0 acc (i:Int)))=.ret [.dat (Kq L x).length (Zz (Kq L x))]
 | 0,i,acc,h,ha=>by
  refine ⟨1,?_⟩;have:i=L.length:=by omega
  subst this;rw [Cu] at ha;subst ha;have hn:=z6s L x;have o:Jv (u1f L x)=true:=Ag (by omega);rw [Zv];simp (disch:=omega) only [z9y,Zm,Yz,o,Ab,Aa,Zp];rfl
 | k+1,i,acc,h,ha=>by
  have hi:i<L.length:=by omega
  have hn:acc.length=2*i:=by rw [ha,z6s,Bc];omega
  obtain ⟨N,hN⟩:=u6y L x hl k (i+1) (acc++[y1i (rd L i).a (rd L i).b (rd L i).c x,y1i (rd L i).d (rd L i).e (rd L i).f x]) (by omega) (by
   rw [ha,Ba,Aq hi,Yo hi];unfold u1f;rw [Ck];rfl)
  refine ⟨N+1,?_⟩;rw [Zv,←hN]
  congr 1
  have m1:decide (0+acc.length=acc.length)=true:=Ag (by omega);have b1:Nat.beq 1 1=true:=rfl;simp (disch:=omega) only [z9y,Zo,Zr,Zf,Zk,Zx,Zj,m1,b1,Ai,Al,Ab]
theorem j3u (L:List R6) (x:Int) (h:Yd L x=true): ∃N,Zs (z9y L x) N (x1w L x)=.ret [.dat (Kq L x).length (Zz (Kq L x))]:=by obtain ⟨N,hN⟩:=u6y L x (AA h) L.length 0 [] (Ah _) rfl;exact ⟨N,hN⟩
def fCu9 :List AVal→Option (AVal×Bool)
 | [a0,.int .i64 x1]=>match asL R6 a0 with
  | some (L0,g0,n0)=>some (.dat (Kq L0 x1).length (Zz (Kq L0 x1)),isT R6 n0 g0&&(Yd L0 x1))
  | _=>none
 | _=>none
theorem j3e {S:Specs} (hS:Zu prog S):Zu prog (S.with nCu9 fCu9):=by
 refine z0o hS (by kernel_rfl) fun args v h=> ?_;unfold fCu9 at h;split at h
 ·rename_i a0 x1;split at h
  ·rename_i L0 g0 n0 e0;simp only [Ae,Ad,Ac] at h;obtain ⟨rfl,ho0,hw⟩:=h;obtain ⟨N,hN⟩:=j3u L0 x1 hw;exact ⟨_,_,(.cons (asL_le e0 ho0) (.cons (.refl _) .nil)),rfl,u1j L0 x1 N _ hN,3,rfl⟩
  ·cases h
 ·cases h
def Pb :Specs:=((((((Nk.with nPut fPut).with nRh6 fRh6).with nTwi fTwi).with nRsq fRsq).with nGre fGre).with nCu9 fCu9)
theorem Ve :Zu prog Pb:=j3e (j2y (j2c (j1v (j2i (j2n Qj)))))
inductive rfaS where
 | h0 (v11:List Int) (v12:List Int) (v13:List R4) (v14:Int)
 | h1 (v11:List Int) (v12:List Int) (v13:List R4) (v14:Int) (v15:List Bool) (v16:Int)
 | h2 (v11:List Int) (v12:List Int) (v13:List R4) (v14:Int) (v19:List R2) (v20:Int)
def rfaC (l0:List R6) (x1:Int) (x2:Int) (x3:Int):rfaS→Cfg
 | .h0 v11 v12 v13 v14=>⟨⟨118,0,true⟩,none,(Zb prog 104 [1,1,1,1,0,1,0,0] 0),none,(Zy prog 71),⟨Ya [(0,(.dat l0.length (Zz l0))),(1,(ii x1)),(2,(ii x2)),(3,(ii x3)),(11,(.dat v11.length (Zz v11))),(12,(.dat v12.length (Zz v12))),(13,(.sla 0 4 0 v13.length (.un 4))),(14,(ii v14))],Wr [⟨rows v13.length (Zz v13),88,some ⟨4,v13.length,(Zz v13)⟩⟩] 0,1,[],true⟩,[],.leaf⟩
 | .h1 v11 v12 v13 v14 v15 v16=>⟨⟨118,0,true⟩,none,(Zb prog 104 [1,1,1,1,0,1,0,0,1,0,0,1,0,1,0,0] 0),none,(Zy prog 71),⟨Ya [(0,(.dat l0.length (Zz l0))),(1,(ii x1)),(2,(ii x2)),(3,(ii x3)),(11,(.dat v11.length (Zz v11))),(12,(.dat v12.length (Zz v12))),(13,(.sla 1 4 0 v13.length (.un 4))),(14,(ii v14)),(15,(.sla 0 1 0 v15.length (.un 1))),(16,(ii v16))],Wr [⟨rows v15.length (Zz v15),4,some ⟨1,v15.length,(Zz v15)⟩⟩,⟨rows v13.length (Zz v13),88,some ⟨4,v13.length,(Zz v13)⟩⟩] 0,2,[],true⟩,[],.leaf⟩
 | .h2 v11 v12 v13 v14 v19 v20=>⟨⟨118,0,true⟩,none,(Zb prog 104 [1,1,1,1,0,1,0,0,1,0,0,1,1,1,1,0,0] 0),none,(Zy prog 71),⟨Ya [(0,(.dat l0.length (Zz l0))),(1,(ii x1)),(2,(ii x2)),(3,(ii x3)),(11,(.dat v11.length (Zz v11))),(12,(.dat v12.length (Zz v12))),(13,(.sla 0 4 0 v13.length (.un 4))),(14,(ii v14)),(19,(.dat v19.length (Zz v19))),(20,(ii v20))],Wr [⟨rows v13.length (Zz v13),88,some ⟨4,v13.length,(Zz v13)⟩⟩] 0,1,[],true⟩,[],.leaf⟩
def v8m :List (Option (List Nat)):=[some [0,1,2,3,11,12,13,14]]
def v8n :List (Option (List Nat)):=[]
def u9t :List (Option (List Nat)):=[some [0,1,2,3,11,12,13,14,15,16]]
def u9u :List (Option (List Nat)):=[]
def rfaN2 :List (Option (List Nat)):=[some [0,1,2,3,11,12,13,14,19,20]]
def rfaM2 :List (Option (List Nat)):=[]
def Jc (l0:List R6) (x1:Int) (x2:Int) (x3:Int):rfaS→Xv rfaS
 | .h0 v11 v12 v13 v14=>(bif (decide ((wrap .i64 (v14+1))<(v11.length:Int))) then (.to (.h1 v11 v12 v13 v14 ([]:List Bool) 0)) else (bif (Jg 2 (cvT v13) ([]:List R4)) then (.ret [(.dat (joV 2 (cvT v13) ([]:List R4)).length (Zz (joV 2 (cvT v13) ([]:List R4))))]) else .stuck))
 | .h1 v11 v12 v13 v14 v15 v16=>(bif (decide (v16<(v12.length:Int))) then (bif (Vi (cvT l0) (Yf x1 (wrap .i64 (x3 - 1)) (rd v11 v14.toNat) (rd v12 v16.toNat)).a (Yf x1 (wrap .i64 (x3 - 1)) (rd v11 v14.toNat) (rd v12 v16.toNat)).b (Yf x1 (wrap .i64 (x3 - 1)) (rd v11 v14.toNat) (rd v12 v16.toNat)).c) then (bif ((decide (0≤v14∧v14<(v11.length:Int)))&&true) then (bif ((decide (0≤v16∧v16<(v12.length:Int)))&&true) then (bif (Vi (cvT l0) (Yf x1 x3 (rd v11 v14.toNat) (rd v12 v16.toNat)).a (Yf x1 x3 (rd v11 v14.toNat) (rd v12 v16.toNat)).b (Yf x1 x3 (rd v11 v14.toNat) (rd v12 v16.toNat)).c) then (bif (!((z6h (cvT l0) (Yf x1 (wrap .i64 (x3 - 1)) (rd v11 v14.toNat) (rd v12 v16.toNat)).a (Yf x1 (wrap .i64 (x3 - 1)) (rd v11 v14.toNat) (rd v12 v16.toNat)).b (Yf x1 (wrap .i64 (x3 - 1)) (rd v11 v14.toNat) (rd v12 v16.toNat)).c) == (z6h (cvT l0) (Yf x1 x3 (rd v11 v14.toNat) (rd v12 v16.toNat)).a (Yf x1 x3 (rd v11 v14.toNat) (rd v12 v16.toNat)).b (Yf x1 x3 (rd v11 v14.toNat) (rd v12 v16.toNat)).c))) then (bif (Nat.beq 1 1&&((decide (0+v15.length=v15.length))&&decide ((v15.length+1+1)*(1+1)≤Uj))) then (.to (.h1 v11 v12 v13 v14 (v15++[((z6h (cvT l0) (Yf x1 (wrap .i64 (x3 - 1)) (rd v11 v14.toNat) (rd v12 v16.toNat)).a (Yf x1 (wrap .i64 (x3 - 1)) (rd v11 v14.toNat) (rd v12 v16.toNat)).b (Yf x1 (wrap .i64 (x3 - 1)) (rd v11 v14.toNat) (rd v12 v16.toNat)).c) == (x2 == 0))]) (wrap .i64 (v16+1)))) else .stuck) else (bif (Nat.beq 1 1&&((decide (0+v15.length=v15.length))&&decide ((v15.length+1+1)*(1+1)≤Uj))) then (.to (.h1 v11 v12 v13 v14 (v15++[false]) (wrap .i64 (v16+1)))) else .stuck)) else .stuck) else .stuck) else .stuck) else .stuck) else (bif (Qv (cvT v12) (cvT v15)) then (.to (.h2 v11 v12 v13 v14 (z1m (cvT v12) (cvT v15)) 0)) else .stuck))
 | .h2 v11 v12 v13 v14 v19 v20=>(bif (decide (v20<(v19.length:Int))) then (bif ((decide (0≤v14∧v14<(v11.length:Int)))&&true) then (bif ((decide (0≤(wrap .i64 (v14+1))∧(wrap .i64 (v14+1))<(v11.length:Int)))&&true) then (bif ((decide (0≤v20∧v20<(v19.length:Int)))&&true) then (bif (Nat.beq 4 4&&((decide (0+v13.length=v13.length))&&decide ((v13.length+1+1)*(32+1)≤Uj))) then (.to (.h2 v11 v12 (v13++[(R4.mk (rd v11 v14.toNat) (rd v19 v20.toNat).a (rd v11 (Int.toNat (wrap .i64 (v14+1)))) (rd v19 v20.toNat).b)]) v14 v19 (wrap .i64 (v20+1)))) else .stuck) else .stuck) else .stuck) else .stuck) else (.to (.h0 v11 v12 v13 (wrap .i64 (v14+1)))))
def y2o (l0:List R6) (x1:Int) (x2:Int) (x3:Int):Xv rfaS:=(bif (x1 == 0) then (bif (Yd (cvT l0) 1) then (bif (Yd (cvT l0) 2) then (.to (.h0 (Kq (cvT l0) 1) (Kq (cvT l0) 2) ([]:List R4) 0)) else .stuck) else .stuck) else (bif (x1 == 1) then (bif (Yd (cvT l0) 0) then (bif (Yd (cvT l0) 2) then (.to (.h0 (Kq (cvT l0) 0) (Kq (cvT l0) 2) ([]:List R4) 0)) else .stuck) else .stuck) else (bif (Yd (cvT l0) 0) then (bif (Yd (cvT l0) 1) then (.to (.h0 (Kq (cvT l0) 0) (Kq (cvT l0) 1) ([]:List R4) 0)) else .stuck) else .stuck)))
theorem w5y (l0:List R6) (x1:Int) (x2:Int) (x3:Int): ∀s,Ys prog (Zy prog 104) (rfaC l0 x1 x2 x3) (rfaC l0 x1 x2 x3 s) (Jc l0 x1 x2 x3 s)
 | .h0 v11 v12 v13 v14=>(lb (fun k0=>(sl Ve 24 [(4,1,Zz ([]:List Bool))] ⟨[1,0],[],u9t,u9u⟩ ⟨[(15,.grow 0 1)],[],[]⟩ [true] (pp (fl ([]:List Bool) (fl v13 nn)) (tt k0 nn)))) (fun k0=>(Wu (sl Ve (C':=⟨⟨118,0,true⟩,(Ur prog 104 [1,1,1,1,1,0] 1),(Zb prog 104 [1,1,1,1,1,0] 1),none,(Zy prog 71),⟨Ya [(116,(.dat v13.length (Zz v13)))],Wr [] 0,0,[],true⟩,[],.leaf⟩) 14 [] ⟨[],[0],[some [116]],[]⟩ ⟨[(116,.frz v13.length v13.length (Zz v13) (Zz v13))],[],[]⟩ [false] (pp (xZ (z3k 4 4 0 v13.length v13.length (Zz v13)) v13.length (Zz v13)) (pp (xL v13.length v13.length) (pp (xS v13.length (Zz v13) (Zz v13)) (pp (fl v13 nn) (tt k0 nn)))))) (lo fun o0=>(lr 118 3 [1,1,1,1,1,1,1,0] 1 71 [(8,(.dat (joV 2 (cvT v13) ([]:List R4)).length (Zz (joV 2 (cvT v13) ([]:List R4)))))] (sl Ve 3 [] ⟨[],[],[some [8]],[]⟩ ⟨[],[],[]⟩ [] (pp (pp (xr v13) (pp (xI R4 0 (fun _=>[])) (xw o0))) nn)))))))
 | .h1 v11 v12 v13 v14 v15 v16=>(lb (fun k0=>(lo fun aF=>(lo fun aR=>(lo fun bV=>(lo fun cJ=>(lb (fun k1=>(lo fun o0=>(sl Ve 38 [] ⟨[3,1],[],u9t,u9u⟩ ⟨[(15,.len (v15++[((z6h (cvT l0) (Yf x1 (wr (x3 - 1)) (rd v11 (tn v14)) (rd v12 (tn v16))).a (Yf x1 (wr (x3 - 1)) (rd v11 (tn v14)) (rd v12 (tn v16))).b (Yf x1 (wr (x3 - 1)) (rd v11 (tn v14)) (rd v12 (tn v16))).c) == (x2 == 0))]).length)],[.rowed 1 (v15++[((z6h (cvT l0) (Yf x1 (wr (x3 - 1)) (rd v11 (tn v14)) (rd v12 (tn v16))).a (Yf x1 (wr (x3 - 1)) (rd v11 (tn v14)) (rd v12 (tn v16))).b (Yf x1 (wr (x3 - 1)) (rd v11 (tn v14)) (rd v12 (tn v16))).c) == (x2 == 0))]).length (Zz (v15++[((z6h (cvT l0) (Yf x1 (wr (x3 - 1)) (rd v11 (tn v14)) (rd v12 (tn v16))).a (Yf x1 (wr (x3 - 1)) (rd v11 (tn v14)) (rd v12 (tn v16))).b (Yf x1 (wr (x3 - 1)) (rd v11 (tn v14)) (rd v12 (tn v16))).c) == (x2 == 0))])),.keep],[]⟩ (trs 5 []) (pp (xL (v15.length+1) (v15++[((z6h (cvT l0) (Yf x1 (wr (x3 - 1)) (rd v11 (tn v14)) (rd v12 (tn v16))).a (Yf x1 (wr (x3 - 1)) (rd v11 (tn v14)) (rd v12 (tn v16))).b (Yf x1 (wr (x3 - 1)) (rd v11 (tn v14)) (rd v12 (tn v16))).c) == (x2 == 0))]).length) (pp (xL (v15.length+1) (v15++[((z6h (cvT l0) (Yf x1 (wr (x3 - 1)) (rd v11 (tn v14)) (rd v12 (tn v16))).a (Yf x1 (wr (x3 - 1)) (rd v11 (tn v14)) (rd v12 (tn v16))).b (Yf x1 (wr (x3 - 1)) (rd v11 (tn v14)) (rd v12 (tn v16))).c) == (x2 == 0))]).length) (pp (xS (v15.length+1) (Ze (Zz v15) 0 v15.length 1 [(.bool ((z6h (cvT l0) (Yf x1 (wr (x3 - 1)) (rd v11 (tn v14)) (rd v12 (tn v16))).a (Yf x1 (wr (x3 - 1)) (rd v11 (tn v14)) (rd v12 (tn v16))).b (Yf x1 (wr (x3 - 1)) (rd v11 (tn v14)) (rd v12 (tn v16))).c) == (x2 == 0)))]) (Zz (v15++[((z6h (cvT l0) (Yf x1 (wr (x3 - 1)) (rd v11 (tn v14)) (rd v12 (tn v16))).a (Yf x1 (wr (x3 - 1)) (rd v11 (tn v14)) (rd v12 (tn v16))).b (Yf x1 (wr (x3 - 1)) (rd v11 (tn v14)) (rd v12 (tn v16))).c) == (x2 == 0))]))) (pp (pp (xF (Ze (Zz v15) 0 v15.length 1 [(.bool ((z6h (cvT l0) (Yf x1 (wr (x3 - 1)) (rd v11 (tn v14)) (rd v12 (tn v16))).a (Yf x1 (wr (x3 - 1)) (rd v11 (tn v14)) (rd v12 (tn v16))).b (Yf x1 (wr (x3 - 1)) (rd v11 (tn v14)) (rd v12 (tn v16))).c) == (x2 == 0)))])) (fl v13 nn)) (ww o0 (tt k1 (pp (pp (xr l0) (xw cJ)) (ww bV (ww aR (pp (pp (xr l0) (xw aF)) (ww bV (ww aR (tt k0 nn)))))))))))))))) (fun k1=>(lo fun o0=>(sl Ve 38 [] ⟨[3,1],[],u9t,u9u⟩ ⟨[(15,.len (v15++[false]).length)],[.rowed 1 (v15++[false]).length (Zz (v15++[false])),.keep],[]⟩ (bl 5 1) (pp (xL (v15.length+1) (v15++[false]).length) (pp (xL (v15.length+1) (v15++[false]).length) (pp (xS (v15.length+1) (Ze (Zz v15) 0 v15.length 1 [(.bool false)]) (Zz (v15++[false]))) (pp (pp (xF (Ze (Zz v15) 0 v15.length 1 [(.bool false)])) (fl v13 nn)) (ww o0 (tt k1 (pp (pp (xr l0) (xw cJ)) (ww bV (ww aR (pp (pp (xr l0) (xw aF)) (ww bV (ww aR (tt k0 nn)))))))))))))))))))))) (fun k0=>(Wu (sl Ve (C':=⟨⟨118,0,true⟩,(Ur prog 104 [1,1,1,1,0,1,0,0,1,0,0,1,1,0] 2),(Zb prog 104 [1,1,1,1,0,1,0,0,1,0,0,1,1,0] 1),none,(Zy prog 71),⟨Ya [(0,(.dat l0.length (Zz l0))),(1,(ii x1)),(2,(ii x2)),(3,(ii x3)),(11,(.dat v11.length (Zz v11))),(12,(.dat v12.length (Zz v12))),(13,(.sla 0 4 0 v13.length (.un 4))),(14,(ii v14)),(84,(.dat v12.length (Zz v12))),(85,(.dat v15.length (Zz v15)))],Wr [⟨rows v13.length (Zz v13),88,some ⟨4,v13.length,(Zz v13)⟩⟩] 0,1,[],true⟩,[],.leaf⟩) 14 [] ⟨[1],[0],[some [0,1,2,3,11,12,13,14,84,85]],[]⟩ ⟨[(85,.frz v15.length v15.length (Zz v15) (Zz v15))],[],[]⟩ [false] (pp (xZ (z3k 1 1 0 v15.length v15.length (Zz v15)) v15.length (Zz v15)) (pp (xL v15.length v15.length) (pp (xS v15.length (Zz v15) (Zz v15)) (pp (fl v13 nn) (pp (fl v15 nn) (tt k0 nn))))))) (lo fun o0=>(sl Ve 9 [] ⟨[0],[],rfaN2,rfaM2⟩ ⟨[],[],[]⟩ [] (pp (fl v13 nn) (pp (pp (xr v12) (pp (xr v15) (xw o0))) nn)))))))
 | .h2 v11 v12 v13 v14 v19 v20=>(lb (fun k0=>(lo fun o0=>(lo fun o1=>(lo fun o2=>(lo fun o3=>(sl Ve 20 [] ⟨[2],[],rfaN2,rfaM2⟩ ⟨[(13,.len (v13++[(R4.mk (rd v11 (tn v14)) (rd v19 (tn v20)).a (rd v11 (tn (wr (v14+1)))) (rd v19 (tn v20)).b)]).length)],[.rowed 4 (v13++[(R4.mk (rd v11 (tn v14)) (rd v19 (tn v20)).a (rd v11 (tn (wr (v14+1)))) (rd v19 (tn v20)).b)]).length (Zz (v13++[(R4.mk (rd v11 (tn v14)) (rd v19 (tn v20)).a (rd v11 (tn (wr (v14+1)))) (rd v19 (tn v20)).b)]))],[]⟩ [true] (pp (xL (v13.length+1) (v13++[(R4.mk (rd v11 (tn v14)) (rd v19 (tn v20)).a (rd v11 (tn (wr (v14+1)))) (rd v19 (tn v20)).b)]).length) (pp (xL (v13.length+1) (v13++[(R4.mk (rd v11 (tn v14)) (rd v19 (tn v20)).a (rd v11 (tn (wr (v14+1)))) (rd v19 (tn v20)).b)]).length) (pp (xS (v13.length+1) (Ze (Zz v13) 0 v13.length 4 [(ii (rd v11 (tn v14))),(ii (rd v19 (tn v20)).a),(ii (rd v11 (tn (wr (v14+1))))),(ii (rd v19 (tn v20)).b)]) (Zz (v13++[(R4.mk (rd v11 (tn v14)) (rd v19 (tn v20)).a (rd v11 (tn (wr (v14+1)))) (rd v19 (tn v20)).b)]))) (pp (pp (xF (Ze (Zz v13) 0 v13.length 4 [(ii (rd v11 (tn v14))),(ii (rd v19 (tn v20)).a),(ii (rd v11 (tn (wr (v14+1))))),(ii (rd v19 (tn v20)).b)])) nn) (ww o3 (ww o2 (ww o1 (ww o2 (ww o0 (tt k0 nn)))))))))))))))) (fun k0=>(sl Ve 17 [] ⟨[0],[],v8m,v8n⟩ ⟨[],[],[]⟩ [false] (pp (fl v13 nn) (tt k0 nn)))))
theorem x7y (l0:List R6) (x1:Int) (x2:Int) (x3:Int):Ys prog (Zy prog 104) (rfaC l0 x1 x2 x3) (Za prog 104 [(.dat l0.length (Zz l0)),(.int .i64 x1),(.int .i64 x2),(.int .i64 x3)] true []) (y2o l0 x1 x2 x3):=(lb (fun k0=>(lo fun o0=>(lo fun o1=>(sl Ve 54 [(88,4,Zz ([]:List R4))] ⟨[0],[],v8m,v8n⟩ ⟨[(13,.grow 0 4)],[],[]⟩ [true] (pp (fl ([]:List R4) nn) (pp (pp (xr l0) (xw o1)) (pp (pp (xr l0) (xw o0)) (tt k0 nn)))))))) (fun k0=>(lb (fun k1=>(lo fun o0=>(lo fun o1=>(sl Ve 62 [(88,4,Zz ([]:List R4))] ⟨[0],[],v8m,v8n⟩ ⟨[(13,.grow 0 4)],[],[]⟩ [false,true] (pp (fl ([]:List R4) nn) (pp (pp (xr l0) (xw o1)) (pp (pp (xr l0) (xw o0)) (tt k1 (tt k0 nn))))))))) (fun k1=>(lo fun o0=>(lo fun o1=>(sl Ve 63 [(88,4,Zz ([]:List R4))] ⟨[0],[],v8m,v8n⟩ ⟨[(13,.grow 0 4)],[],[]⟩ [false,false] (pp (fl ([]:List R4) nn) (pp (pp (xr l0) (xw o1)) (pp (pp (xr l0) (xw o0)) (tt k1 (tt k0 nn))))))))))))
theorem v8l (l0:List R6) (x1:Int) (x2:Int) (x3:Int) (n:Nat) (vs:List AVal) (h:Zs (Jc l0 x1 x2 x3) n (y2o l0 x1 x2 x3)=.ret vs):Jw prog (Zy prog 104) (Za prog 104 [(.dat l0.length (Zz l0)),(.int .i64 x1),(.int .i64 x2),(.int .i64 x3)] true []) vs:=by have:=Zc (w5y l0 x1 x2 x3) n _ (x7y l0 x1 x2 x3);rwa [h] at this
inductive rseS where
 | h0 (v9:List Int) (v10:List Int) (v11:List R4) (v12:Int)
 | h1 (v9:List Int) (v10:List Int) (v11:List R4) (v12:Int) (v13:List Bool) (v14:Int)
 | h2 (v9:List Int) (v10:List Int) (v11:List R4) (v12:Int) (v15:List R2) (v16:Int)
def rseC (l0:List R6) (x1:Int) (x2:Int):rseS→Cfg
 | .h0 v9 v10 v11 v12=>⟨⟨91,0,true⟩,none,(Zb prog 103 [1,1,1,1,0,1,0,0] 0),none,(Zy prog 8),⟨Ya [(0,(.dat l0.length (Zz l0))),(1,(ii x1)),(2,(ii x2)),(9,(.dat v9.length (Zz v9))),(10,(.dat v10.length (Zz v10))),(11,(.sla 0 4 0 v11.length (.un 4))),(12,(ii v12))],Wr [⟨rows v11.length (Zz v11),88,some ⟨4,v11.length,(Zz v11)⟩⟩] 0,1,[],true⟩,[],.leaf⟩
 | .h1 v9 v10 v11 v12 v13 v14=>⟨⟨91,0,true⟩,none,(Zb prog 103 [1,1,1,1,0,1,0,0,1,0,0,1,0,1,0,0] 0),none,(Zy prog 8),⟨Ya [(0,(.dat l0.length (Zz l0))),(1,(ii x1)),(2,(ii x2)),(9,(.dat v9.length (Zz v9))),(10,(.dat v10.length (Zz v10))),(11,(.sla 1 4 0 v11.length (.un 4))),(12,(ii v12)),(13,(.sla 0 1 0 v13.length (.un 1))),(14,(ii v14))],Wr [⟨rows v13.length (Zz v13),4,some ⟨1,v13.length,(Zz v13)⟩⟩,⟨rows v11.length (Zz v11),88,some ⟨4,v11.length,(Zz v11)⟩⟩] 0,2,[],true⟩,[],.leaf⟩
 | .h2 v9 v10 v11 v12 v15 v16=>⟨⟨91,0,true⟩,none,(Zb prog 103 [1,1,1,1,0,1,0,0,1,0,0,1,1,1,1,0,0] 0),none,(Zy prog 8),⟨Ya [(0,(.dat l0.length (Zz l0))),(1,(ii x1)),(2,(ii x2)),(9,(.dat v9.length (Zz v9))),(10,(.dat v10.length (Zz v10))),(11,(.sla 0 4 0 v11.length (.un 4))),(12,(ii v12)),(15,(.dat v15.length (Zz v15))),(16,(ii v16))],Wr [⟨rows v11.length (Zz v11),88,some ⟨4,v11.length,(Zz v11)⟩⟩] 0,1,[],true⟩,[],.leaf⟩
def v7h :List (Option (List Nat)):=[some [0,1,2,9,10,11,12]]
def v7i :List (Option (List Nat)):=[]
def rseN1 :List (Option (List Nat)):=[some [0,1,2,9,10,11,12,13,14]]
def rseM1 :List (Option (List Nat)):=[]
def rseN2 :List (Option (List Nat)):=[some [0,1,2,9,10,11,12,15,16]]
def rseM2 :List (Option (List Nat)):=[]
def Jb (l0:List R6) (x1:Int) (x2:Int):rseS→Xv rseS
 | .h0 v9 v10 v11 v12=>(bif (decide ((wrap .i64 (v12+1))<(v9.length:Int))) then (.to (.h1 v9 v10 v11 v12 ([]:List Bool) 0)) else (bif (Jg 2 (cvT v11) ([]:List R4)) then (.ret [(.dat (joV 2 (cvT v11) ([]:List R4)).length (Zz (joV 2 (cvT v11) ([]:List R4))))]) else .stuck))
 | .h1 v9 v10 v11 v12 v13 v14=>(bif (decide (v14<(v10.length:Int))) then (bif ((decide (0≤v12∧v12<(v9.length:Int)))&&true) then (bif ((decide (0≤v14∧v14<(v10.length:Int)))&&true) then (bif (Vi (cvT l0) (Yf x1 x2 (rd v9 v12.toNat) (rd v10 v14.toNat)).a (Yf x1 x2 (rd v9 v12.toNat) (rd v10 v14.toNat)).b (Yf x1 x2 (rd v9 v12.toNat) (rd v10 v14.toNat)).c) then (bif (Nat.beq 1 1&&((decide (0+v13.length=v13.length))&&decide ((v13.length+1+1)*(1+1)≤Uj))) then (.to (.h1 v9 v10 v11 v12 (v13++[(z6h (cvT l0) (Yf x1 x2 (rd v9 v12.toNat) (rd v10 v14.toNat)).a (Yf x1 x2 (rd v9 v12.toNat) (rd v10 v14.toNat)).b (Yf x1 x2 (rd v9 v12.toNat) (rd v10 v14.toNat)).c)]) (wrap .i64 (v14+1)))) else .stuck) else .stuck) else .stuck) else .stuck) else (bif (Qv (cvT v10) (cvT v13)) then (.to (.h2 v9 v10 v11 v12 (z1m (cvT v10) (cvT v13)) 0)) else .stuck))
 | .h2 v9 v10 v11 v12 v15 v16=>(bif (decide (v16<(v15.length:Int))) then (bif ((decide (0≤v12∧v12<(v9.length:Int)))&&true) then (bif ((decide (0≤(wrap .i64 (v12+1))∧(wrap .i64 (v12+1))<(v9.length:Int)))&&true) then (bif ((decide (0≤v16∧v16<(v15.length:Int)))&&true) then (bif (Nat.beq 4 4&&((decide (0+v11.length=v11.length))&&decide ((v11.length+1+1)*(32+1)≤Uj))) then (.to (.h2 v9 v10 (v11++[(R4.mk (rd v9 v12.toNat) (rd v15 v16.toNat).a (rd v9 (Int.toNat (wrap .i64 (v12+1)))) (rd v15 v16.toNat).b)]) v12 v15 (wrap .i64 (v16+1)))) else .stuck) else .stuck) else .stuck) else .stuck) else (.to (.h0 v9 v10 v11 (wrap .i64 (v12+1)))))
def y2e (l0:List R6) (x1:Int) (x2:Int):Xv rseS:=(bif (x1 == 0) then (bif (Yd (cvT l0) 1) then (bif (Yd (cvT l0) 2) then (.to (.h0 (Kq (cvT l0) 1) (Kq (cvT l0) 2) ([]:List R4) 0)) else .stuck) else .stuck) else (bif (x1 == 1) then (bif (Yd (cvT l0) 0) then (bif (Yd (cvT l0) 2) then (.to (.h0 (Kq (cvT l0) 0) (Kq (cvT l0) 2) ([]:List R4) 0)) else .stuck) else .stuck) else (bif (Yd (cvT l0) 0) then (bif (Yd (cvT l0) 1) then (.to (.h0 (Kq (cvT l0) 0) (Kq (cvT l0) 1) ([]:List R4) 0)) else .stuck) else .stuck)))
theorem w5m (l0:List R6) (x1:Int) (x2:Int): ∀s,Ys prog (Zy prog 103) (rseC l0 x1 x2) (rseC l0 x1 x2 s) (Jb l0 x1 x2 s)
 | .h0 v9 v10 v11 v12=>(lb (fun k0=>(sl Ve 24 [(4,1,Zz ([]:List Bool))] ⟨[1,0],[],rseN1,rseM1⟩ ⟨[(13,.grow 0 1)],[],[]⟩ [true] (pp (fl ([]:List Bool) (fl v11 nn)) (tt k0 nn)))) (fun k0=>(Wu (sl Ve (C':=⟨⟨91,0,true⟩,(Ur prog 103 [1,1,1,1,1,0] 1),(Zb prog 103 [1,1,1,1,1,0] 1),none,(Zy prog 8),⟨Ya [(89,(.dat v11.length (Zz v11)))],Wr [] 0,0,[],true⟩,[],.leaf⟩) 14 [] ⟨[],[0],[some [89]],[]⟩ ⟨[(89,.frz v11.length v11.length (Zz v11) (Zz v11))],[],[]⟩ [false] (pp (xZ (z3k 4 4 0 v11.length v11.length (Zz v11)) v11.length (Zz v11)) (pp (xL v11.length v11.length) (pp (xS v11.length (Zz v11) (Zz v11)) (pp (fl v11 nn) (tt k0 nn)))))) (lo fun o0=>(lr 91 3 [1,1,1,1,1,1,1,0] 1 8 [(6,(.dat (joV 2 (cvT v11) ([]:List R4)).length (Zz (joV 2 (cvT v11) ([]:List R4)))))] (sl Ve 3 [] ⟨[],[],[some [6]],[]⟩ ⟨[],[],[]⟩ [] (pp (pp (xr v11) (pp (xI R4 0 (fun _=>[])) (xw o0))) nn)))))))
 | .h1 v9 v10 v11 v12 v13 v14=>(lb (fun k0=>(lo fun o0=>(lo fun o1=>(lo fun o2=>(lo fun o3=>(sl Ve 20 [] ⟨[3,1],[],rseN1,rseM1⟩ ⟨[(13,.len (v13++[(z6h (cvT l0) (Yf x1 x2 (rd v9 (tn v12)) (rd v10 (tn v14))).a (Yf x1 x2 (rd v9 (tn v12)) (rd v10 (tn v14))).b (Yf x1 x2 (rd v9 (tn v12)) (rd v10 (tn v14))).c)]).length)],[.rowed 1 (v13++[(z6h (cvT l0) (Yf x1 x2 (rd v9 (tn v12)) (rd v10 (tn v14))).a (Yf x1 x2 (rd v9 (tn v12)) (rd v10 (tn v14))).b (Yf x1 x2 (rd v9 (tn v12)) (rd v10 (tn v14))).c)]).length (Zz (v13++[(z6h (cvT l0) (Yf x1 x2 (rd v9 (tn v12)) (rd v10 (tn v14))).a (Yf x1 x2 (rd v9 (tn v12)) (rd v10 (tn v14))).b (Yf x1 x2 (rd v9 (tn v12)) (rd v10 (tn v14))).c)])),.keep],[]⟩ [true] (pp (xL (v13.length+1) (v13++[(z6h (cvT l0) (Yf x1 x2 (rd v9 (tn v12)) (rd v10 (tn v14))).a (Yf x1 x2 (rd v9 (tn v12)) (rd v10 (tn v14))).b (Yf x1 x2 (rd v9 (tn v12)) (rd v10 (tn v14))).c)]).length) (pp (xL (v13.length+1) (v13++[(z6h (cvT l0) (Yf x1 x2 (rd v9 (tn v12)) (rd v10 (tn v14))).a (Yf x1 x2 (rd v9 (tn v12)) (rd v10 (tn v14))).b (Yf x1 x2 (rd v9 (tn v12)) (rd v10 (tn v14))).c)]).length) (pp (xS (v13.length+1) (Ze (Zz v13) 0 v13.length 1 [(.bool (z6h (cvT l0) (Yf x1 x2 (rd v9 (tn v12)) (rd v10 (tn v14))).a (Yf x1 x2 (rd v9 (tn v12)) (rd v10 (tn v14))).b (Yf x1 x2 (rd v9 (tn v12)) (rd v10 (tn v14))).c))]) (Zz (v13++[(z6h (cvT l0) (Yf x1 x2 (rd v9 (tn v12)) (rd v10 (tn v14))).a (Yf x1 x2 (rd v9 (tn v12)) (rd v10 (tn v14))).b (Yf x1 x2 (rd v9 (tn v12)) (rd v10 (tn v14))).c)]))) (pp (pp (xF (Ze (Zz v13) 0 v13.length 1 [(.bool (z6h (cvT l0) (Yf x1 x2 (rd v9 (tn v12)) (rd v10 (tn v14))).a (Yf x1 x2 (rd v9 (tn v12)) (rd v10 (tn v14))).b (Yf x1 x2 (rd v9 (tn v12)) (rd v10 (tn v14))).c))])) (fl v11 nn)) (ww o3 (pp (pp (xr l0) (xw o2)) (ww o1 (ww o0 (tt k0 nn))))))))))))))) (fun k0=>(Wu (sl Ve (C':=⟨⟨91,0,true⟩,(Ur prog 103 [1,1,1,1,0,1,0,0,1,0,0,1,1,0] 2),(Zb prog 103 [1,1,1,1,0,1,0,0,1,0,0,1,1,0] 1),none,(Zy prog 8),⟨Ya [(0,(.dat l0.length (Zz l0))),(1,(ii x1)),(2,(ii x2)),(9,(.dat v9.length (Zz v9))),(10,(.dat v10.length (Zz v10))),(11,(.sla 0 4 0 v11.length (.un 4))),(12,(ii v12)),(57,(.dat v10.length (Zz v10))),(58,(.dat v13.length (Zz v13)))],Wr [⟨rows v11.length (Zz v11),88,some ⟨4,v11.length,(Zz v11)⟩⟩] 0,1,[],true⟩,[],.leaf⟩) 14 [] ⟨[1],[0],[some [0,1,2,9,10,11,12,57,58]],[]⟩ ⟨[(58,.frz v13.length v13.length (Zz v13) (Zz v13))],[],[]⟩ [false] (pp (xZ (z3k 1 1 0 v13.length v13.length (Zz v13)) v13.length (Zz v13)) (pp (xL v13.length v13.length) (pp (xS v13.length (Zz v13) (Zz v13)) (pp (fl v11 nn) (pp (fl v13 nn) (tt k0 nn))))))) (lo fun o0=>(sl Ve 9 [] ⟨[0],[],rseN2,rseM2⟩ ⟨[],[],[]⟩ [] (pp (fl v11 nn) (pp (pp (xr v10) (pp (xr v13) (xw o0))) nn)))))))
 | .h2 v9 v10 v11 v12 v15 v16=>(lb (fun k0=>(lo fun o0=>(lo fun o1=>(lo fun o2=>(lo fun o3=>(sl Ve 20 [] ⟨[2],[],rseN2,rseM2⟩ ⟨[(11,.len (v11++[(R4.mk (rd v9 (tn v12)) (rd v15 (tn v16)).a (rd v9 (tn (wr (v12+1)))) (rd v15 (tn v16)).b)]).length)],[.rowed 4 (v11++[(R4.mk (rd v9 (tn v12)) (rd v15 (tn v16)).a (rd v9 (tn (wr (v12+1)))) (rd v15 (tn v16)).b)]).length (Zz (v11++[(R4.mk (rd v9 (tn v12)) (rd v15 (tn v16)).a (rd v9 (tn (wr (v12+1)))) (rd v15 (tn v16)).b)]))],[]⟩ [true] (pp (xL (v11.length+1) (v11++[(R4.mk (rd v9 (tn v12)) (rd v15 (tn v16)).a (rd v9 (tn (wr (v12+1)))) (rd v15 (tn v16)).b)]).length) (pp (xL (v11.length+1) (v11++[(R4.mk (rd v9 (tn v12)) (rd v15 (tn v16)).a (rd v9 (tn (wr (v12+1)))) (rd v15 (tn v16)).b)]).length) (pp (xS (v11.length+1) (Ze (Zz v11) 0 v11.length 4 [(ii (rd v9 (tn v12))),(ii (rd v15 (tn v16)).a),(ii (rd v9 (tn (wr (v12+1))))),(ii (rd v15 (tn v16)).b)]) (Zz (v11++[(R4.mk (rd v9 (tn v12)) (rd v15 (tn v16)).a (rd v9 (tn (wr (v12+1)))) (rd v15 (tn v16)).b)]))) (pp (pp (xF (Ze (Zz v11) 0 v11.length 4 [(ii (rd v9 (tn v12))),(ii (rd v15 (tn v16)).a),(ii (rd v9 (tn (wr (v12+1))))),(ii (rd v15 (tn v16)).b)])) nn) (ww o3 (ww o2 (ww o1 (ww o2 (ww o0 (tt k0 nn)))))))))))))))) (fun k0=>(sl Ve 17 [] ⟨[0],[],v7h,v7i⟩ ⟨[],[],[]⟩ [false] (pp (fl v11 nn) (tt k0 nn)))))
theorem x7d (l0:List R6) (x1:Int) (x2:Int):Ys prog (Zy prog 103) (rseC l0 x1 x2) (Za prog 103 [(.dat l0.length (Zz l0)),(.int .i64 x1),(.int .i64 x2)] true []) (y2e l0 x1 x2):=(lb (fun k0=>(lo fun o0=>(lo fun o1=>(sl Ve 54 [(88,4,Zz ([]:List R4))] ⟨[0],[],v7h,v7i⟩ ⟨[(11,.grow 0 4)],[],[]⟩ [true] (pp (fl ([]:List R4) nn) (pp (pp (xr l0) (xw o1)) (pp (pp (xr l0) (xw o0)) (tt k0 nn)))))))) (fun k0=>(lb (fun k1=>(lo fun o0=>(lo fun o1=>(sl Ve 62 [(88,4,Zz ([]:List R4))] ⟨[0],[],v7h,v7i⟩ ⟨[(11,.grow 0 4)],[],[]⟩ [false,true] (pp (fl ([]:List R4) nn) (pp (pp (xr l0) (xw o1)) (pp (pp (xr l0) (xw o0)) (tt k1 (tt k0 nn))))))))) (fun k1=>(lo fun o0=>(lo fun o1=>(sl Ve 63 [(88,4,Zz ([]:List R4))] ⟨[0],[],v7h,v7i⟩ ⟨[(11,.grow 0 4)],[],[]⟩ [false,false] (pp (fl ([]:List R4) nn) (pp (pp (xr l0) (xw o1)) (pp (pp (xr l0) (xw o0)) (tt k1 (tt k0 nn))))))))))))
theorem v7f (l0:List R6) (x1:Int) (x2:Int) (n:Nat) (vs:List AVal) (h:Zs (Jb l0 x1 x2) n (y2e l0 x1 x2)=.ret vs):Jw prog (Zy prog 103) (Za prog 103 [(.dat l0.length (Zz l0)),(.int .i64 x1),(.int .i64 x2)] true []) vs:=by have:=Zc (w5m l0 x1 x2) n _ (x7d l0 x1 x2);rwa [h] at this
def z0f (xs ys:List Int) (P:Int→Int→Bool):Nat→Nat→List R4
 | 0,_=>[]
 | k+1,i=>(z1m ys (ys.map (P (rd xs i)))).map (fun s=>⟨rd xs i,s.a,rd xs (i+1),s.b⟩)++z0f xs ys P k (i+1)
def uX (L:List R6) (i:Int):List Int:=bif i == 0 then Kq L 1 else Kq L 0
def uY (L:List R6) (i:Int):List Int:=bif i == 0 then Kq L 2 else bif i == 1 then Kq L 2 else Kq L 1
def pU (L:List R6) (i a x y:Int):Bool:=z6h L (Yf i a x y).a (Yf i a x y).b (Yf i a x y).c
theorem y5w (L:List R6) (i:Int):(Kq L i).length ≤2*L.length:=by have h:=Wy (u1f L i);have hn:=z6s L i;have:=z7z (Kq L i) (u1f L i) (h.1.imp fun {a b} k=>by omega) fun x hx=>(h.2 x).1 hx;omega
theorem w1k (L:List R6) (i:Int):(uX L i).length ≤2*L.length:=by unfold uX;cases i == 0 <;> exact y5w _ _
theorem w1j (L:List R6) (i:Int):(uY L i).length ≤2*L.length:=by unfold uY;cases i == 0 <;> cases i == 1 <;> exact y5w _ _
def x5x (L:List R6) (a s p:Int) (x y:Int):Bool:= !(pU L a (wrap .i64 (p - 1)) x y == pU L a p x y)&&(pU L a (wrap .i64 (p - 1)) x y == (s == 0))
def x0o (L:List R6) (a:Int) (s:Int) (p:Int):List R4:=joV 2 (z0f (uX L a) (uY L a) (x5x L a s p) ((uX L a).length - 1) 0) []
def z0h (L:List R6) (a:Int) (s:Int) (p:Int):Bool:=decide (L.length≤12)
theorem u4o (L:List R6) (a:Int) (s:Int) (p:Int) (xs ys:List Int) (hx:xs.length≤24) (i:Nat) (hi:i+1<xs.length) (S:List R2) (hS:S.length≤24): ∀(k j:Nat) (out:List R4),j+k=S.length→out.length≤1000+j→
  ∃n,∀N,Zs (Jc L a s p) (N+n) (.to (.h2 xs ys out (i:Int) S (j:Int)))=Zs (Jc L a s p) N (.to (.h0 xs ys (out++(S.drop j).map fun s=>⟨rd xs i,s.a,rd xs (i+1),s.b⟩) ((i+1:Nat):Int)))
 | 0,j,out,h,ho=>by refine ⟨1,fun N=> ?_⟩;rw [Zv,Ar (by omega),A5,AB];simp (disch:=omega) only [Jc,Yz,Zk,Zx,Aa]
 | k+1,j,out,h,ho=>by
  have hj:j<S.length:=by omega
  obtain ⟨n,hn⟩:=u4o L a s p xs ys hx i hi S hS k (j+1) (out++[⟨rd xs i,(rd S j).a,rd xs (i+1),(rd S j).b⟩]) (by omega) (by rw [Ay];simp only [AV,Bp];omega);refine ⟨n+1,fun N=> ?_⟩;have hn:=hn N;rw [←AC,Zv,Yx hj,AW];rw [AH] at hn;refine Eq.trans ?_ hn
  congr 1
  have m1:decide (0+out.length=out.length)=true:=Ag (by omega);have b4:Nat.beq 4 4=true:=rfl;have w1:wrap .i64 ((i:Int)+1)=((i+1:Nat):Int):=by rw [Zk (by omega)];rfl
  have g1:decide (0≤((i+1:Nat):Int)∧((i+1:Nat):Int)<(xs.length:Int))=true:=Ag (by omega);have g2:decide (0≤(i:Int)∧(i:Int)<(xs.length:Int))=true:=Ag (by omega);simp (disch:=omega) only [Jc,Zo,Zr,Zf,Zk,Zx,w1,g1,g2,Zj,m1,b4,Ai,Al,Ab]
theorem u4p (L:List R6) (hl:L.length≤12) (a:Int) (s:Int) (p:Int) (xs ys:List Int) (hx:xs.length≤24) (hy:ys.length≤24) (i:Nat) (hi:i+1<xs.length) (out:List R4): ∀(k j:Nat) (acc:List Bool),j+k=ys.length→acc=(ys.take j).map (x5x L a s p (rd xs i))→
  ∃n,∀N,Zs (Jc L a s p) (N+n) (.to (.h1 xs ys out (i:Int) acc (j:Int)))=Zs (Jc L a s p) N (.to (.h2 xs ys out (i:Int) (z1m ys (ys.map (x5x L a s p (rd xs i)))) 0))
 | 0,j,acc,h,ha=>by
  refine ⟨1,fun N=> ?_⟩;have:j=ys.length:=by omega
  subst this;rw [Cu] at ha;subst ha;have o:Qv ys (ys.map (x5x L a s p (rd xs i)))=true:=Ag ⟨by omega,by rw [AT];omega⟩;rw [Zv];simp (disch:=omega) only [Jc,Zm,Yz,o,Ab,Aa]
 | k+1,j,acc,h,ha=>by
  have hj:j<ys.length:=by omega
  have eX:acc.length=j:=by rw [ha,AT,Bc];omega
  obtain ⟨n,hn⟩:=u4p L hl a s p xs ys hx hy i hi out k (j+1) (acc++[x5x L a s p (rd xs i) (rd ys j)]) (by omega) (by
   rw [ha,Ba,Aq hj,Be,Yo hj];rfl)
  refine ⟨n+1,fun N=> ?_⟩;have hn:=hn N;rw [←AC,Zv,←hn]
  congr 1
  have m1:decide (0+acc.length=acc.length)=true:=Ag (by omega);have b1:Nat.beq 1 1=true:=rfl;have g2:decide (0≤(i:Int)∧(i:Int)<(xs.length:Int))=true:=Ag (by omega);have o: ∀x y z,Vi L x y z=true:=fun x y z=>Ag (by omega);have ep: ∀i a x y,z6h L (Yf i a x y).a (Yf i a x y).b (Yf i a x y).c =pU L i a x y:=fun _ _ _ _=>rfl;unfold x5x;simp (disch:=omega) only [Jc,Zm,Zo,Zr,Zf,Zk,Zx,g2,Zj,m1,b1,o,ep,Ai,Al,Ab];rcases Ym (pU L a (wrap .i64 (p - 1)) (rd xs i) (rd ys j) == pU L a p (rd xs i) (rd ys j)) with e | e <;> rw [e] <;> rfl
theorem u4q (L:List R6) (hl:L.length≤12) (a:Int) (s:Int) (p:Int) (xs ys:List Int) (hx:xs.length≤24) (hy:ys.length≤24): ∀(k i:Nat) (out:List R4),k=xs.length - 1 - i→out.length≤24*i→i≤24→
  ∃n,Zs (Jc L a s p) n (.to (.h0 xs ys out (i:Int)))=.ret [.dat (joV 2 (out++z0f xs ys (x5x L a s p) k i) []).length (Zz (joV 2 (out++z0f xs ys (x5x L a s p) k i) []))]
 | 0,i,out,h,ho,h24=>by
  refine ⟨1,?_⟩;rw [Zv];show _=Xv.ret [.dat (joV 2 (out++[]) []).length (Zz (joV 2 (out++[]) []))];rw [AB];have o:Jg 2 out []=true:=Ag ⟨by omega,by simp⟩;have w1:wrap .i64 ((i:Int)+1)=((i+1:Nat):Int):=by rw [Zk (by omega)];rfl
  have g1:decide (((i+1:Nat):Int)<(xs.length:Int))=false:=Au (by omega);simp only [Jc,Zm,w1,g1,o,Ab,Aa,Zp]
 | k+1,i,out,h,ho,h24=>by
  have hi:i+1<xs.length:=by omega
  have hc:=z0k ys (ys.map (x5x L a s p (rd xs i)));obtain ⟨n,hn⟩:=u4q L hl a s p xs ys hx hy k (i+1) (out++(z1m ys (ys.map (x5x L a s p (rd xs i)))).map fun s=>⟨rd xs i,s.a,rd xs (i+1),s.b⟩) (by omega) (by rw [Ay,AT];omega) (by omega);obtain ⟨m,hm⟩:=u4p L hl a s p xs ys hx hy i hi out ys.length 0 [] (Ah _) rfl;obtain ⟨r,hr⟩:=u4o L a s p xs ys hx i hi (z1m ys (ys.map (x5x L a s p (rd xs i)))) (by omega) (z1m ys (ys.map (x5x L a s p (rd xs i)))).length 0 out (Ah _) (by omega);refine ⟨n+r+m+1,?_⟩;have hm:=hm (n+r);have hr:=hr n;rw [Kb] at hm hr;rw [Zv];have w1:wrap .i64 ((i:Int)+1)=((i+1:Nat):Int):=by rw [Zk (by omega)];rfl
  have g1:decide (((i+1:Nat):Int)<(xs.length:Int))=true:=Ag (by omega);have hs:Jc L a s p (.h0 xs ys out (i:Int))=.to (.h1 xs ys out (i:Int) [] 0):=by simp only [Jc,w1,g1,Ab]
  rw [hs,hm,hr,AX];show _=Xv.ret [.dat (joV 2 (out++(_++z0f xs ys (x5x L a s p) k (i+1))) []).length (Zz (joV 2 (out++(_++z0f xs ys (x5x L a s p) k (i+1))) []))];rw [←AH];exact hn
theorem u9s (L:List R6) (a:Int) (s:Int) (p:Int) (h:z0h L a s p=true): ∃n,Zs (Jc L a s p) n (y2o L a s p)=.ret [.dat (x0o L a s p).length (Zz (x0o L a s p))]:=by
 have hl:L.length≤12:=AA h;have h1:=w1k L a;have h2:=w1j L a;obtain ⟨n,hn⟩:=u4q L hl a s p (uX L a) (uY L a) (by omega) (by omega) _ 0 [] rfl (AD _) (by omega);refine ⟨n,?_⟩;rw [Bg] at hn;refine Eq.trans ?_ hn;have o: ∀i,Yd L i=true:=fun i=>Ag (by omega)
 congr 1
 unfold y2o uX uY;simp only [Zm,o,Ab];cases a == 0 <;> cases a == 1 <;> rfl
def fRfa :List AVal→Option (AVal×Bool)
 | [a0,.int .i64 x1,.int .i64 x2,.int .i64 x3]=>match asL R6 a0 with
  | some (L0,g0,n0)=>some (.dat (x0o L0 x1 x2 x3).length (Zz (x0o L0 x1 x2 x3)),isT R6 n0 g0&&(z0h L0 x1 x2 x3))
  | _=>none
 | _=>none
theorem j2l {S:Specs} (hS:Zu prog S):Zu prog (S.with nRfa fRfa):=by
 refine z0o hS (by kernel_rfl) fun args v h=> ?_;unfold fRfa at h;split at h
 ·rename_i a0 x1 x2 x3;split at h
  ·rename_i L0 g0 n0 e0;simp only [Ae,Ad,Ac] at h;obtain ⟨rfl,ho0,hw⟩:=h;obtain ⟨N,hN⟩:=u9s L0 x1 x2 x3 hw;exact ⟨_,_,(.cons (asL_le e0 ho0) (.cons (.refl _) (.cons (.refl _) (.cons (.refl _) .nil)))),rfl,v8l L0 x1 x2 x3 N _ hN,3,rfl⟩
  ·cases h
 ·cases h
def w1v (L:List R6) (a p:Int) (x y:Int):Bool:=pU L a p x y
def v7g (L:List R6) (a:Int) (p:Int):List R4:=joV 2 (z0f (uX L a) (uY L a) (w1v L a p) ((uX L a).length - 1) 0) []
def z7e (L:List R6) (a:Int) (p:Int):Bool:=decide (L.length≤12)
theorem u3j (L:List R6) (a:Int) (p:Int) (xs ys:List Int) (hx:xs.length≤24) (i:Nat) (hi:i+1<xs.length) (S:List R2) (hS:S.length≤24): ∀(k j:Nat) (out:List R4),j+k=S.length→out.length≤1000+j→
  ∃n,∀N,Zs (Jb L a p) (N+n) (.to (.h2 xs ys out (i:Int) S (j:Int)))=Zs (Jb L a p) N (.to (.h0 xs ys (out++(S.drop j).map fun s=>⟨rd xs i,s.a,rd xs (i+1),s.b⟩) ((i+1:Nat):Int)))
 | 0,j,out,h,ho=>by refine ⟨1,fun N=> ?_⟩;rw [Zv,Ar (by omega),A5,AB];simp (disch:=omega) only [Jb,Yz,Zk,Zx,Aa]
 | k+1,j,out,h,ho=>by
  have hj:j<S.length:=by omega
  obtain ⟨n,hn⟩:=u3j L a p xs ys hx i hi S hS k (j+1) (out++[⟨rd xs i,(rd S j).a,rd xs (i+1),(rd S j).b⟩]) (by omega) (by rw [Ay];simp only [AV,Bp];omega);refine ⟨n+1,fun N=> ?_⟩;have hn:=hn N;rw [←AC,Zv,Yx hj,AW];rw [AH] at hn;refine Eq.trans ?_ hn
  congr 1
  have m1:decide (0+out.length=out.length)=true:=Ag (by omega);have b4:Nat.beq 4 4=true:=rfl;have w1:wrap .i64 ((i:Int)+1)=((i+1:Nat):Int):=by rw [Zk (by omega)];rfl
  have g1:decide (0≤((i+1:Nat):Int)∧((i+1:Nat):Int)<(xs.length:Int))=true:=Ag (by omega);have g2:decide (0≤(i:Int)∧(i:Int)<(xs.length:Int))=true:=Ag (by omega);simp (disch:=omega) only [Jb,Zo,Zr,Zf,Zk,Zx,w1,g1,g2,Zj,m1,b4,Ai,Al,Ab]
theorem u3k (L:List R6) (hl:L.length≤12) (a:Int) (p:Int) (xs ys:List Int) (hx:xs.length≤24) (hy:ys.length≤24) (i:Nat) (hi:i+1<xs.length) (out:List R4): ∀(k j:Nat) (acc:List Bool),j+k=ys.length→acc=(ys.take j).map (w1v L a p (rd xs i))→
  ∃n,∀N,Zs (Jb L a p) (N+n) (.to (.h1 xs ys out (i:Int) acc (j:Int)))=Zs (Jb L a p) N (.to (.h2 xs ys out (i:Int) (z1m ys (ys.map (w1v L a p (rd xs i)))) 0))
 | 0,j,acc,h,ha=>by
  refine ⟨1,fun N=> ?_⟩;have:j=ys.length:=by omega
  subst this;rw [Cu] at ha;subst ha;have o:Qv ys (ys.map (w1v L a p (rd xs i)))=true:=Ag ⟨by omega,by rw [AT];omega⟩;rw [Zv];simp (disch:=omega) only [Jb,Zm,Yz,o,Ab,Aa]
 | k+1,j,acc,h,ha=>by
  have hj:j<ys.length:=by omega
  have eX:acc.length=j:=by rw [ha,AT,Bc];omega
  obtain ⟨n,hn⟩:=u3k L hl a p xs ys hx hy i hi out k (j+1) (acc++[w1v L a p (rd xs i) (rd ys j)]) (by omega) (by
   rw [ha,Ba,Aq hj,Be,Yo hj];rfl)
  refine ⟨n+1,fun N=> ?_⟩;have hn:=hn N;rw [←AC,Zv,←hn]
  congr 1
  have m1:decide (0+acc.length=acc.length)=true:=Ag (by omega);have b1:Nat.beq 1 1=true:=rfl;have g2:decide (0≤(i:Int)∧(i:Int)<(xs.length:Int))=true:=Ag (by omega);have o: ∀x y z,Vi L x y z=true:=fun x y z=>Ag (by omega);simp (disch:=omega) only [Jb,Zm,Zo,Zr,Zf,Zk,Zx,g2,Zj,m1,b1,o,Ai,Al,Ab];rfl
theorem u3l (L:List R6) (hl:L.length≤12) (a:Int) (p:Int) (xs ys:List Int) (hx:xs.length≤24) (hy:ys.length≤24): ∀(k i:Nat) (out:List R4),k=xs.length - 1 - i→out.length≤24*i→i≤24→
  ∃n,Zs (Jb L a p) n (.to (.h0 xs ys out (i:Int)))=.ret [.dat (joV 2 (out++z0f xs ys (w1v L a p) k i) []).length (Zz (joV 2 (out++z0f xs ys (w1v L a p) k i) []))]
 | 0,i,out,h,ho,h24=>by
  refine ⟨1,?_⟩;rw [Zv];show _=Xv.ret [.dat (joV 2 (out++[]) []).length (Zz (joV 2 (out++[]) []))];rw [AB];have o:Jg 2 out []=true:=Ag ⟨by omega,by simp⟩;have w1:wrap .i64 ((i:Int)+1)=((i+1:Nat):Int):=by rw [Zk (by omega)];rfl
  have g1:decide (((i+1:Nat):Int)<(xs.length:Int))=false:=Au (by omega);simp only [Jb,Zm,w1,g1,o,Ab,Aa,Zp]
 | k+1,i,out,h,ho,h24=>by
  have hi:i+1<xs.length:=by omega
  have hc:=z0k ys (ys.map (w1v L a p (rd xs i)));obtain ⟨n,hn⟩:=u3l L hl a p xs ys hx hy k (i+1) (out++(z1m ys (ys.map (w1v L a p (rd xs i)))).map fun s=>⟨rd xs i,s.a,rd xs (i+1),s.b⟩) (by omega) (by rw [Ay,AT];omega) (by omega);obtain ⟨m,hm⟩:=u3k L hl a p xs ys hx hy i hi out ys.length 0 [] (Ah _) rfl;obtain ⟨r,hr⟩:=u3j L a p xs ys hx i hi (z1m ys (ys.map (w1v L a p (rd xs i)))) (by omega) (z1m ys (ys.map (w1v L a p (rd xs i)))).length 0 out (Ah _) (by omega);refine ⟨n+r+m+1,?_⟩;have hm:=hm (n+r);have hr:=hr n;rw [Kb] at hm hr;rw [Zv];have w1:wrap .i64 ((i:Int)+1)=((i+1:Nat):Int):=by rw [Zk (by omega)];rfl
  have g1:decide (((i+1:Nat):Int)<(xs.length:Int))=true:=Ag (by omega);have hs:Jb L a p (.h0 xs ys out (i:Int))=.to (.h1 xs ys out (i:Int) [] 0):=by simp only [Jb,w1,g1,Ab]
  rw [hs,hm,hr,AX];show _=Xv.ret [.dat (joV 2 (out++(_++z0f xs ys (w1v L a p) k (i+1))) []).length (Zz (joV 2 (out++(_++z0f xs ys (w1v L a p) k (i+1))) []))];rw [←AH];exact hn
theorem u8v (L:List R6) (a:Int) (p:Int) (h:z7e L a p=true): ∃n,Zs (Jb L a p) n (y2e L a p)=.ret [.dat (v7g L a p).length (Zz (v7g L a p))]:=by
 have hl:L.length≤12:=AA h;have h1:=w1k L a;have h2:=w1j L a;obtain ⟨n,hn⟩:=u3l L hl a p (uX L a) (uY L a) (by omega) (by omega) _ 0 [] rfl (AD _) (by omega);refine ⟨n,?_⟩;rw [Bg] at hn;refine Eq.trans ?_ hn;have o: ∀i,Yd L i=true:=fun i=>Ag (by omega)
 congr 1
 unfold y2e uX uY;simp only [Zm,o,Ab];cases a == 0 <;> cases a == 1 <;> rfl
def fRse :List AVal→Option (AVal×Bool)
 | [a0,.int .i64 x1,.int .i64 x2]=>match asL R6 a0 with
  | some (L0,g0,n0)=>some (.dat (v7g L0 x1 x2).length (Zz (v7g L0 x1 x2)),isT R6 n0 g0&&(z7e L0 x1 x2))
  | _=>none
 | _=>none
theorem j2d {S:Specs} (hS:Zu prog S):Zu prog (S.with nRse fRse):=by
 refine z0o hS (by kernel_rfl) fun args v h=> ?_;unfold fRse at h;split at h
 ·rename_i a0 x1 x2;split at h
  ·rename_i L0 g0 n0 e0;simp only [Ae,Ad,Ac] at h;obtain ⟨rfl,ho0,hw⟩:=h;obtain ⟨N,hN⟩:=u8v L0 x1 x2 hw;exact ⟨_,_,(.cons (asL_le e0 ho0) (.cons (.refl _) (.cons (.refl _) .nil))),rfl,v7f L0 x1 x2 N _ hN,3,rfl⟩
  ·cases h
 ·cases h
def Pc :Specs:=(Pb.with nRfa fRfa).with nRse fRse
theorem z5l :Zu prog Pc:=j2d (j2l Ve)
inductive rpiS where
 | h0 (v4:Int) (v5:Int)
 | h1 (v4:Int) (v5:Int) (v8:List Int) (v9:List Int) (v10:List Int) (v11:Int)
 | h2 (v4:Int) (v5:Int) (v8:List Int) (v9:List Int) (v10:List Int) (v11:Int) (v12:Int)
 | h3 (v4:Int) (v5:Int) (v8:List Int) (v9:List Int) (v10:List Int) (v11:Int) (v12:Int) (v13:Int)
def rpiC (l0:List R6):rpiS→Cfg
 | .h0 v4 v5=>⟨⟨140,0,true⟩,none,(Zb prog 18 [1,1,1,0,1,0,0] 0),none,(Zy prog 15),⟨Ya [(0,(.dat l0.length (Zz l0))),(4,(ii v4)),(5,(ii v5))],Wr [] 0,0,[],true⟩,[],.leaf⟩
 | .h1 v4 v5 v8 v9 v10 v11=>⟨⟨140,0,true⟩,none,(Zb prog 18 [1,1,1,0,1,0,0,1,0,0,1,1,1,0,0] 0),none,(Zy prog 15),⟨Ya [(0,(.dat l0.length (Zz l0))),(4,(ii v4)),(5,(ii v5)),(8,(.dat v8.length (Zz v8))),(9,(.dat v9.length (Zz v9))),(10,(.dat v10.length (Zz v10))),(11,(ii v11))],Wr [] 0,0,[],true⟩,[],.leaf⟩
 | .h2 v4 v5 v8 v9 v10 v11 v12=>⟨⟨140,0,true⟩,none,(Zb prog 18 [1,1,1,0,1,0,0,1,0,0,1,1,1,0,0,1,0,0,1,0,0] 0),none,(Zy prog 15),⟨Ya [(0,(.dat l0.length (Zz l0))),(4,(ii v4)),(5,(ii v5)),(8,(.dat v8.length (Zz v8))),(9,(.dat v9.length (Zz v9))),(10,(.dat v10.length (Zz v10))),(11,(ii v11)),(12,(ii v12))],Wr [] 0,0,[],true⟩,[],.leaf⟩
 | .h3 v4 v5 v8 v9 v10 v11 v12 v13=>⟨⟨140,0,true⟩,none,(Zb prog 18 [1,1,1,0,1,0,0,1,0,0,1,1,1,0,0,1,0,0,1,0,0,1,0,0,1,0,0] 0),none,(Zy prog 15),⟨Ya [(0,(.dat l0.length (Zz l0))),(4,(ii v4)),(5,(ii v5)),(8,(.dat v8.length (Zz v8))),(9,(.dat v9.length (Zz v9))),(10,(.dat v10.length (Zz v10))),(11,(ii v11)),(12,(ii v12)),(13,(ii v13))],Wr [] 0,0,[],true⟩,[],.leaf⟩
def rpiN0 :List (Option (List Nat)):=[some [0,4,5]]
def rpiM0 :List (Option (List Nat)):=[]
def v7m :List (Option (List Nat)):=[some [0,4,5,8,9,10,11]]
def v7n :List (Option (List Nat)):=[]
def rpiN2 :List (Option (List Nat)):=[some [0,4,5,8,9,10,11,12]]
def rpiM2 :List (Option (List Nat)):=[]
def v0m :List (Option (List Nat)):=[some [0,4,5,8,9,10,11,12,13]]
def v0n :List (Option (List Nat)):=[]
def Wf (l0:List R6):rpiS→Xv rpiS
 | .h0 v4 v5=>(bif (decide (v5<3)) then (bif (v5 == 0) then (bif (Yd (cvT l0) v5) then (bif (Yd (cvT l0) 1) then (bif (Yd (cvT l0) 2) then (.to (.h1 v4 v5 (Kq (cvT l0) v5) (Kq (cvT l0) 1) (Kq (cvT l0) 2) 0)) else .stuck) else .stuck) else .stuck) else (bif (v5 == 1) then (bif (Yd (cvT l0) v5) then (bif (Yd (cvT l0) 0) then (bif (Yd (cvT l0) 2) then (.to (.h1 v4 v5 (Kq (cvT l0) v5) (Kq (cvT l0) 0) (Kq (cvT l0) 2) 0)) else .stuck) else .stuck) else .stuck) else (bif (Yd (cvT l0) v5) then (bif (Yd (cvT l0) 0) then (bif (Yd (cvT l0) 1) then (.to (.h1 v4 v5 (Kq (cvT l0) v5) (Kq (cvT l0) 0) (Kq (cvT l0) 1) 0)) else .stuck) else .stuck) else .stuck))) else (.ret [(.int .i64 v4),(.int .i64 0)]))
 | .h1 v4 v5 v8 v9 v10 v11=>(bif (decide ((wrap .i64 (v11+1))<(v8.length:Int))) then (.to (.h2 v4 v5 v8 v9 v10 v11 0)) else (.to (.h0 v4 (wrap .i64 (v5+1)))))
 | .h2 v4 v5 v8 v9 v10 v11 v12=>(bif (decide (v12<(v9.length:Int))) then (.to (.h3 v4 v5 v8 v9 v10 v11 v12 0)) else (.to (.h1 v4 v5 v8 v9 v10 (wrap .i64 (v11+1)))))
 | .h3 v4 v5 v8 v9 v10 v11 v12 v13=>(bif (decide (v13<(v10.length:Int))) then (bif ((decide (0≤v12∧v12<(v9.length:Int)))&&true) then (bif ((decide (0≤v13∧v13<(v10.length:Int)))&&true) then (bif (Vi (cvT l0) (Yf v5 (rd v8 v11.toNat) (wrap .i64 ((rd v9 v12.toNat) - 1)) (wrap .i64 ((rd v10 v13.toNat) - 1))).a (Yf v5 (rd v8 v11.toNat) (wrap .i64 ((rd v9 v12.toNat) - 1)) (wrap .i64 ((rd v10 v13.toNat) - 1))).b (Yf v5 (rd v8 v11.toNat) (wrap .i64 ((rd v9 v12.toNat) - 1)) (wrap .i64 ((rd v10 v13.toNat) - 1))).c) then (bif (Vi (cvT l0) (Yf v5 (rd v8 v11.toNat) (rd v9 v12.toNat) (rd v10 v13.toNat)).a (Yf v5 (rd v8 v11.toNat) (rd v9 v12.toNat) (rd v10 v13.toNat)).b (Yf v5 (rd v8 v11.toNat) (rd v9 v12.toNat) (rd v10 v13.toNat)).c) then (bif (Vi (cvT l0) (Yf v5 (rd v8 v11.toNat) (wrap .i64 ((rd v9 v12.toNat) - 1)) (rd v10 v13.toNat)).a (Yf v5 (rd v8 v11.toNat) (wrap .i64 ((rd v9 v12.toNat) - 1)) (rd v10 v13.toNat)).b (Yf v5 (rd v8 v11.toNat) (wrap .i64 ((rd v9 v12.toNat) - 1)) (rd v10 v13.toNat)).c) then (bif ((decide (0≤v11∧v11<(v8.length:Int)))&&true) then (bif (Vi (cvT l0) (Yf v5 (rd v8 v11.toNat) (rd v9 v12.toNat) (wrap .i64 ((rd v10 v13.toNat) - 1))).a (Yf v5 (rd v8 v11.toNat) (rd v9 v12.toNat) (wrap .i64 ((rd v10 v13.toNat) - 1))).b (Yf v5 (rd v8 v11.toNat) (rd v9 v12.toNat) (wrap .i64 ((rd v10 v13.toNat) - 1))).c) then (bif ((z6h (cvT l0) (Yf v5 (rd v8 v11.toNat) (wrap .i64 ((rd v9 v12.toNat) - 1)) (wrap .i64 ((rd v10 v13.toNat) - 1))).a (Yf v5 (rd v8 v11.toNat) (wrap .i64 ((rd v9 v12.toNat) - 1)) (wrap .i64 ((rd v10 v13.toNat) - 1))).b (Yf v5 (rd v8 v11.toNat) (wrap .i64 ((rd v9 v12.toNat) - 1)) (wrap .i64 ((rd v10 v13.toNat) - 1))).c) == (z6h (cvT l0) (Yf v5 (rd v8 v11.toNat) (rd v9 v12.toNat) (rd v10 v13.toNat)).a (Yf v5 (rd v8 v11.toNat) (rd v9 v12.toNat) (rd v10 v13.toNat)).b (Yf v5 (rd v8 v11.toNat) (rd v9 v12.toNat) (rd v10 v13.toNat)).c)) then (bif ((z6h (cvT l0) (Yf v5 (rd v8 v11.toNat) (wrap .i64 ((rd v9 v12.toNat) - 1)) (rd v10 v13.toNat)).a (Yf v5 (rd v8 v11.toNat) (wrap .i64 ((rd v9 v12.toNat) - 1)) (rd v10 v13.toNat)).b (Yf v5 (rd v8 v11.toNat) (wrap .i64 ((rd v9 v12.toNat) - 1)) (rd v10 v13.toNat)).c) == (z6h (cvT l0) (Yf v5 (rd v8 v11.toNat) (rd v9 v12.toNat) (wrap .i64 ((rd v10 v13.toNat) - 1))).a (Yf v5 (rd v8 v11.toNat) (rd v9 v12.toNat) (wrap .i64 ((rd v10 v13.toNat) - 1))).b (Yf v5 (rd v8 v11.toNat) (rd v9 v12.toNat) (wrap .i64 ((rd v10 v13.toNat) - 1))).c)) then (bif (!((z6h (cvT l0) (Yf v5 (rd v8 v11.toNat) (wrap .i64 ((rd v9 v12.toNat) - 1)) (wrap .i64 ((rd v10 v13.toNat) - 1))).a (Yf v5 (rd v8 v11.toNat) (wrap .i64 ((rd v9 v12.toNat) - 1)) (wrap .i64 ((rd v10 v13.toNat) - 1))).b (Yf v5 (rd v8 v11.toNat) (wrap .i64 ((rd v9 v12.toNat) - 1)) (wrap .i64 ((rd v10 v13.toNat) - 1))).c) == (z6h (cvT l0) (Yf v5 (rd v8 v11.toNat) (wrap .i64 ((rd v9 v12.toNat) - 1)) (rd v10 v13.toNat)).a (Yf v5 (rd v8 v11.toNat) (wrap .i64 ((rd v9 v12.toNat) - 1)) (rd v10 v13.toNat)).b (Yf v5 (rd v8 v11.toNat) (wrap .i64 ((rd v9 v12.toNat) - 1)) (rd v10 v13.toNat)).c))) then (bif ((decide (0≤(wrap .i64 (v11+1))∧(wrap .i64 (v11+1))<(v8.length:Int)))&&true) then (.to (.h3 (wrap .i64 (v4+(wrap .i64 ((rd v8 (Int.toNat (wrap .i64 (v11+1)))) - (rd v8 v11.toNat))))) v5 v8 v9 v10 v11 v12 (wrap .i64 (v13+1)))) else .stuck) else (.to (.h3 v4 v5 v8 v9 v10 v11 v12 (wrap .i64 (v13+1))))) else (.to (.h3 v4 v5 v8 v9 v10 v11 v12 (wrap .i64 (v13+1))))) else (.to (.h3 v4 v5 v8 v9 v10 v11 v12 (wrap .i64 (v13+1))))) else .stuck) else .stuck) else .stuck) else .stuck) else .stuck) else .stuck) else .stuck) else (.to (.h2 v4 v5 v8 v9 v10 v11 (wrap .i64 (v12+1)))))
def y2g (l0:List R6):Xv rpiS:=(bif (Vc (cvT l0)) then (bif ((Vn (cvT l0)) != 0) then (.ret [(.int .i64 0),(.int .i64 (Vn (cvT l0)))]) else (.to (.h0 0 0))) else .stuck)
theorem w5p (l0:List R6): ∀s,Ys prog (Zy prog 18) (rpiC l0) (rpiC l0 s) (Wf l0 s)
 | .h0 v4 v5=>(lb (fun k0=>(lb (fun k1=>(lo fun o0=>(lo fun o1=>(lo fun o2=>(sl Ve 59 [] ⟨[],[],v7m,v7n⟩ ⟨[],[],[]⟩ (bl 2 3) (pp (pp (xr l0) (xw o2)) (pp (pp (xr l0) (xw o1)) (pp (pp (xr l0) (xw o0)) (tt k1 (tt k0 nn)))))))))) (fun k1=>(lb (fun k2=>(lo fun o0=>(lo fun o1=>(lo fun o2=>(sl Ve 67 [] ⟨[],[],v7m,v7n⟩ ⟨[],[],[]⟩ (bl 3 5) (pp (pp (xr l0) (xw o2)) (pp (pp (xr l0) (xw o1)) (pp (pp (xr l0) (xw o0)) (tt k2 (tt k1 (tt k0 nn))))))))))) (fun k2=>(lo fun o0=>(lo fun o1=>(lo fun o2=>(sl Ve 68 [] ⟨[],[],v7m,v7n⟩ ⟨[],[],[]⟩ (bl 3 1) (pp (pp (xr l0) (xw o2)) (pp (pp (xr l0) (xw o1)) (pp (pp (xr l0) (xw o0)) (tt k2 (tt k1 (tt k0 nn))))))))))))))) (fun k0=>(lr 140 3 [1,1,1,1,1,1,1,0] 1 15 [(2,(ii v4)),(3,(ii 0))] (sl Ve 14 [] ⟨[],[],[some [2,3]],[]⟩ ⟨[],[],[]⟩ [false] (tt k0 nn)))))
 | .h1 v4 v5 v8 v9 v10 v11=>(lb (fun k0=>(sl Ve 19 [] ⟨[],[],rpiN2,rpiM2⟩ ⟨[],[],[]⟩ [true] (tt k0 nn))) (fun k0=>(sl Ve 18 [] ⟨[],[],rpiN0,rpiM0⟩ ⟨[],[],[]⟩ [false] (tt k0 nn))))
 | .h2 v4 v5 v8 v9 v10 v11 v12=>(lb (fun k0=>(sl Ve 18 [] ⟨[],[],v0m,v0n⟩ ⟨[],[],[]⟩ [true] (tt k0 nn))) (fun k0=>(sl Ve 17 [] ⟨[],[],v7m,v7n⟩ ⟨[],[],[]⟩ [false] (tt k0 nn))))
 | .h3 v4 v5 v8 v9 v10 v11 v12 v13=>(lb (fun k0=>(lo fun aF=>(lo fun aR=>(lo fun bV=>(lo fun cJ=>(lo fun cR=>(lo fun cI=>(lo fun cT=>(lb (fun k1=>(lb (fun k2=>(lb (fun k3=>(lo fun o0=>(sl Ve 99 [] ⟨[],[],v0m,v0n⟩ ⟨[],[],[]⟩ (trs 8 []) (ww cI (ww o0 (tt k3 (tt k2 (tt k1 (pp (pp (xr l0) (xw cT)) (ww cI (pp (pp (xr l0) (xw cR)) (ww cI (pp (pp (xr l0) (xw cJ)) (ww cI (pp (pp (xr l0) (xw bV)) (ww cI (ww aR (ww aF (tt k0 nn))))))))))))))))))) (fun k3=>(sl Ve 99 [] ⟨[],[],v0m,v0n⟩ ⟨[],[],[]⟩ (trs 7 [false]) (tt k3 (tt k2 (tt k1 (pp (pp (xr l0) (xw cT)) (ww cI (pp (pp (xr l0) (xw cR)) (ww cI (pp (pp (xr l0) (xw cJ)) (ww cI (pp (pp (xr l0) (xw bV)) (ww cI (ww aR (ww aF (tt k0 nn)))))))))))))))))) (fun k2=>(sl Ve 99 [] ⟨[],[],v0m,v0n⟩ ⟨[],[],[]⟩ (trs 4 (bl 4 0)) (tt k2 (tt k1 (pp (pp (xr l0) (xw cT)) (ww cI (pp (pp (xr l0) (xw cR)) (ww cI (pp (pp (xr l0) (xw cJ)) (ww cI (pp (pp (xr l0) (xw bV)) (ww cI (ww aR (ww aF (tt k0 nn))))))))))))))))) (fun k1=>(sl Ve 99 [] ⟨[],[],v0m,v0n⟩ ⟨[],[],[]⟩ (bl 8 1) (tt k1 (pp (pp (xr l0) (xw cT)) (ww cI (pp (pp (xr l0) (xw cR)) (ww cI (pp (pp (xr l0) (xw cJ)) (ww cI (pp (pp (xr l0) (xw bV)) (ww cI (ww aR (ww aF (tt k0 nn))))))))))))))))))))))) (fun k0=>(sl Ve 17 [] ⟨[],[],rpiN2,rpiM2⟩ ⟨[],[],[]⟩ [false] (tt k0 nn))))
theorem x7g (l0:List R6):Ys prog (Zy prog 18) (rpiC l0) (Za prog 18 [(.dat l0.length (Zz l0))] true []) (y2g l0):=(lo fun bW=>(lb (fun k0=>(lr 140 18 [1,0,1,0,0] 1 15 [(2,(ii 0)),(3,(ii (Vn (cvT l0))))] (sl Ve 20 [] ⟨[],[],[some [2,3]],[]⟩ ⟨[],[],[]⟩ [true] (pp (pp (xr l0) (xw bW)) (tt k0 (pp (pp (xr l0) (xw bW)) nn)))))) (fun k0=>(sl Ve 25 [] ⟨[],[],rpiN0,rpiM0⟩ ⟨[],[],[]⟩ [false] (tt k0 (pp (pp (xr l0) (xw bW)) nn))))))
theorem v7l (l0:List R6) (n:Nat) (vs:List AVal) (h:Zs (Wf l0) n (y2g l0)=.ret vs):Jw prog (Zy prog 18) (Za prog 18 [(.dat l0.length (Zz l0))] true []) vs:=by have:=Zc (w5p l0) n _ (x7g l0);rwa [h] at this
inductive rquS where
 | h0 (v3:List R7) (v4:Int)
 | h1 (v3:List R7) (v4:Int) (v5:List Int) (v6:Int)
 | h2 (v3:List R7) (v4:Int) (v5:List Int) (v6:Int) (v7:List R4) (v8:Int)
def rquC (l0:List R6):rquS→Cfg
 | .h0 v3 v4=>⟨⟨80,0,true⟩,none,(Zb prog 55 [1,1,0,1,0,0] 0),none,(Zy prog 3),⟨Ya [(0,(.dat l0.length (Zz l0))),(3,(.sla 0 7 0 v3.length (.un 7))),(4,(ii v4))],Wr [⟨rows v3.length (Zz v3),62,some ⟨7,v3.length,(Zz v3)⟩⟩] 0,1,[],true⟩,[],.leaf⟩
 | .h1 v3 v4 v5 v6=>⟨⟨80,0,true⟩,none,(Zb prog 55 [1,1,0,1,0,0,1,0,0,1,1,0,0] 0),none,(Zy prog 3),⟨Ya [(0,(.dat l0.length (Zz l0))),(3,(.sla 0 7 0 v3.length (.un 7))),(4,(ii v4)),(5,(.dat v5.length (Zz v5))),(6,(ii v6))],Wr [⟨rows v3.length (Zz v3),62,some ⟨7,v3.length,(Zz v3)⟩⟩] 0,1,[],true⟩,[],.leaf⟩
 | .h2 v3 v4 v5 v6 v7 v8=>⟨⟨80,0,true⟩,none,(Zb prog 55 [1,1,0,1,0,0,1,0,0,1,1,0,0,1,0,0,1,1,0,0] 0),none,(Zy prog 3),⟨Ya [(0,(.dat l0.length (Zz l0))),(3,(.sla 0 7 0 v3.length (.un 7))),(4,(ii v4)),(5,(.dat v5.length (Zz v5))),(6,(ii v6)),(7,(.dat v7.length (Zz v7))),(8,(ii v8))],Wr [⟨rows v3.length (Zz v3),62,some ⟨7,v3.length,(Zz v3)⟩⟩] 0,1,[],true⟩,[],.leaf⟩
def rquN0 :List (Option (List Nat)):=[some [0,3,4]]
def rquM0 :List (Option (List Nat)):=[]
def rquN1 :List (Option (List Nat)):=[some [0,3,4,5,6]]
def rquM1 :List (Option (List Nat)):=[]
def rquN2 :List (Option (List Nat)):=[some [0,3,4,5,6,7,8]]
def rquM2 :List (Option (List Nat)):=[]
def Jy (l0:List R6):rquS→Xv rquS
 | .h0 v3 v4=>(bif (decide (v4<6)) then (bif (Yd (cvT l0) (wrap .i64 (Int.tdiv v4 2))) then (.to (.h1 v3 v4 (Kq (cvT l0) (wrap .i64 (Int.tdiv v4 2))) 0)) else .stuck) else (.ret [(.dat v3.length (Zz v3))]))
 | .h1 v3 v4 v5 v6=>(bif (decide (v6<(v5.length:Int))) then (bif ((decide (0≤v6∧v6<(v5.length:Int)))&&true) then (bif (z0h (cvT l0) (wrap .i64 (Int.tdiv v4 2)) (Int.tmod v4 2) (rd v5 v6.toNat)) then (.to (.h2 v3 v4 v5 v6 (x0o (cvT l0) (wrap .i64 (Int.tdiv v4 2)) (Int.tmod v4 2) (rd v5 v6.toNat)) 0)) else .stuck) else .stuck) else (.to (.h0 v3 (wrap .i64 (v4+1)))))
 | .h2 v3 v4 v5 v6 v7 v8=>(bif (decide (v8<(v7.length:Int))) then (bif ((decide (0≤v6∧v6<(v5.length:Int)))&&true) then (bif ((decide (0≤v8∧v8<(v7.length:Int)))&&true) then (bif (Nat.beq 7 7&&((decide (0+v3.length=v3.length))&&decide ((v3.length+1+1)*(56+1)≤Uj))) then (.to (.h2 (v3++[(R7.mk (wrap IntKind.u8 v4) (Yf (wrap .i64 (Int.tdiv v4 2)) (rd v5 v6.toNat) (rd v7 v8.toNat).a (rd v7 v8.toNat).b).a (Yf (wrap .i64 (Int.tdiv v4 2)) (rd v5 v6.toNat) (rd v7 v8.toNat).a (rd v7 v8.toNat).b).b (Yf (wrap .i64 (Int.tdiv v4 2)) (rd v5 v6.toNat) (rd v7 v8.toNat).a (rd v7 v8.toNat).b).c (Yf (wrap .i64 (Int.tdiv v4 2)) (rd v5 v6.toNat) (rd v7 v8.toNat).c (rd v7 v8.toNat).d).a (Yf (wrap .i64 (Int.tdiv v4 2)) (rd v5 v6.toNat) (rd v7 v8.toNat).c (rd v7 v8.toNat).d).b (Yf (wrap .i64 (Int.tdiv v4 2)) (rd v5 v6.toNat) (rd v7 v8.toNat).c (rd v7 v8.toNat).d).c)]) v4 v5 v6 v7 (wrap .i64 (v8+1)))) else .stuck) else .stuck) else .stuck) else (.to (.h1 v3 v4 v5 (wrap .i64 (v6+1)))))
def y2f (l0:List R6):Xv rquS:=(.to (.h0 ([]:List R7) 0))
theorem w5o (l0:List R6): ∀s,Ys prog (Zy prog 55) (rquC l0) (rquC l0 s) (Jy l0 s)
 | .h0 v3 v4=>(lb (fun k0=>(lo fun o0=>(sl z5l 24 [] ⟨[0],[],rquN1,rquM1⟩ ⟨[],[],[]⟩ [true] (pp (fl v3 nn) (pp (pp (xr l0) (xw o0)) (tt k0 nn)))))) (fun k0=>(lr 80 3 [1,1,1,1,1,1,1,0] 1 3 [(2,(.dat v3.length (Zz v3)))] (sl z5l 13 [] ⟨[],[0],[some [2]],[]⟩ ⟨[(2,.frz v3.length v3.length (Zz v3) (Zz v3))],[],[]⟩ [false] (pp (xZ (z3k 7 7 0 v3.length v3.length (Zz v3)) v3.length (Zz v3)) (pp (xL v3.length v3.length) (pp (xS v3.length (Zz v3) (Zz v3)) (pp (fl v3 nn) (tt k0 nn)))))))))
 | .h1 v3 v4 v5 v6=>(lb (fun k0=>(lo fun o0=>(lo fun o1=>(sl z5l 32 [] ⟨[0],[],rquN2,rquM2⟩ ⟨[],[],[]⟩ [true] (pp (fl v3 nn) (pp (pp (xr l0) (xw o1)) (ww o0 (tt k0 nn)))))))) (fun k0=>(sl z5l 17 [] ⟨[0],[],rquN0,rquM0⟩ ⟨[],[],[]⟩ [false] (pp (fl v3 nn) (tt k0 nn)))))
 | .h2 v3 v4 v5 v6 v7 v8=>(lb (fun k0=>(lo fun o0=>(lo fun o1=>(lo fun o2=>(sl z5l 20 [] ⟨[2],[],rquN2,rquM2⟩ ⟨[(3,.len (v3++[(R7.mk (wrap IntKind.u8 v4) (Yf (wr (Int.tdiv v4 2)) (rd v5 (tn v6)) (rd v7 (tn v8)).a (rd v7 (tn v8)).b).a (Yf (wr (Int.tdiv v4 2)) (rd v5 (tn v6)) (rd v7 (tn v8)).a (rd v7 (tn v8)).b).b (Yf (wr (Int.tdiv v4 2)) (rd v5 (tn v6)) (rd v7 (tn v8)).a (rd v7 (tn v8)).b).c (Yf (wr (Int.tdiv v4 2)) (rd v5 (tn v6)) (rd v7 (tn v8)).c (rd v7 (tn v8)).d).a (Yf (wr (Int.tdiv v4 2)) (rd v5 (tn v6)) (rd v7 (tn v8)).c (rd v7 (tn v8)).d).b (Yf (wr (Int.tdiv v4 2)) (rd v5 (tn v6)) (rd v7 (tn v8)).c (rd v7 (tn v8)).d).c)]).length)],[.rowed 7 (v3++[(R7.mk (wrap IntKind.u8 v4) (Yf (wr (Int.tdiv v4 2)) (rd v5 (tn v6)) (rd v7 (tn v8)).a (rd v7 (tn v8)).b).a (Yf (wr (Int.tdiv v4 2)) (rd v5 (tn v6)) (rd v7 (tn v8)).a (rd v7 (tn v8)).b).b (Yf (wr (Int.tdiv v4 2)) (rd v5 (tn v6)) (rd v7 (tn v8)).a (rd v7 (tn v8)).b).c (Yf (wr (Int.tdiv v4 2)) (rd v5 (tn v6)) (rd v7 (tn v8)).c (rd v7 (tn v8)).d).a (Yf (wr (Int.tdiv v4 2)) (rd v5 (tn v6)) (rd v7 (tn v8)).c (rd v7 (tn v8)).d).b (Yf (wr (Int.tdiv v4 2)) (rd v5 (tn v6)) (rd v7 (tn v8)).c (rd v7 (tn v8)).d).c)]).length (Zz (v3++[(R7.mk (wrap IntKind.u8 v4) (Yf (wr (Int.tdiv v4 2)) (rd v5 (tn v6)) (rd v7 (tn v8)).a (rd v7 (tn v8)).b).a (Yf (wr (Int.tdiv v4 2)) (rd v5 (tn v6)) (rd v7 (tn v8)).a (rd v7 (tn v8)).b).b (Yf (wr (Int.tdiv v4 2)) (rd v5 (tn v6)) (rd v7 (tn v8)).a (rd v7 (tn v8)).b).c (Yf (wr (Int.tdiv v4 2)) (rd v5 (tn v6)) (rd v7 (tn v8)).c (rd v7 (tn v8)).d).a (Yf (wr (Int.tdiv v4 2)) (rd v5 (tn v6)) (rd v7 (tn v8)).c (rd v7 (tn v8)).d).b (Yf (wr (Int.tdiv v4 2)) (rd v5 (tn v6)) (rd v7 (tn v8)).c (rd v7 (tn v8)).d).c)]))],[]⟩ [true] (pp (xL (v3.length+1) (v3++[(R7.mk (wrap IntKind.u8 v4) (Yf (wr (Int.tdiv v4 2)) (rd v5 (tn v6)) (rd v7 (tn v8)).a (rd v7 (tn v8)).b).a (Yf (wr (Int.tdiv v4 2)) (rd v5 (tn v6)) (rd v7 (tn v8)).a (rd v7 (tn v8)).b).b (Yf (wr (Int.tdiv v4 2)) (rd v5 (tn v6)) (rd v7 (tn v8)).a (rd v7 (tn v8)).b).c (Yf (wr (Int.tdiv v4 2)) (rd v5 (tn v6)) (rd v7 (tn v8)).c (rd v7 (tn v8)).d).a (Yf (wr (Int.tdiv v4 2)) (rd v5 (tn v6)) (rd v7 (tn v8)).c (rd v7 (tn v8)).d).b (Yf (wr (Int.tdiv v4 2)) (rd v5 (tn v6)) (rd v7 (tn v8)).c (rd v7 (tn v8)).d).c)]).length) (pp (xL (v3.length+1) (v3++[(R7.mk (wrap IntKind.u8 v4) (Yf (wr (Int.tdiv v4 2)) (rd v5 (tn v6)) (rd v7 (tn v8)).a (rd v7 (tn v8)).b).a (Yf (wr (Int.tdiv v4 2)) (rd v5 (tn v6)) (rd v7 (tn v8)).a (rd v7 (tn v8)).b).b (Yf (wr (Int.tdiv v4 2)) (rd v5 (tn v6)) (rd v7 (tn v8)).a (rd v7 (tn v8)).b).c (Yf (wr (Int.tdiv v4 2)) (rd v5 (tn v6)) (rd v7 (tn v8)).c (rd v7 (tn v8)).d).a (Yf (wr (Int.tdiv v4 2)) (rd v5 (tn v6)) (rd v7 (tn v8)).c (rd v7 (tn v8)).d).b (Yf (wr (Int.tdiv v4 2)) (rd v5 (tn v6)) (rd v7 (tn v8)).c (rd v7 (tn v8)).d).c)]).length) (pp (xS (v3.length+1) (Ze (Zz v3) 0 v3.length 7 [(.int .u8 (wrap IntKind.u8 v4)),(ii (Yf (wr (Int.tdiv v4 2)) (rd v5 (tn v6)) (rd v7 (tn v8)).a (rd v7 (tn v8)).b).a),(ii (Yf (wr (Int.tdiv v4 2)) (rd v5 (tn v6)) (rd v7 (tn v8)).a (rd v7 (tn v8)).b).b),(ii (Yf (wr (Int.tdiv v4 2)) (rd v5 (tn v6)) (rd v7 (tn v8)).a (rd v7 (tn v8)).b).c),(ii (Yf (wr (Int.tdiv v4 2)) (rd v5 (tn v6)) (rd v7 (tn v8)).c (rd v7 (tn v8)).d).a),(ii (Yf (wr (Int.tdiv v4 2)) (rd v5 (tn v6)) (rd v7 (tn v8)).c (rd v7 (tn v8)).d).b),(ii (Yf (wr (Int.tdiv v4 2)) (rd v5 (tn v6)) (rd v7 (tn v8)).c (rd v7 (tn v8)).d).c)]) (Zz (v3++[(R7.mk (wrap IntKind.u8 v4) (Yf (wr (Int.tdiv v4 2)) (rd v5 (tn v6)) (rd v7 (tn v8)).a (rd v7 (tn v8)).b).a (Yf (wr (Int.tdiv v4 2)) (rd v5 (tn v6)) (rd v7 (tn v8)).a (rd v7 (tn v8)).b).b (Yf (wr (Int.tdiv v4 2)) (rd v5 (tn v6)) (rd v7 (tn v8)).a (rd v7 (tn v8)).b).c (Yf (wr (Int.tdiv v4 2)) (rd v5 (tn v6)) (rd v7 (tn v8)).c (rd v7 (tn v8)).d).a (Yf (wr (Int.tdiv v4 2)) (rd v5 (tn v6)) (rd v7 (tn v8)).c (rd v7 (tn v8)).d).b (Yf (wr (Int.tdiv v4 2)) (rd v5 (tn v6)) (rd v7 (tn v8)).c (rd v7 (tn v8)).d).c)]))) (pp (pp (xF (Ze (Zz v3) 0 v3.length 7 [(.int .u8 (wrap IntKind.u8 v4)),(ii (Yf (wr (Int.tdiv v4 2)) (rd v5 (tn v6)) (rd v7 (tn v8)).a (rd v7 (tn v8)).b).a),(ii (Yf (wr (Int.tdiv v4 2)) (rd v5 (tn v6)) (rd v7 (tn v8)).a (rd v7 (tn v8)).b).b),(ii (Yf (wr (Int.tdiv v4 2)) (rd v5 (tn v6)) (rd v7 (tn v8)).a (rd v7 (tn v8)).b).c),(ii (Yf (wr (Int.tdiv v4 2)) (rd v5 (tn v6)) (rd v7 (tn v8)).c (rd v7 (tn v8)).d).a),(ii (Yf (wr (Int.tdiv v4 2)) (rd v5 (tn v6)) (rd v7 (tn v8)).c (rd v7 (tn v8)).d).b),(ii (Yf (wr (Int.tdiv v4 2)) (rd v5 (tn v6)) (rd v7 (tn v8)).c (rd v7 (tn v8)).d).c)])) nn) (ww o2 (ww o1 (ww o1 (ww o0 (ww o1 (ww o1 (ww o0 (tt k0 nn))))))))))))))))) (fun k0=>(sl z5l 17 [] ⟨[0],[],rquN1,rquM1⟩ ⟨[],[],[]⟩ [false] (pp (fl v3 nn) (tt k0 nn)))))
theorem x7f (l0:List R6):Ys prog (Zy prog 55) (rquC l0) (Za prog 55 [(.dat l0.length (Zz l0))] true []) (y2f l0):=(sl z5l 15 [(62,7,Zz ([]:List R7))] ⟨[0],[],rquN0,rquM0⟩ ⟨[(3,.grow 0 7)],[],[]⟩ [] (pp (fl ([]:List R7) nn) nn))
theorem v7k (l0:List R6) (n:Nat) (vs:List AVal) (h:Zs (Jy l0) n (y2f l0)=.ret vs):Jw prog (Zy prog 55) (Za prog 55 [(.dat l0.length (Zz l0))] true []) vs:=by have:=Zc (w5o l0) n _ (x7f l0);rwa [h] at this
inductive rmaS where
 | h0 (v3:Int)
 | h1 (v3:Int) (v4:List Int) (v5:Int)
def rmaC (l0:List R6):rmaS→Cfg
 | .h0 v3=>⟨⟨50,0,true⟩,none,(Zb prog 54 [1,0,1,0,0] 0),none,(Zy prog 3),⟨Ya [(0,(.dat l0.length (Zz l0))),(3,(ii v3))],Wr [] 0,0,[],true⟩,[],.leaf⟩
 | .h1 v3 v4 v5=>⟨⟨50,0,true⟩,none,(Zb prog 54 [1,0,1,0,0,1,0,0,1,1,0,0] 0),none,(Zy prog 3),⟨Ya [(0,(.dat l0.length (Zz l0))),(3,(ii v3)),(4,(.dat v4.length (Zz v4))),(5,(ii v5))],Wr [] 0,0,[],true⟩,[],.leaf⟩
def rmaN0 :List (Option (List Nat)):=[some [0,3]]
def rmaM0 :List (Option (List Nat)):=[]
def rmaN1 :List (Option (List Nat)):=[some [0,3,4,5]]
def rmaM1 :List (Option (List Nat)):=[]
def Qq (l0:List R6):rmaS→Xv rmaS
 | .h0 v3=>(bif (decide (v3<3)) then (bif (Yd (cvT l0) v3) then (.to (.h1 v3 (Kq (cvT l0) v3) 0)) else .stuck) else (.ret [(.bool false)]))
 | .h1 v3 v4 v5=>(bif (decide (v5<(v4.length:Int))) then (bif ((decide (0≤v5∧v5<(v4.length:Int)))&&true) then (bif (z7e (cvT l0) v3 (rd v4 v5.toNat)) then (bif (decide ((((v7g (cvT l0) v3 (rd v4 v5.toNat)).length :Nat):Int)>400)) then (.ret [(.bool true)]) else (bif (z0h (cvT l0) v3 0 (rd v4 v5.toNat)) then (bif (decide ((((x0o (cvT l0) v3 0 (rd v4 v5.toNat)).length :Nat):Int)>400)) then (.ret [(.bool true)]) else (bif (z0h (cvT l0) v3 1 (rd v4 v5.toNat)) then (bif (decide ((((x0o (cvT l0) v3 1 (rd v4 v5.toNat)).length :Nat):Int)>400)) then (.ret [(.bool true)]) else (.to (.h1 v3 v4 (wrap .i64 (v5+1))))) else .stuck)) else .stuck)) else .stuck) else .stuck) else (.to (.h0 (wrap .i64 (v3+1)))))
def y2k (l0:List R6):Xv rmaS:=(.to (.h0 0))
theorem w5r (l0:List R6): ∀s,Ys prog (Zy prog 54) (rmaC l0) (rmaC l0 s) (Qq l0 s)
 | .h0 v3=>(lb (fun k0=>(lo fun o0=>(sl z5l 23 [] ⟨[],[],rmaN1,rmaM1⟩ ⟨[],[],[]⟩ [true] (pp (pp (xr l0) (xw o0)) (tt k0 nn))))) (fun k0=>(lr 50 3 [1,1,1,1,1,1,1,0] 1 3 [(2,(.bool false))] (sl z5l 12 [] ⟨[],[],[some [2]],[]⟩ ⟨[],[],[]⟩ [false] (tt k0 nn)))))
 | .h1 v3 v4 v5=>(lb (fun k0=>(lo fun aF=>(lo fun aR=>(lb (fun k1=>(lr 50 54 [1,0,1,0,0,1,0,0,1,1,0,0,1,0,0,1,0,0] 1 3 [(2,(.bool true))] (sl z5l 51 [] ⟨[],[],[some [2]],[]⟩ ⟨[],[],[]⟩ (trs 20 []) (tt k1 (pp (pp (xr l0) (xw aR)) (ww aF (tt k0 nn))))))) (fun k1=>(lo fun cA=>(lb (fun k2=>(lr 50 54 [1,0,1,0,0,1,0,0,1,1,0,0,1,0,0,1,0,0] 1 3 [(2,(.bool true))] (sl z5l 51 [] ⟨[],[],[some [2]],[]⟩ ⟨[],[],[]⟩ (bl 20 1047553) (tt k2 (pp (pp (xr l0) (xw cA)) (ww aF (tt k1 (pp (pp (xr l0) (xw aR)) (ww aF (tt k0 nn)))))))))) (fun k2=>(lo fun cC=>(lb (fun k3=>(lr 50 54 [1,0,1,0,0,1,0,0,1,1,0,0,1,0,0,1,0,0] 1 3 [(2,(.bool true))] (sl z5l 51 [] ⟨[],[],[some [2]],[]⟩ ⟨[],[],[]⟩ (bl 20 524289) (tt k3 (pp (pp (xr l0) (xw cC)) (ww aF (tt k2 (pp (pp (xr l0) (xw cA)) (ww aF (tt k1 (pp (pp (xr l0) (xw aR)) (ww aF (tt k0 nn))))))))))))) (fun k3=>(sl z5l 55 [] ⟨[],[],rmaN1,rmaM1⟩ ⟨[],[],[]⟩ (bl 20 1) (tt k3 (pp (pp (xr l0) (xw cC)) (ww aF (tt k2 (pp (pp (xr l0) (xw cA)) (ww aF (tt k1 (pp (pp (xr l0) (xw aR)) (ww aF (tt k0 nn)))))))))))))))))))))) (fun k0=>(sl z5l 17 [] ⟨[],[],rmaN0,rmaM0⟩ ⟨[],[],[]⟩ [false] (tt k0 nn))))
theorem x7m (l0:List R6):Ys prog (Zy prog 54) (rmaC l0) (Za prog 54 [(.dat l0.length (Zz l0))] true []) (y2k l0):=(sl z5l 11 [] ⟨[],[],rmaN0,rmaM0⟩ ⟨[],[],[]⟩ [] nn)
theorem v7r (l0:List R6) (n:Nat) (vs:List AVal) (h:Zs (Qq l0) n (y2k l0)=.ret vs):Jw prog (Zy prog 54) (Za prog 54 [(.dat l0.length (Zz l0))] true []) vs:=by have:=Zc (w5r l0) n _ (x7m l0);rwa [h] at this
theorem y5c (kind:Int) (l m:List R4): ∀(k i:Nat) (out:List R4) (last:List R2) (first:Nat),(jF kind l m k i out last first).length ≤out.length+k*(ysV l m).length
 | 0,i,out,last,first=>by show out.length≤_;omega
 | k+1,i,out,last,first=>by
  have hs:=z0k (ysV l m) ((ysV l m).map (v6a kind l m (rd (xsV l m) i)));unfold jF;cases decide (0<i)&&Kd (x5w kind l m (rd (xsV l m) i)) last
  ·refine AL (y5c kind l m k (i+1) _ _ _) ?_;unfold u5d x5w;rw [Ay,AT,Nat.succ_mul];omega
  ·refine AL (y5c kind l m k (i+1) _ _ _) ?_;unfold v4i;rw [Ay,AT,Bc,BU,Nat.succ_mul];omega
theorem y0p (xs ys:List Int) (P:Int→Int→Bool) (hy:ys.length≤24): ∀k i,(z0f xs ys P k i).length ≤24*k
 | 0,i=>AD _
 | k+1,i=>by have h1:=z0k ys (ys.map (P (rd xs i)));have h2:=y0p xs ys P hy k (i+1);unfold z0f;rw [Ay,AT];omega
theorem w7a (l:List R4) (h:l.length≤576):(joV 2 l []).length ≤1327104:=by have h1:=Ji l [];have h2:=z9d l [];have h3:=y5c 2 l [] ((xsV l []).length - 1) 0 [] [] 0;simp only [Bp] at h1 h2 h3;have h4:((xsV l []).length - 1)*(ysV l []).length ≤1152*1152:=BX (by omega) (by omega);unfold joV;omega
theorem v1e {L:List R6} (hl:L.length≤12) (a s p:Int):(x0o L a s p).length ≤1327104:=by have h1:=w1k L a;have h2:=w1j L a;exact w7a _ (AL (y0p _ _ _ (by omega) _ _) (by omega))
def dh (d:Int):Int:=wrap .i64 (Int.tdiv d 2)
def qdR (d p:Int) (t:R4):R7:=⟨wrap .u8 d,(Yf (dh d) p t.a t.b).a,(Yf (dh d) p t.a t.b).b,(Yf (dh d) p t.a t.b).c,(Yf (dh d) p t.c t.d).a,(Yf (dh d) p t.c t.d).b,(Yf (dh d) p t.c t.d).c⟩
def rqP (L:List R6) (d:Int) (ps:List Int):List R7:=ps.flatMap fun p=>(x0o L (dh d) (Int.tmod d 2) p).map (qdR d p)
def rqD (L:List R6):Nat→Nat→List R7
 | 0,_=>[]
 | k+1,i=>rqP L (i:Int) (Kq L (dh (i:Int)))++rqD L k (i+1)
def x2q (L:List R6):List R7:=rqD L 6 0
def z7g (L:List R6):Bool:=decide (L.length≤12)
theorem u3n (L:List R6) (d:Int) (P:List Int) (i:Nat) (hi:i<P.length) (hP:P.length≤24) (F:List R4) (hF:F.length≤1327104): ∀(k j:Nat) (out:List R7),j+k=F.length→out.length≤1000000000+j→
  ∃n,∀N,Zs (Jy L) (N+n) (.to (.h2 out d P (i:Int) F (j:Int)))=Zs (Jy L) N (.to (.h1 (out++(F.drop j).map (qdR d (rd P i))) d P ((i+1:Nat):Int)))
 | 0,j,out,h,ho=>by refine ⟨1,fun N=> ?_⟩;rw [Zv,Ar (by omega),A5,AB];simp (disch:=omega) only [Jy,Yz,Zk,Zx,Aa]
 | k+1,j,out,h,ho=>by
  have hj:j<F.length:=by omega
  obtain ⟨n,hn⟩:=u3n L d P i hi hP F hF k (j+1) (out++[qdR d (rd P i) (rd F j)]) (by omega) (by rw [Ay];simp only [AV,Bp];omega);refine ⟨n+1,fun N=> ?_⟩;have hn:=hn N;rw [←AC,Zv,Yx hj,AW];rw [AH] at hn;refine Eq.trans ?_ hn
  congr 1
  have m1:decide (0+out.length=out.length)=true:=Ag (by omega);have b7:Nat.beq 7 7=true:=rfl;simp (disch:=omega) only [Jy,Zo,Zr,Zf,Zk,Zx,Zj,m1,b7,Ai,Al,Ab];rfl
theorem w1w (L:List R6) (d p:Int) (ps:List Int):rqP L d (p::ps)=(x0o L (dh d) (Int.tmod d 2) p).map (qdR d p)++rqP L d ps:=by unfold rqP;rw [B9]
theorem u3o (L:List R6) (hl:L.length≤12) (d:Int) (hd:0≤d∧d<6) (P:List Int) (hP:P.length≤24): ∀(k i:Nat) (out:List R7),i+k=P.length→out.length≤800000000+1327104*i→
  ∃n,∀N,Zs (Jy L) (N+n) (.to (.h1 out d P (i:Int)))=Zs (Jy L) N (.to (.h0 (out++rqP L d (P.drop i)) (d+1)))
 | 0,i,out,h,ho=>by refine ⟨1,fun N=> ?_⟩;have w:wrap .i64 (d+1)=d+1:=Zk (by omega);rw [Zv,Ar (by omega)];show _=Zs (Jy L) N (.to (.h0 (out++[]) (d+1)));rw [AB];simp (disch:=omega) only [Jy,Yz,w,Aa]
 | k+1,i,out,h,ho=>by
  have hi:i<P.length:=by omega
  have hf:=v1e hl (dh d) (Int.tmod d 2) (rd P i);obtain ⟨n,hn⟩:=u3o L hl d hd P hP k (i+1) (out++(x0o L (dh d) (Int.tmod d 2) (rd P i)).map (qdR d (rd P i))) (by omega) (by rw [Ay,AT];omega);obtain ⟨m,hm⟩:=u3n L d P i hi hP (x0o L (dh d) (Int.tmod d 2) (rd P i)) hf _ 0 out (Ah _) (by omega);refine ⟨n+m+1,fun N=> ?_⟩;have hn:=hn N;have hm:=hm (N+n);rw [Kb,AX] at hm;rw [show N+(n+m+1)=(N+n+m)+1 by omega,Zv,Yx hi,w1w,←AH,←hn,←hm]
  congr 1
  have o:z0h L (dh d) (Int.tmod d 2) (rd P i)=true:=Ag (by omega);have ed:wrap .i64 (Int.tdiv d 2)=dh d:=rfl;simp (disch:=omega) only [Jy,Zm,Zo,Zr,Zj,ed,o,Ai,Ab]
theorem y7x (L:List R6) (hl:L.length≤12) (d:Int): ∀ps:List Int,(rqP L d ps).length ≤1327104*ps.length
 | []=>AD _
 | p::ps=>by have h:=y7x L hl d ps;have hf:=v1e hl (dh d) (Int.tmod d 2) p;rw [w1w,Ay,AT,AV];omega
theorem u3p (L:List R6) (hl:L.length≤12): ∀(k i:Nat) (out:List R7),i+k=6→out.length≤31850496*i→
  ∃n,Zs (Jy L) n (.to (.h0 out (i:Int)))=.ret [.dat (out++rqD L k i).length (Zz (out++rqD L k i))]
 | 0,i,out,h,ho=>by refine ⟨1,?_⟩;have g:decide ((i:Int)<6)=false:=Au (by omega);rw [Zv];show _=Xv.ret [.dat (out++[]).length (Zz (out++[]))];rw [AB];simp only [Jy,g,Aa,Zp]
 | k+1,i,out,h,ho=>by
  have hc:=y5w L (dh (i:Int));have hq:=y7x L hl (i:Int) (Kq L (dh (i:Int)));obtain ⟨n,hn⟩:=u3p L hl k (i+1) (out++rqP L (i:Int) (Kq L (dh (i:Int)))) (by omega) (by rw [Ay];omega);obtain ⟨m,hm⟩:=u3o L hl (i:Int) (by omega) (Kq L (dh (i:Int))) (by omega) _ 0 out (Ah _) (by omega);refine ⟨n+m+1,?_⟩;have hm:=hm n;rw [Kb,AX] at hm;have g:decide ((i:Int)<6)=true:=Ag (by omega);have o:Yd L (dh (i:Int))=true:=Ag (by omega);have ed:wrap .i64 (Int.tdiv (i:Int) 2)=dh (i:Int):=rfl;rw [Zv];have hs:Jy L (.h0 out (i:Int))=.to (.h1 out (i:Int) (Kq L (dh (i:Int))) 0):=by simp only [Jy,Zm,g,ed,o,Ab]
  rw [hs,hm];show _=Xv.ret [.dat (out++(rqP L (i:Int) (Kq L (dh (i:Int)))++rqD L k (i+1))).length (Zz (out++(rqP L (i:Int) (Kq L (dh (i:Int)))++rqD L k (i+1))))];rw [←AH];exact hn
theorem u8x (L:List R6) (h:z7g L=true): ∃n,Zs (Jy L) n (y2f L)=.ret [.dat (x2q L).length (Zz (x2q L))]:=by obtain ⟨n,hn⟩:=u3p L (AA h) 6 0 [] rfl (AD _);rw [Bg,Kb] at hn;refine ⟨n,?_⟩;unfold x2q y2f;exact hn
def fRqu :List AVal→Option (AVal×Bool)
 | [a0]=>match asL R6 a0 with
  | some (L0,g0,n0)=>some (.dat (x2q L0).length (Zz (x2q L0)),isT R6 n0 g0&&(z7g L0))
  | _=>none
 | _=>none
theorem j2e {S:Specs} (hS:Zu prog S):Zu prog (S.with nRqu fRqu):=by
 refine z0o hS (by kernel_rfl) fun args v h=> ?_;unfold fRqu at h;split at h
 ·rename_i a0;split at h
  ·rename_i L0 g0 n0 e0;simp only [Ae,Ad,Ac] at h;obtain ⟨rfl,ho0,hw⟩:=h;obtain ⟨N,hN⟩:=u8x L0 hw;exact ⟨_,_,(.cons (asL_le e0 ho0) .nil),rfl,v7k L0 N _ hN,3,rfl⟩
  ·cases h
 ·cases h
def maP (L:List R6) (a p:Int):Bool:=decide ((((v7g L a p).length :Nat):Int)>400)||(decide ((((x0o L a 0 p).length :Nat):Int)>400)||decide ((((x0o L a 1 p).length :Nat):Int)>400))
def maD (L:List R6):Nat→Nat→Bool
 | 0,_=>false
 | k+1,i=>(Kq L (i:Int)).any (maP L (i:Int))||maD L k (i+1)
def v7s (L:List R6):Bool:=maD L 3 0
def z7m (L:List R6):Bool:=decide (L.length≤12)
theorem u3u (L:List R6) (hl:L.length≤12) (a:Int) (ha:0≤a∧a<3) (P:List Int) (hP:P.length≤24) (R:Bool) (hR: ∃n,Zs (Qq L) n (.to (.h0 (a+1)))=.ret [.bool R]): ∀(k i:Nat),i+k=P.length→
  ∃n,Zs (Qq L) n (.to (.h1 a P (i:Int)))=.ret [.bool ((P.drop i).any (maP L a)||R)]
 | 0,i,h=>by
  obtain ⟨n,hn⟩:=hR;refine ⟨n+1,?_⟩;have w:wrap .i64 (a+1)=a+1:=Zk (by omega);rw [Zv,Ar (by omega),List.any_nil,Cb,←hn]
  congr 1
  simp (disch:=omega) only [Qq,Yz,w,Aa]
 | k+1,i,h=>by
  have hi:i<P.length:=by omega
  obtain ⟨n,hn⟩:=u3u L hl a ha P hP R hR k (i+1) (by omega);refine ⟨n+1,?_⟩;have o1: ∀p,z7e L a p=true:=fun p=>Ag (by omega);have o2: ∀s p,z0h L a s p=true:=fun s p=>Ag (by omega);rw [Zv,Yx hi,List.any_cons];have e:Qq L (.h1 a P (i:Int))=bif maP L a (rd P i) then .ret [.bool true] else .to (.h1 a P ((i+1:Nat):Int)):=by unfold maP;simp (disch:=omega) only [Qq,Zm,Zo,Zr,Zk,Zx,Zj,o1,o2,Ai,Ab];cases decide ((((v7g L a (rd P i)).length :Nat):Int)>400) <;> cases decide ((((x0o L a 0 (rd P i)).length :Nat):Int)>400) <;> rfl
  rw [e];cases maP L a (rd P i) with
  | true=>rw [Ab,Zp,Ce,Ce]
  | false=>rw [Aa,hn,Cb]
theorem u3v (L:List R6) (hl:L.length≤12): ∀(k i:Nat),i+k=3→ ∃n,Zs (Qq L) n (.to (.h0 (i:Int)))=.ret [.bool (maD L k i)]
 | 0,i,h=>by refine ⟨1,?_⟩;have g:decide ((i:Int)<3)=false:=Au (by omega);rw [Zv];simp only [Qq,g,Aa,Zp];rfl
 | k+1,i,h=>by
  have hc:=y5w L (i:Int);obtain ⟨n,hn⟩:=u3u L hl (i:Int) (by omega) (Kq L (i:Int)) (by omega) _ (u3v L hl k (i+1) (by omega)) (Kq L (i:Int)).length 0 (Ah _);refine ⟨n+1,?_⟩;have g:decide ((i:Int)<3)=true:=Ag (by omega);have o:Yd L (i:Int)=true:=Ag (by omega);rw [Kb,AX] at hn;rw [Zv];have hs:Qq L (.h0 (i:Int))=.to (.h1 (i:Int) (Kq L (i:Int)) 0):=by simp only [Qq,Zm,g,o,Ab]
  rw [hs];exact hn
theorem u9a (L:List R6) (h:z7m L=true): ∃n,Zs (Qq L) n (y2k L)=.ret [.bool (v7s L)]:=by obtain ⟨n,hn⟩:=u3v L (AA h) 3 0 rfl;rw [Kb] at hn;refine ⟨n,?_⟩;unfold v7s y2k;exact hn
def fRma :List AVal→Option (AVal×Bool)
 | [a0]=>match asL R6 a0 with
  | some (L0,g0,n0)=>some (.bool (v7s L0),isT R6 n0 g0&&(z7m L0))
  | _=>none
 | _=>none
theorem j2h {S:Specs} (hS:Zu prog S):Zu prog (S.with nRma fRma):=by
 refine z0o hS (by kernel_rfl) fun args v h=> ?_;unfold fRma at h;split at h
 ·rename_i a0;split at h
  ·rename_i L0 g0 n0 e0;simp only [Ae,Ad,Ac] at h;obtain ⟨rfl,ho0,hw⟩:=h;obtain ⟨N,hN⟩:=u9a L0 hw;exact ⟨_,_,(.cons (asL_le e0 ho0) .nil),rfl,v7r L0 N _ hN,3,rfl⟩
  ·cases h
 ·cases h
def Pd :Specs:=(Pc.with nRqu fRqu).with nRma fRma
theorem v5r :Zu prog Pd:=j2h (j2e z5l)
inductive rofS where
def rofC (l0:List R6):rofS→Cfg
 :=nofun
def x7j (l0:List R6):rofS→Xv rofS
 :=nofun
def y2j (l0:List R6):Xv rofS:=(bif (Vc (cvT l0)) then (bif ((Vn (cvT l0)) != 0) then (.ret [.nils,(.int .i64 (Vn (cvT l0)))]) else (bif (z7m (cvT l0)) then (bif (v7s (cvT l0)) then (.ret [.nils,(.int .i64 4)]) else (bif (z7g (cvT l0)) then (bif (decide ((((x2q (cvT l0)).length :Nat):Int)>3000)) then (.ret [.nils,(.int .i64 4)]) else (.ret [(.dat (x2q (cvT l0)).length (Zz (x2q (cvT l0)))),(.int .i64 0)])) else .stuck)) else .stuck)) else .stuck)
theorem w5q (l0:List R6): ∀s,Ys prog (Zy prog 16) (rofC l0) (rofC l0 s) (x7j l0 s)
 :=nofun
theorem x7k (l0:List R6):Ys prog (Zy prog 16) (rofC l0) (Za prog 16 [(.dat l0.length (Zz l0))] true []) (y2j l0):=(lo fun bW=>(lb (fun k0=>(lr 18 16 [1,0,1,0,0] 1 15 [(2,.nils),(3,(ii (Vn (cvT l0))))] (sl v5r 20 [] ⟨[],[],[some [2,3]],[]⟩ ⟨[],[],[]⟩ [true] (pp (pp (xr l0) (xw bW)) (tt k0 (pp (pp (xr l0) (xw bW)) nn)))))) (fun k0=>(lo fun aF=>(lb (fun k1=>(lr 18 16 [1,1,0,1,0,0] 1 15 [(2,.nils),(3,(ii 4))] (sl v5r 26 [] ⟨[],[],[some [2,3]],[]⟩ ⟨[],[],[]⟩ [false,true] (tt k1 (pp (pp (xr l0) (xw aF)) (tt k0 (pp (pp (xr l0) (xw bW)) nn))))))) (fun k1=>(lo fun cA=>(lb (fun k2=>(lr 18 16 [1,1,1,1,0,1,0,0] 1 15 [(2,.nils),(3,(ii 4))] (sl v5r 41 [] ⟨[],[],[some [2,3]],[]⟩ ⟨[],[],[]⟩ [false,false,true] (tt k2 (pp (pp (xr l0) (xw cA)) (tt k1 (pp (pp (xr l0) (xw aF)) (tt k0 (pp (pp (xr l0) (xw bW)) nn))))))))) (fun k2=>(lr 18 3 [1,1,1,1,1,1,1,0] 1 15 [(2,(.dat (x2q (cvT l0)).length (Zz (x2q (cvT l0))))),(3,(ii 0))] (sl v5r 43 [] ⟨[],[],[some [2,3]],[]⟩ ⟨[],[],[]⟩ [false,false,false] (tt k2 (pp (pp (xr l0) (xw cA)) (tt k1 (pp (pp (xr l0) (xw aF)) (tt k0 (pp (pp (xr l0) (xw bW)) nn)))))))))))))))))
theorem v7q (l0:List R6) (n:Nat) (vs:List AVal) (h:Zs (x7j l0) n (y2j l0)=.ret vs):Jw prog (Zy prog 16) (Za prog 16 [(.dat l0.length (Zz l0))] true []) vs:=by have:=Zc (w5q l0) n _ (x7k l0);rwa [h] at this
def Ut (L:List R6):List R7:=bif Vn L != 0 then [] else bif v7s L then [] else bif decide ((((x2q L).length :Nat):Int)>3000) then [] else x2q L
def z7l (L:List R6):Int:=bif Vn L != 0 then Vn L else bif v7s L then 4 else bif decide ((((x2q L).length :Nat):Int)>3000) then 4 else 0
def z7k (L:List R6):Bool:=decide (L.length≤12∨400<L.length)
theorem w2h {L:List R6} (h:400<L.length):Vn L=4:=by unfold Vn;rw [Ag h];rfl
theorem u8z (L:List R6) (h:z7k L=true): ∃n vs,Zs (x7j L) n (y2j L)=.ret vs∧(∀(ρ:Rho) (u:Value),Yy ρ (Jz vs) u→Yy ρ (.tup [.dat (Ut L).length (Zz (Ut L)),.int .i64 (z7l L)]) u)∧ ∃d,pf d (Jz vs)=true:=by
 unfold y2j;have nil: ∀(ρ:Rho) (e:Int) (u:Value),Yy ρ (Jz [.nils,.int .i64 e]) u→Yy ρ (.tup [.dat ([]:List R7).length (Zz ([]:List R7)),.int .i64 e]) u:=fun ρ e u hu=>z3q (.cons (.nild _) (.cons (.refl _) .nil)) ρ u hu;rcases Ym (Vn L != 0) with q1 | q1
 ·refine ⟨0,[.nils,.int .i64 (Vn L)],?_,?_,3,rfl⟩
  ·simp only [Zm,show Vc L=true from rfl,q1,Ab,Zp]
  ·unfold Ut z7l;rw [q1,Ab,Ab];exact fun ρ u hu=>nil ρ _ u hu
 have hl:L.length≤12:=by
  rcases AA h with h | h
  ·exact h
  ·rw [w2h h] at q1;cases q1
 have o1:z7m L=true:=Ag (by omega);have o2:z7g L=true:=Ag (by omega);rcases Ym (v7s L) with q2 | q2
 ·refine ⟨0,[.nils,.int .i64 4],?_,?_,3,rfl⟩
  ·simp only [Zm,show Vc L=true from rfl,q1,q2,o1,Ab,Aa,Zp]
  ·unfold Ut z7l;rw [q1,q2,Aa,Aa,Ab,Ab];exact fun ρ u hu=>nil ρ _ u hu
 rcases Ym (decide ((((x2q L).length :Nat):Int)>3000)) with q3 | q3
 ·refine ⟨0,[.nils,.int .i64 4],?_,?_,3,rfl⟩
  ·simp only [Zm,show Vc L=true from rfl,q1,q2,q3,o1,o2,Ab,Aa,Zp]
  ·unfold Ut z7l;rw [q1,q2,q3,Aa,Aa,Aa,Aa,Ab,Ab];exact fun ρ u hu=>nil ρ _ u hu
 ·refine ⟨0,[.dat (x2q L).length (Zz (x2q L)),.int .i64 0],?_,?_,3,rfl⟩
  ·simp only [Zm,show Vc L=true from rfl,q1,q2,q3,o1,o2,Ab,Aa,Zp]
  ·unfold Ut z7l;rw [q1,q2,q3,Aa,Aa,Aa,Aa,Aa,Aa];exact fun ρ u hu=>hu
def fRof :List AVal→Option (AVal×Bool)
 | [a0]=>match asL R6 a0 with
  | some (L0,g0,n0)=>some (.tup [.dat (Ut L0).length (Zz (Ut L0)),.int .i64 (z7l L0)],isT R6 n0 g0&&(z7k L0))
  | _=>none
 | _=>none
theorem j2g {S:Specs} (hS:Zu prog S):Zu prog (S.with nRof fRof):=by
 refine w8s hS (by kernel_rfl) fun args v h=> ?_;unfold fRof at h;split at h
 ·rename_i a0;split at h
  ·rename_i L0 g0 n0 e0;simp only [Ae,Ad,Ac] at h;obtain ⟨rfl,ho0,hw⟩:=h;obtain ⟨N,vs,hN,hv,hp⟩:=u8z L0 hw;exact ⟨_,vs,(.cons (asL_le e0 ho0) .nil),hv,v7q L0 N _ hN,hp⟩
  ·cases h
 ·cases h
def gP (L:List R6) (a t x y:Int):Bool:=(pU L a t (wrap .i64 (x - 1)) (wrap .i64 (y - 1)) == pU L a t x y)&&((pU L a t (wrap .i64 (x - 1)) y == pU L a t x (wrap .i64 (y - 1)))&& !(pU L a t (wrap .i64 (x - 1)) (wrap .i64 (y - 1)) == pU L a t (wrap .i64 (x - 1)) y))
def u1l (L:List R6) (a t n:Int) (X Y:List Int):Int:=sm X fun x=>sm Y fun y=>bif gP L a t x y then n else 0
def totS (L:List R6) (a:Int) (A X Y:List Int):Nat→Nat→Int
 | 0,_=>0
 | k+1,i=>u1l L a (rd A i) (rd A (i+1) - rd A i) X Y+totS L a A X Y k (i+1)
def axS (L:List R6) (a:Int):Int:=totS L a (Kq L a) (uX L a) (uY L a) ((Kq L a).length - 1) 0
section
variable (L:List R6) (hl:L.length≤12)
include hl
theorem u3q (a:Int) (A X Y:List Int) (hA:A.length≤24) (hX:X.length≤24) (hY:Y.length≤24) (i:Nat) (hi:i+1<A.length) (j:Nat) (hj:j<X.length): ∀(k m:Nat) (S:Int),m+k=Y.length→
  ∃n,∀N,Zs (Wf L) (N+n) (.to (.h3 (wrap .i64 S) a A X Y (i:Int) (j:Int) (m:Int)))=Zs (Wf L) N (.to (.h2 (wrap .i64 (S+sm (Y.drop m) fun y=>bif gP L a (rd A i) (rd X j) y then rd A (i+1) - rd A i else 0)) a A X Y (i:Int) ((j+1:Nat):Int)))
 | 0,m,S,h=>by
  refine ⟨1,fun N=> ?_⟩;have w3:wrap .i64 ((j:Int)+1)=((j+1:Nat):Int):=by rw [Zk (by omega)];rfl
  rw [Zv,Ar (by omega),z3h,A6];simp (disch:=omega) only [Wf,Yz,w3,Aa]
 | k+1,m,S,h=>by
  have hm:m<Y.length:=by omega
  obtain ⟨n,hn⟩:=u3q a A X Y hA hX hY i hi j hj k (m+1) (S+bif gP L a (rd A i) (rd X j) (rd Y m) then rd A (i+1) - rd A i else 0) (by omega);refine ⟨n+1,fun N=> ?_⟩;have hn:=hn N;rw [Yx hm,We,←Cv,←hn,←AC,Zv]
  congr 1
  have g1:decide ((m:Int)<(Y.length:Int))=true:=Ag (by omega);have g2:decide (0≤(j:Int)∧(j:Int)<(X.length:Int))=true:=Ag (by omega);have g3:decide (0≤(m:Int)∧(m:Int)<(Y.length:Int))=true:=Ag (by omega);have g4:decide (0≤(i:Int)∧(i:Int)<(A.length:Int))=true:=Ag (by omega);have w1:wrap .i64 ((i:Int)+1)=((i+1:Nat):Int):=by rw [Zk (by omega)];rfl
  have g5:decide (0≤((i+1:Nat):Int)∧((i+1:Nat):Int)<(A.length:Int))=true:=Ag (by omega);have w3:wrap .i64 ((m:Int)+1)=((m+1:Nat):Int):=by rw [Zk (by omega)];rfl
  have o: ∀x y z,Vi L x y z=true:=fun x y z=>Ag (by omega);have wp: ∀y,wrap .i64 (wrap .i64 S+wrap .i64 y)=wrap .i64 (S+y):=fun y=>Cg.eq ((Cg.wrap S).add (Cg.wrap y));have ep: ∀i a x y,z6h L (Yf i a x y).a (Yf i a x y).b (Yf i a x y).c =pU L i a x y:=fun _ _ _ _=>rfl;unfold gP;simp only [Wf,Zm,g1,g2,g3,g4,g5,w1,w3,Zj,o,ep,wp,Ai,Ab];rcases Ym (pU L a (rd A i) (wrap .i64 (rd X j - 1)) (wrap .i64 (rd Y m - 1)) == pU L a (rd A i) (rd X j) (rd Y m)) with e1 | e1 <;> rw [e1]
  ·rcases Ym (pU L a (rd A i) (wrap .i64 (rd X j - 1)) (rd Y m) == pU L a (rd A i) (rd X j) (wrap .i64 (rd Y m - 1))) with e2 | e2 <;> rw [e2]
   ·rcases Ym (pU L a (rd A i) (wrap .i64 (rd X j - 1)) (wrap .i64 (rd Y m - 1)) == pU L a (rd A i) (wrap .i64 (rd X j - 1)) (rd Y m)) with e3 | e3 <;> rw [e3]
    ·simp only [AE,Bool.and_false,Ab,Aa,A6]
    ·simp only [AI,Ai,Ab]
   ·simp only [Bq,Bool.and_false,Ab,Aa,A6]
  ·simp only [Bq,Aa,A6]
theorem u3r (a:Int) (A X Y:List Int) (hA:A.length≤24) (hX:X.length≤24) (hY:Y.length≤24) (i:Nat) (hi:i+1<A.length): ∀(k j:Nat) (S:Int),j+k=X.length→
  ∃n,∀N,Zs (Wf L) (N+n) (.to (.h2 (wrap .i64 S) a A X Y (i:Int) (j:Int)))=Zs (Wf L) N (.to (.h1 (wrap .i64 (S+u1l L a (rd A i) (rd A (i+1) - rd A i) (X.drop j) Y)) a A X Y ((i+1:Nat):Int)))
 | 0,j,S,h=>by
  refine ⟨1,fun N=> ?_⟩;have w3:wrap .i64 ((i:Int)+1)=((i+1:Nat):Int):=by rw [Zk (by omega)];rfl
  rw [Zv,Ar (by omega)];show _=Zs (Wf L) N (.to (.h1 (wrap .i64 (S+0)) a A X Y ((i+1:Nat):Int)));rw [A6];simp (disch:=omega) only [Wf,Yz,w3,Aa]
 | k+1,j,S,h=>by
  have hj:j<X.length:=by omega
  obtain ⟨m,hm⟩:=u3q L hl a A X Y hA hX hY i hi j hj Y.length 0 S (Ah _);obtain ⟨n,hn⟩:=u3r a A X Y hA hX hY i hi k (j+1) (S+sm Y fun y=>bif gP L a (rd A i) (rd X j) y then rd A (i+1) - rd A i else 0) (by omega);refine ⟨n+m+1,fun N=> ?_⟩;have hm:=hm (N+n);have hn:=hn N;rw [Kb,AX] at hm;have g1:decide ((j:Int)<(X.length:Int))=true:=Ag (by omega);rw [show N+(n+m+1)=(N+n+m)+1 by omega,Zv];have hs:Wf L (.h2 (wrap .i64 S) a A X Y (i:Int) (j:Int))=.to (.h3 (wrap .i64 S) a A X Y (i:Int) (j:Int) 0):=by simp only [Wf,g1,Ab]
  rw [hs,hm,Yx hj];unfold u1l at hn ⊢;rw [We,←Cv];exact hn
theorem u3s (a:Int) (ha:0≤a∧a<3) (A X Y:List Int) (hA:A.length≤24) (hX:X.length≤24) (hY:Y.length≤24): ∀(k i:Nat) (S:Int),k=A.length - 1 - i→i≤24→
  ∃n,∀N,Zs (Wf L) (N+n) (.to (.h1 (wrap .i64 S) a A X Y (i:Int)))=Zs (Wf L) N (.to (.h0 (wrap .i64 (S+totS L a A X Y k i)) (a+1)))
 | 0,i,S,h,h24=>by
  refine ⟨1,fun N=> ?_⟩;have w1:wrap .i64 ((i:Int)+1)=((i+1:Nat):Int):=by rw [Zk (by omega)];rfl
  have w3:wrap .i64 (a+1)=a+1:=Zk (by omega);have g:decide (((i+1:Nat):Int)<(A.length:Int))=false:=Au (by omega);rw [Zv];show _=Zs (Wf L) N (.to (.h0 (wrap .i64 (S+0)) (a+1)));rw [A6];simp only [Wf,w1,w3,g,Aa]
 | k+1,i,S,h,h24=>by
  have hi:i+1<A.length:=by omega
  obtain ⟨m,hm⟩:=u3r L hl a A X Y hA hX hY i hi X.length 0 S (Ah _);obtain ⟨n,hn⟩:=u3s a ha A X Y hA hX hY k (i+1) (S+u1l L a (rd A i) (rd A (i+1) - rd A i) X Y) (by omega) (by omega);refine ⟨n+m+1,fun N=> ?_⟩;have hm:=hm (N+n);have hn:=hn N;rw [Kb,AX] at hm;have w1:wrap .i64 ((i:Int)+1)=((i+1:Nat):Int):=by rw [Zk (by omega)];rfl
  have g:decide (((i+1:Nat):Int)<(A.length:Int))=true:=Ag (by omega);rw [show N+(n+m+1)=(N+n+m)+1 by omega,Zv];have hs:Wf L (.h1 (wrap .i64 S) a A X Y (i:Int))=.to (.h2 (wrap .i64 S) a A X Y (i:Int) 0):=by simp only [Wf,w1,g,Ab]
  rw [hs,hm,hn];show _=Zs (Wf L) N (.to (.h0 (wrap .i64 (S+(u1l L a (rd A i) (rd A (i+1) - rd A i) X Y+totS L a A X Y k (i+1)))) (a+1)));rw [←Cv]
theorem v0l (a:Int) (ha:a=0∨a=1∨a=2) (S:Int): ∃n,∀N,Zs (Wf L) (N+n) (.to (.h0 (wrap .i64 S) a))=Zs (Wf L) N (.to (.h0 (wrap .i64 (S+axS L a)) (a+1))):=by
 have h1:=y5w L a;have h2:=w1k L a;have h3:=w1j L a;obtain ⟨n,hn⟩:=u3s L hl a (by omega) (Kq L a) (uX L a) (uY L a) (by omega) (by omega) (by omega) _ 0 S rfl (by omega);refine ⟨n+1,fun N=> ?_⟩;have hn:=hn N;have o: ∀i,Yd L i=true:=fun i=>Ag (by omega);rw [←AC,Zv];refine Eq.trans ?_ hn
 congr 1
 rcases ha with rfl | rfl | rfl <;> (simp only [Wf,Zm,o,Ab];rfl)
end
def y7z (L:List R6):Int:=bif Vn L != 0 then 0 else wrap .i64 (axS L 0+axS L 1+axS L 2)
def y7y (L:List R6):Int:=Vn L
def z7h (L:List R6):Bool:=decide (L.length≤12∨400<L.length)
theorem u8y (L:List R6) (h:z7h L=true): ∃n,Zs (Wf L) n (y2g L)=.ret [.int .i64 (y7z L),.int .i64 (y7y L)]:=by
 unfold y2g y7z y7y;simp only [Zm,show Vc L=true from rfl,Ab];rcases Ym (Vn L != 0) with q1 | q1
 ·exact ⟨0,by simp only [q1,Ab];rfl⟩
 have hl:L.length≤12:=by
  rcases AA h with h | h
  ·exact h
  ·rw [w2h h] at q1;cases q1
 obtain ⟨n1,h1⟩:=v0l L hl 0 (.inl rfl) 0;obtain ⟨n2,h2⟩:=v0l L hl 1 (.inr (.inl rfl)) (axS L 0);obtain ⟨n3,h3⟩:=v0l L hl 2 (.inr (.inr rfl)) (axS L 0+axS L 1);refine ⟨1+n3+n2+n1,?_⟩;have h1:=h1 (1+n3+n2);have h2:=h2 (1+n3);have h3:=h3 1;rw [show wrap .i64 0=0 from rfl,B6] at h1;simp only [q1,Aa];rw [h1];refine h2.trans (h3.trans ?_);rw [Zv,show Vn L=0 by simpa using q1];rfl
def fRpi :List AVal→Option (AVal×Bool)
 | [a0]=>match asL R6 a0 with
  | some (L0,g0,n0)=>some (.tup [.int .i64 (y7z L0),.int .i64 (y7y L0)],isT R6 n0 g0&&(z7h L0))
  | _=>none
 | _=>none
theorem j2f {S:Specs} (hS:Zu prog S):Zu prog (S.with nRpi fRpi):=by
 refine z0o hS (by kernel_rfl) fun args v h=> ?_;unfold fRpi at h;split at h
 ·rename_i a0;split at h
  ·rename_i L0 g0 n0 e0;simp only [Ae,Ad,Ac] at h;obtain ⟨rfl,ho0,hw⟩:=h;obtain ⟨N,hN⟩:=u8y L0 hw;exact ⟨_,_,(.cons (asL_le e0 ho0) .nil),rfl,v7l L0 N _ hN,3,rfl⟩
  ·cases h
 ·cases h
def Pe :Specs:=(Pd.with nRof fRof).with nRpi fRpi
theorem w8m :Zu prog Pe:=j2f (j2g v5r)
inductive mmkS where
def mmkC (l0:List R6):mmkS→Cfg
 :=nofun
def x8s (l0:List R6):mmkS→Xv mmkS
 :=nofun
def y2v (l0:List R6):Xv mmkS:=(bif (z8f (cvT l0)) then (bif (j1k (cvT l0)) then (.ret [(.bool true)]) else (bif (z6y (cvT l0)) then (bif (y4o (cvT (z0e (cvT l0)))) then (bif (z7k (cvT l0)) then (bif (z8a (cvT (z0e (cvT l0)))) then (bif (z7h (cvT l0)) then (bif (z7c (cvT (Vq (cvT (z0e (cvT l0))))) (cvT (Ut (cvT l0)))) then (bif (rsqV (cvT (Vq (cvT (z0e (cvT l0))))) (cvT (Ut (cvT l0)))) then (bif ((y4p (cvT (z0e (cvT l0)))) == (z7l (cvT l0))) then (bif ((y8u (cvT (z0e (cvT l0)))) == (y7z (cvT l0))) then (bif ((y8t (cvT (z0e (cvT l0)))) == (y7y (cvT l0))) then (bif (Vg (cvT (z0e (cvT l0))) (cvT l0)) then (.ret [(.bool (Kw (cvT (z0e (cvT l0))) (cvT l0)))]) else .stuck) else (.ret [(.bool false)])) else (.ret [(.bool false)])) else (.ret [(.bool false)])) else (.ret [(.bool false)])) else .stuck) else .stuck) else .stuck) else .stuck) else .stuck) else .stuck)) else .stuck)
theorem w6k (l0:List R6): ∀s,Ys prog (Zy prog 3) (mmkC l0) (mmkC l0 s) (x8s l0 s)
 :=nofun
theorem x8t (l0:List R6):Ys prog (Zy prog 3) (mmkC l0) (Za prog 3 [(.dat l0.length (Zz l0))] true []) (y2v l0):=(lo fun bW=>(lb (fun k0=>(lr 59 3 [1,0,1,0,0] 1 3 [(2,(.bool true))] (sl w8m 15 [] ⟨[],[],[some [2]],[]⟩ ⟨[],[],[]⟩ [true] (tt k0 (pp (pp (xr l0) (xw bW)) nn))))) (fun k0=>(lo fun aF=>(lo fun aR=>(lo fun bV=>(lo fun cJ=>(lo fun cR=>(lo fun cI=>(lb (fun k1=>(lb (fun k2=>(lb (fun k3=>(lb (fun k4=>(lo fun o0=>(lr 59 3 [1,1,1,1,1,1,1,0] 1 3 [(2,(.bool (Kw (cvT (z0e (cvT l0))) (cvT l0))))] (sl w8m 85 [] ⟨[],[],[some [2]],[]⟩ ⟨[],[],[]⟩ [false,true,true,true,true,true,true,true,true,true,true,true,true] (pp (pp (xI R6 (z0e (cvT l0)).length (Zz (z0e (cvT l0)))) (pp (xr l0) (xw o0))) (tt k4 (tt k3 (tt k2 (tt k1 (pp (pp (xI R7 (Vq (cvT (z0e (cvT l0)))).length (Zz (Vq (cvT (z0e (cvT l0)))))) (pp (xI R7 (Ut (cvT l0)).length (Zz (Ut (cvT l0)))) (xw cI))) (pp (pp (xr l0) (xw cR)) (pp (pp (xI R6 (z0e (cvT l0)).length (Zz (z0e (cvT l0)))) (xw cJ)) (pp (pp (xr l0) (xw bV)) (pp (pp (xI R6 (z0e (cvT l0)).length (Zz (z0e (cvT l0)))) (xw aR)) (pp (pp (xr l0) (xw aF)) (tt k0 (pp (pp (xr l0) (xw bW)) nn))))))))))))))))) (fun k4=>(lr 59 3 [1,1,1,1,1,1,1,0] 1 3 [(2,(.bool false))] (sl w8m 85 [] ⟨[],[],[some [2]],[]⟩ ⟨[],[],[]⟩ [false,true,true,true,true,true,true,true,true,true,false,false,false] (tt k4 (tt k3 (tt k2 (tt k1 (pp (pp (xI R7 (Vq (cvT (z0e (cvT l0)))).length (Zz (Vq (cvT (z0e (cvT l0)))))) (pp (xI R7 (Ut (cvT l0)).length (Zz (Ut (cvT l0)))) (xw cI))) (pp (pp (xr l0) (xw cR)) (pp (pp (xI R6 (z0e (cvT l0)).length (Zz (z0e (cvT l0)))) (xw cJ)) (pp (pp (xr l0) (xw bV)) (pp (pp (xI R6 (z0e (cvT l0)).length (Zz (z0e (cvT l0)))) (xw aR)) (pp (pp (xr l0) (xw aF)) (tt k0 (pp (pp (xr l0) (xw bW)) nn))))))))))))))))) (fun k3=>(lr 59 3 [1,1,1,1,1,1,1,0] 1 3 [(2,(.bool false))] (sl w8m 85 [] ⟨[],[],[some [2]],[]⟩ ⟨[],[],[]⟩ [false,true,true,true,true,true,true,false,false,false,false,false,false] (tt k3 (tt k2 (tt k1 (pp (pp (xI R7 (Vq (cvT (z0e (cvT l0)))).length (Zz (Vq (cvT (z0e (cvT l0)))))) (pp (xI R7 (Ut (cvT l0)).length (Zz (Ut (cvT l0)))) (xw cI))) (pp (pp (xr l0) (xw cR)) (pp (pp (xI R6 (z0e (cvT l0)).length (Zz (z0e (cvT l0)))) (xw cJ)) (pp (pp (xr l0) (xw bV)) (pp (pp (xI R6 (z0e (cvT l0)).length (Zz (z0e (cvT l0)))) (xw aR)) (pp (pp (xr l0) (xw aF)) (tt k0 (pp (pp (xr l0) (xw bW)) nn)))))))))))))))) (fun k2=>(lr 59 3 [1,1,1,1,1,1,1,0] 1 3 [(2,(.bool false))] (sl w8m 85 [] ⟨[],[],[some [2]],[]⟩ ⟨[],[],[]⟩ [false,true,true,true,false,false,false,false,false,false,false,false,false] (tt k2 (tt k1 (pp (pp (xI R7 (Vq (cvT (z0e (cvT l0)))).length (Zz (Vq (cvT (z0e (cvT l0)))))) (pp (xI R7 (Ut (cvT l0)).length (Zz (Ut (cvT l0)))) (xw cI))) (pp (pp (xr l0) (xw cR)) (pp (pp (xI R6 (z0e (cvT l0)).length (Zz (z0e (cvT l0)))) (xw cJ)) (pp (pp (xr l0) (xw bV)) (pp (pp (xI R6 (z0e (cvT l0)).length (Zz (z0e (cvT l0)))) (xw aR)) (pp (pp (xr l0) (xw aF)) (tt k0 (pp (pp (xr l0) (xw bW)) nn))))))))))))))) (fun k1=>(lr 59 3 [1,1,1,1,1,1,1,0] 1 3 [(2,(.bool false))] (sl w8m 85 [] ⟨[],[],[some [2]],[]⟩ ⟨[],[],[]⟩ [false,false,false,false,false,false,false,false,false,false,false,false,false] (tt k1 (pp (pp (xI R7 (Vq (cvT (z0e (cvT l0)))).length (Zz (Vq (cvT (z0e (cvT l0)))))) (pp (xI R7 (Ut (cvT l0)).length (Zz (Ut (cvT l0)))) (xw cI))) (pp (pp (xr l0) (xw cR)) (pp (pp (xI R6 (z0e (cvT l0)).length (Zz (z0e (cvT l0)))) (xw cJ)) (pp (pp (xr l0) (xw bV)) (pp (pp (xI R6 (z0e (cvT l0)).length (Zz (z0e (cvT l0)))) (xw aR)) (pp (pp (xr l0) (xw aF)) (tt k0 (pp (pp (xr l0) (xw bW)) nn))))))))))))))))))))))
theorem mmk_ends (l0:List R6) (n:Nat) (vs:List AVal) (h:Zs (x8s l0) n (y2v l0)=.ret vs):Jw prog (Zy prog 3) (Za prog 3 [(.dat l0.length (Zz l0))] true []) vs:=by have:=Zc (w6k l0) n _ (x8t l0);rwa [h] at this
def fcF (q:Ax) (s:Bool) (L:List R6) (p:Int):List R4:=match s with
 | true=>upF q L p
 | false=>dnF q L p
theorem z2m (q:Ax) (L:List R6):(plQ q L).Pairwise (· < ·):=by unfold plQ;rw [Jd];exact (Wy _).1
theorem Uz (q:Ax) (L:List R6) (p:Int):p∈plQ q L↔ ∃r∈L,p=q.lo r∨p=q.hi r:=by
 unfold plQ;rw [Jd,(Wy _).2 p];unfold z2x;constructor
 ·intro h;obtain ⟨r,hr,h⟩:=AP.1 h;simp only [AG,BD,Cq] at h;exact ⟨r,hr,h⟩
 ·rintro ⟨r,hr,h⟩;exact AP.2 ⟨r,hr,by simp only [AG,BD,Cq];exact h⟩
theorem x4y (E:Int→Int): ∀l:List Int,(∀p∈l,E p=0)→u0z E l=0
 | [],_=>rfl
 | p::l,h=>by unfold u0z;rw [h p (by simp)];exact x4y E l fun x hx=>h x (by simp [hx])
theorem w9f (a:Int): ∀P:List Int,P.Pairwise (· < ·)→(P.map fun p=>if a=p then 1 else 0).sum ≤1
 | [],_=>AD _
 | p::P,h=>by
  obtain ⟨h1,h2⟩:=AU.1 h;rw [AW,BF];by_cases e:a=p
  ·rw [Az e];have:(P.map fun p=>if a=p then 1 else 0)=P.map fun _=>0:=B2 fun x hx=>by have:=h1 x hx;rw [As (by omega)]
   rw [this];have: ∀l:List Int,(l.map fun _=>0).sum =0:=fun l=>by induction l with
    | nil=>rfl
    | cons _ _ ih=>rw [AW,BF,ih]
   rw [this];exact An _
  ·rw [As e];have:=w9f a P h2;omega
theorem y3r (f:R6→Int) (P:List Int) (hP:P.Pairwise (· < ·)) (g:R6→R4): ∀L:List R6,(P.map fun p=>((L.filter fun r=>decide (f r=p)).map g).length).sum ≤L.length
 | []=>by
  have: ∀l:List Int,(l.map fun p=>((([]:List R6).filter fun r=>decide (f r=p)).map g).length).sum =0:=fun l=>by induction l with
   | nil=>rfl
   | cons _ _ ih=>rw [AW,BF,ih];rfl
  rw [this];exact AD _
 | r::L=>by
  have ih:=y3r f P hP g L;have h1:=w9f (f r) P hP;have: ∀l:List Int,(l.map fun p=>(((r::L).filter fun r=>decide (f r=p)).map g).length).sum =(l.map fun p=>if f r=p then 1 else 0).sum +(l.map fun p=>((L.filter fun r=>decide (f r=p)).map g).length).sum :=fun l=>by
   induction l with
   | nil=>rfl
   | cons p l ih=>
    rw [AW,AW,AW,BF,BF,BF,ih,Bs];by_cases e:f r=p
    ·rw [Az (Ag e),Az e,AW,AV];omega
    ·rw [As (by simp [e]),As e];omega
  rw [this,AV];omega
theorem z5c {α β:Type} {f g:α→List β}: ∀{l:List α},(∀a∈l,f a=g a)→l.flatMap f=l.flatMap g
 | [],_=>rfl
 | a::l,h=>by rw [B9,B9,h a (by simp),z5c fun x hx=>h x (by simp [hx])]
theorem z6n {α β:Type} (f:α→List β): ∀l:List α,(l.flatMap f).length =(l.map fun a=>(f a).length).sum
 | []=>rfl
 | a::l=>by rw [B9,Ay,AW,BF,z6n f l]
section
variable {L:List R6} (hv: ∀r∈L,z0a r=true) (hl:L.length≤20) (hL:L.Pairwise Ap6)
include hv hl hL
theorem w2z (q:Ax) (s:Bool) (p:Int) (hp: -1000000≤p∧p≤1000000):Js q L p s=0∧Jk q L p s=fcF q s L p:=by
 have w:wrap .i64 (p - 1)=p - 1:=Zk (by omega);obtain ⟨a1,a2,a3,a4⟩:=y9g q hv hl hL p;obtain ⟨b1,b2,_,_⟩:=y9g q hv hl hL (p - 1);have e:w8p q L p=0:=by unfold w8p Jt;rw [w,b1,a1];rfl
 unfold Js Jk;rw [e,w];unfold Yr;rw [a2,b2];cases s with
 | true=>exact ⟨a3,by show Vv .d _ _=_;unfold Vv;rw [a3];rfl⟩
 | false=>exact ⟨a4,by show Vv .d _ _=_;unfold Vv;rw [a4];rfl⟩
theorem u5e (q:Ax) {p:Int} (h:p∈plQ q L): -1000000≤p∧p≤1000000:=by
 have _u:=hl;have _v:=hL;obtain ⟨r,hr,h⟩:=(Uz q L p).1 h;obtain ⟨_,h1,h2,h3⟩:=q.val (hv r hr);rcases h with rfl | rfl <;> omega
theorem j3q (q:Ax) (s:Bool):dM q s L=(plQ q L).flatMap fun p=>(fcF q s L p).map (qd q s p):=by unfold dM v5y;exact z5c fun p hp=>by rw [(w2z hv hl hL q s p (u5e hv hl hL q hp)).2]
theorem v4n (q:Ax) (s:Bool):z9b q s L=0:=x4y _ _ fun p hp=>(w2z hv hl hL q s p (u5e hv hl hL q hp)).1
theorem w0h (q:Ax):(dM q true L).length +(dM q false L).length ≤800:=by
 rw [j3q hv hl hL,j3q hv hl hL,z6n,z6n];have hr: ∀r∈L,q.lo r<q.hi r:=fun r h=>(q.val (hv r h)).2.1;have key: ∀P:List Int,(P.map fun p=>((fcF q true L p).map (qd q true p)).length).sum +(P.map fun p=>((fcF q false L p).map (qd q false p)).length).sum ≤20*((P.map fun p=>(hiL q L p).length).sum +(P.map fun p=>(loL q L p).length).sum):=fun P=>by
  induction P with
  | nil=>exact An _
  | cons p P ih=>simp only [AW,BF,AT] at ih ⊢;have h1:=y9x q hv hl hL p;have h2:=AL (y3o q hr p) hl;have h3:=AK ((hiL q L p).length +(loL q L p).length) h2;have e1:(fcF q true L p).length =(upF q L p).length :=rfl;have e2:(fcF q false L p).length =(dnF q L p).length :=rfl;omega
 have h1:=y3r q.hi (plQ q L) (z2m q L) q.rc L;have h2:=y3r q.lo (plQ q L) (z2m q L) q.rc L;have:=key (plQ q L);unfold hiL loL at this;omega
theorem v2z :v5w L=0∧(x8v L).length ≤2400:=by
 have h1:=w0h hv hl hL .x;have h2:=w0h hv hl hL .y;have h3:=w0h hv hl hL .z;have hn:(x8v L).length ≤2400:=by unfold x8v;simp only [Ay];omega
 refine ⟨?_,hn⟩;unfold v5w;simp only [v4n hv hl hL];rw [Au (by omega)];rfl
end
section
variable {L:List R6} (h:Wx L=0) (hl:L.length≤20)
include h hl
end
section
variable {L:List R6} (h:Wx L=0) (hl:L.length≤20)
include h hl
end
section
variable {L:List R6} (h:Wx L=0) (hl:L.length≤20)
include h hl
end
def v1y (P:Prop):Nat:= @ite _ P (Classical.propDecidable P) 1 0
theorem x0w {P:Prop} (h:P):v1y P=1:= @Az _ (Classical.propDecidable P) h _ _ _
theorem x0x {P:Prop} (h: ¬P):v1y P=0:= @As _ (Classical.propDecidable P) h _ _ _
theorem u2r (L:List R6) (x y z:Int):u2t L x y z=true↔inS L x y z:=by
 unfold u2t inS;rw [List.any_eq_true];constructor
 ·rintro ⟨r,hr,h⟩;simp only [shR,Ac,At] at h;exact ⟨r,hr,⟨h.1,h.2.1⟩,⟨h.2.2.1,h.2.2.2.1⟩,h.2.2.2.2.1,h.2.2.2.2.2⟩
 ·rintro ⟨r,hr,⟨h1,h2⟩,⟨h3,h4⟩,h5,h6⟩;exact ⟨r,hr,by simp only [shR,Ac,At];exact ⟨h1,h2,h3,h4,h5,h6⟩⟩
theorem z5q {L:List R6} (hv: ∀r∈L,z0a r=true) (q:Ax) {p:Int} (h:p∈plQ q L): -1000000≤p∧p≤1000000:=by obtain ⟨r,hr,h⟩:=(Uz q L p).1 h;obtain ⟨_,h1,h2,h3⟩:=q.val (hv r hr);rcases h with rfl | rfl <;> omega
def inI (q:Ax) (L:List R6) (u w p:Int):Int:=(v1y (q.inL L p u w):Int)
theorem w9t (g:Int→Int) (c:Int): ∀P:List Int,c ∉ P→sm P (fun x=>if x=c then g x else 0)=0
 | [],_=>rfl
 | x::P,h=>by rw [We,w9t g c P (fun k=>h (by simp [k])),As (fun e=>h (by simp [e]))];rfl
theorem u2j (g:Int→Int) (c:Int): ∀P:List Int,P.Pairwise (· < ·)→(c ∉ P→g c=0)→sm P (fun x=>if x=c then g x else 0)=g c
 | [],_,h=>(h (by simp)).symm
 | x::P,hP,h=>by
  obtain ⟨h1,h2⟩:=AU.1 hP;rw [We];by_cases e:x=c
  ·subst e;rw [Az rfl,w9t g x P fun k=>by have:=h1 x k;omega];omega
  ·rw [As e,u2j g c P h2 fun k=>h (by simp [k,Ne.symm e])];omega
theorem u2i (g:Int→Int) (lo:Int) (P:List Int) (hP:P.Pairwise (· < ·)) (hl: ∀x∈P,lo≤x) (hz: ∀x,x ∉ P→g x=0): ∀n:Nat,sm P (fun x=>if x<lo+(n:Int) then g x else 0)=sm (w8o lo n) g
 | 0=>by show _=(0:Int);rw [Yv (g:=fun _=>0) fun x hx=>As (by have:=hl x hx;omega),Vw]
 | n+1=>by
  have ih:=u2i g lo P hP hl hz n;unfold w8o at ih ⊢;rw [BH,Be,Ks,←ih,AW,A5,We,z3h,←u2j g (lo+(n:Int)) P hP (hz _),A6,←z5n];exact Yv fun x _=>by
   by_cases h1:x<lo+(n:Int)
   ·rw [Az h1,Az (by omega),As (by omega)];omega
   ·by_cases h2:x=lo+(n:Int)
    ·rw [As h1,Az h2,Az (by omega)];omega
    ·rw [As h1,As h2,As (by omega)];rfl
theorem tel_n (f:Int→Int) (lo:Int): ∀n:Nat,sm (w8o lo n) (fun x=>f (x - 1) - f x)=f (lo - 1) - f (lo+(n:Int) - 1)
 | 0=>by show (0:Int)=_;rw [show lo+((0:Nat):Int) - 1=lo - 1 by omega];omega
 | n+1=>by have ih:=tel_n f lo n;unfold w8o at ih ⊢;rw [BH,Be,Ks,ih,AW,A5,We,z3h,show lo+((n+1:Nat):Int) - 1=lo+(n:Int) by omega];omega
theorem u7e (f:Int→Int) (lo:Int): ∀n:Nat,sm (w8o lo n) (fun x=>x*(f (x - 1) - f x))=sm (w8o lo n) f+lo*f (lo - 1) - (lo+(n:Int))*f (lo+(n:Int) - 1)
 | 0=>by show (0:Int)=0+_ - _;rw [show lo+((0:Nat):Int)=lo by omega];omega
 | n+1=>by have ih:=u7e f lo n;unfold w8o at ih ⊢;rw [BH,Be,Ks,Ks,ih,AW,A5,We,z3h,We,z3h,show lo+((n+1:Nat):Int) - 1=lo+(n:Int) by omega,show lo+((n+1:Nat):Int)=(lo+(n:Int))+1 by omega];generalize lo+(n:Int)=c;rw [Int.mul_sub,Int.add_mul c 1,Int.one_mul];omega
structure PtS (p:List Int):Prop where
 pts:Pts p
 sum: ∀(g:Int→Int) (P:List Int),P.Pairwise (· < ·)→(∀x∈P,-1000005≤x∧x<1000005)→(∀x,x ∉ P→g x=0)→sm P g=sm p g
 tel: ∀f:Int→Int,f (-1000006)=0→f 1000004=0→sm p (fun x=>f (x - 1) - f x)=0
 abel: ∀f:Int→Int,f (-1000006)=0→f 1000004=0→sm p (fun x=>x*(f (x - 1) - f x))=sm p f
theorem ptS_ex : ∃p,PtS p:=by
 have key: ∀N:Nat,(N:Int)=2000010→PtS (w8o (-1000005) N):=fun N hN=>by
  have e1:(-1000005:Int) - 1= -1000006:=by decide
  have e2:(-1000005:Int)+(N:Int) - 1=1000004:=by omega
  refine ⟨⟨fun a b h=> ?_,?_⟩,fun g P hP hb hz=> ?_,fun f h1 h2=> ?_,fun f h1 h2=> ?_⟩
  ·rw [v3o];unfold ovl;omega
  ·simp only [w8o,AT,B8];omega
  ·rw [←u2i g (-1000005) P hP (fun x hx=>(hb x hx).1) hz N];exact Yv fun x hx=>(Az (by have:=hb x hx;omega)).symm
  ·rw [tel_n,e1,e2,h1,h2];rfl
  ·rw [u7e,e1,e2,h1,h2];omega
 exact ⟨_,key 2000010 rfl⟩
theorem z2p {P Q:Prop} (h:P↔Q):v1y P=v1y Q:=by
 by_cases g:P
 ·rw [x0w g,x0w (h.1 g)]
 ·rw [x0x g,x0x fun k=>g (h.2 k)]
theorem z6b (q:Ax) (L:List R6) {x:Int} (hx:x ∉ plQ q L) (u w:Int):q.inL L (x - 1) u w↔q.inL L x u w:=by
 constructor
 ·rintro ⟨r,hr,⟨h1,h2⟩,k⟩;exact ⟨r,hr,⟨by omega,A0 fun hn=>hx ((Uz q L x).2 ⟨r,hr,.inr (by omega)⟩)⟩,k⟩
 ·rintro ⟨r,hr,⟨h1,h2⟩,k⟩;exact ⟨r,hr,⟨A0 fun hn=>hx ((Uz q L x).2 ⟨r,hr,.inl (by omega)⟩),by omega⟩,k⟩
section
variable {L:List R6} (hv: ∀r∈L,z0a r=true) (hz:v5w L=0)
include hv hz
end
theorem j1h {L:List R6} (ha:L.Pairwise Ap6) (q:Ax) (u w x:Int):inI q L u w x=cnt L (q.to x u w).1 (q.to x u w).2.1 (q.to x u w).2.2:=by
 obtain ⟨c1,c2⟩:=cnt_eq L ha (q.to x u w).1 (q.to x u w).2.1 (q.to x u w).2.2;unfold inI;rw [z2p (q.inL_S L x u w)];by_cases g:inS L (q.to x u w).1 (q.to x u w).2.1 (q.to x u w).2.2
 ·rw [x0w g,c1 g];rfl
 ·rw [x0x g,c2 g];rfl
section
variable {L:List R6} (h:Wx L=0) (hz:v5w L=0)
include h hz
end
theorem z9l {xs:List Int} {i:Nat} (h:i<xs.length):rd xs i∈xs:=by rw [Yo h];exact AN h
theorem v1j {xs:List Int} {x:Int} (h:x∈xs): ∃i,i<xs.length∧rd xs i=x:=by obtain ⟨i,hi,e⟩:=A1 h;exact ⟨i,hi,by rw [Yo hi];exact e⟩
theorem z5f {xs:List Int} (hx:xs.Pairwise (· < ·)) {G:Int→Prop} (h: ∀t,t ∉ xs→(G (t - 1)↔G t)) {i:Nat} (hi:i+1<xs.length) {u:Int} (h1:rd xs i≤u) (h2:u<rd xs (i+1)):G u↔G (rd xs i):=by
 have gap: ∀t,rd xs i<t→t<rd xs (i+1)→t ∉ xs:=fun t t1 t2 k=>by
  obtain ⟨j,hj,e⟩:=v1j k;rcases Bi i j with g | g
  ·rcases Bd g with e2 | e2
   ·rw [←e2,Nat.succ_eq_add_one] at e;omega
   ·have:=z8b hx e2 hj;have e3:i.succ=i+1:=rfl;rw [e3] at this;omega
  ·rcases Bd g with e2 | e2
   ·rw [e2] at e;omega
   ·have:=z8b hx e2 (by omega);omega
 have go: ∀n:Nat,rd xs i+(n:Int)<rd xs (i+1)→(G (rd xs i+(n:Int))↔G (rd xs i)):=fun n=>by
  induction n with
  | zero=>intro _;rw [show rd xs i+((0:Nat):Int)=rd xs i by omega]
  | succ n ih=>intro hn;rw [←ih (by omega),←h (rd xs i+((n+1:Nat):Int)) (gap _ (by omega) hn),show rd xs i+((n+1:Nat):Int) - 1=rd xs i+(n:Int) by omega]
 have:=go (u - rd xs i).toNat (by omega);rwa [show rd xs i+((u - rd xs i).toNat :Int)=u by omega] at this
theorem v4z {xs:List Int} (hx:xs.Pairwise (· < ·)) {a b u:Int} (ha:a∈xs) (hb:b∈xs) (h1:a≤u) (h2:u<b): ∃i,i+1<xs.length∧rd xs i≤u∧u<rd xs (i+1):=by
 obtain ⟨n,hn,rfl⟩:=v1j ha;obtain ⟨m,hm,rfl⟩:=v1j hb;have h0:rd xs 0≤rd xs n:=by
  rcases BS n with e | e
  ·rw [e];exact AZ _
  ·exact Cs (z8b hx e hn)
 obtain ⟨j,j1,j2,j3⟩:=x1y m hm u (by omega) h2;exact ⟨j,by omega,j2,j3⟩
theorem y3j {ys:List Int} (hy:ys.Pairwise (· < ·)) (P:Int→Bool):Can (z1m ys (ys.map P))∧ ∀w,pt (z1m ys (ys.map P)) w↔ ∃m,m+1<ys.length∧P (rd ys m)=true∧rd ys m≤w∧w<rd ys (m+1):=by
 obtain ⟨r1,r2⟩:=y3k ys (ys.map P) hy (ys.length - 1) 0 [] (by omega) .nil (by simp);refine ⟨r1,fun w=> ?_⟩;have hmap: ∀j,j<ys.length→rd (ys.map P) j=P (rd ys j):=fun j hj=>by rw [Yo (by simpa using hj),Yo hj,BR]
 unfold z1m;rw [r2];constructor
 ·rintro (⟨s,hs,_⟩ | ⟨j,_,h2,h3,h4⟩)
  ·cases hs
  ·rw [hmap j (by omega)] at h3;exact ⟨j,by omega,h3,h4⟩
 ·rintro ⟨m,hm,h3,h4⟩;exact .inr ⟨m,AD _,by omega,by rw [hmap m (by omega)];exact h3,h4⟩
theorem v5d {ys:List Int} (hy:ys.Pairwise (· < ·)) (P:Int→Bool):2*(z1m ys (ys.map P)).length ≤ys.length:=by
 obtain ⟨c,pts⟩:=y3j hy P;have hsub: ∀y∈z8v (z1m ys (ys.map P)),y∈ys:=fun y h=>A0 fun hn=>chg c h (by
  rw [pts,pts];have key: ∀m,m+1<ys.length→((rd ys m≤y - 1∧y - 1<rd ys (m+1))↔(rd ys m≤y∧y<rd ys (m+1))):=fun m hm=>by have n1:y≠rd ys m:=fun e=>hn (e ▸ z9l (by omega));have n2:y≠rd ys (m+1):=fun e=>hn (e ▸ z9l hm);omega
  constructor
  ·rintro ⟨m,hm,h1,h2⟩;exact ⟨m,hm,h1,(key m hm).1 h2⟩
  ·rintro ⟨m,hm,h1,h2⟩;exact ⟨m,hm,h1,(key m hm).2 h2⟩)
 have:=z7z _ ys ((z8u c).imp fun {a b} h=>by omega) hsub;rw [Qu] at this;omega
theorem y8a {xs ys:List Int} (hy:ys.Pairwise (· < ·)) (P:Int→Int→Bool): ∀k i,2*(z0f xs ys P k i).length ≤ys.length*k
 | 0,i=>AD _
 | k+1,i=>by have h1:=v5d hy (P (rd xs i));have h2:=y8a (xs:=xs) hy P k (i+1);unfold z0f;rw [Ay,AT,Nat.mul_succ];omega
theorem z7j {xs ys:List Int} (P:Int→Int→Bool) (r:R4): ∀k i,r∈z0f xs ys P k i↔ ∃j,i≤j∧j<i+k∧ ∃s∈z1m ys (ys.map (P (rd xs j))),r=⟨rd xs j,s.a,rd xs (j+1),s.b⟩
 | 0,i=>⟨fun h=>(by cases h),fun ⟨j,h1,h2,_⟩=>by omega⟩
 | k+1,i=>by
  unfold z0f;rw [AF,z7j P r k (i+1),AR];constructor
  ·rintro (⟨s,hs,e⟩ | ⟨j,h1,h2,h3⟩)
   ·exact ⟨i,An _,by omega,s,hs,e.symm⟩
   ·exact ⟨j,by omega,by omega,h3⟩
  ·rintro ⟨j,h1,h2,s,hs,e⟩;rcases Bd h1 with rfl | h1
   ·exact .inl ⟨s,hs,e.symm⟩
   ·exact .inr ⟨j,h1,by omega,s,hs,e⟩
theorem w1x {xs ys:List Int} (hx:xs.Pairwise (· < ·)) (hy:ys.Pairwise (· < ·)) (lx:xs.length≤24) (ly:ys.length≤24) (bx: ∀x∈xs,-1000000≤x∧x≤1000000) (by': ∀y∈ys,-1000000≤y∧y≤1000000) (F:Int→Int→Prop) (P:Int→Int→Bool) (hP: ∀x y,P x y=true↔F x y)
  (fx: ∀t w,t ∉ xs→(F (t - 1) w↔F t w)) (fy: ∀u t,t ∉ ys→(F u (t - 1)↔F u t)) (cx: ∀u w,F u w→ ∃a∈xs,∃b∈xs,a≤u∧u<b) (cy: ∀u w,F u w→ ∃a∈ys,∃b∈ys,a≤w∧w<b):
  Qd.can (joV 2 (z0f xs ys P (xs.length - 1) 0) [])∧ ∀u w,ptL Qd.inB (joV 2 (z0f xs ys P (xs.length - 1) 0) []) (u,w)↔F u w:=by
 have hv: ∀r∈z0f xs ys P (xs.length - 1) 0,Vj r=true:=fun r hr=>by
  obtain ⟨j,_,hj,s,hs,rfl⟩:=(z7j P r _ _).1 hr;obtain ⟨c,pts⟩:=y3j hy (P (rd xs j));have hp:=Can.pos c s hs;obtain ⟨m,hm,_,m1,_⟩:=(pts s.a).1 ⟨s,hs,AZ _,hp⟩;obtain ⟨n,hn,_,_,n2⟩:=(pts (s.b - 1)).1 ⟨s,hs,by omega,by omega⟩;have b1:=bx _ (z9l (show j<xs.length by omega));have b2:=bx _ (z9l (show j+1<xs.length by omega));have b3:=by' _ (z9l (show m<ys.length by omega))
  have b4:=by' _ (z9l hn)
  have hlt:=z8b hx (BQ j) (show j+1<xs.length by omega);have e3:j.succ=j+1:=rfl;rw [e3] at hlt;simp only [Vj,Ac,At];omega
 have hl:(z0f xs ys P (xs.length - 1) 0).length ≤400:=by have h1:=y8a (xs:=xs) hy P (xs.length - 1) 0;have h2:ys.length*(xs.length - 1)≤24*23:=BX ly (by omega);omega
 have e:joV 2 (z0f xs ys P (xs.length - 1) 0) []=D4.out (z0f xs ys P (xs.length - 1) 0):=(u6p _ (Aw.2 hv) hl).symm;obtain ⟨h1,h2⟩:=y4c hv hl;rw [e];refine ⟨h1,fun u w=> ?_⟩;rw [h2,j0b];constructor
 ·rintro ⟨r,hr,k1,k2⟩;obtain ⟨j,_,hj,s,hs,rfl⟩:=(z7j P r _ _).1 hr;obtain ⟨c,pts⟩:=y3j hy (P (rd xs j));obtain ⟨m,hm,hp,m1⟩:=(pts w).1 ⟨s,hs,k2⟩;have g1:=(hP _ _).1 hp;have g2:=(z5f hy (G:=fun w=>F (rd xs j) w) (fun t ht=>fy _ t ht) hm m1.1 m1.2).2 g1;exact (z5f hx (G:=fun u=>F u w) (fun t ht=>fx t w ht) (show j+1<xs.length by omega) k1.1 k1.2).2 g2
 ·intro h;obtain ⟨a,ha,b,hb,a1,a2⟩:=cx u w h;obtain ⟨j,hj,j1,j2⟩:=v4z hx ha hb a1 a2;have g2:=(z5f hx (G:=fun u=>F u w) (fun t ht=>fx t w ht) hj j1 j2).1 h;obtain ⟨a',ha',b',hb',a3,a4⟩:=cy _ w g2;obtain ⟨m,hm,m1,m2⟩:=v4z hy ha' hb' a3 a4;have g1:=(z5f hy (G:=fun w=>F (rd xs j) w) (fun t ht=>fy _ t ht) hm m1 m2).1 g2;obtain ⟨c,pts⟩:=y3j hy (P (rd xs j));obtain ⟨s,hs,s1,s2⟩:=(pts w).2 ⟨m,hm,(hP _ _).2 g1,m1,m2⟩;exact ⟨_,(z7j P _ _ _).2 ⟨j,AD _,by omega,s,hs,rfl⟩,⟨j1,j2⟩,s1,s2⟩
def Ax.ua (q:Ax):Ax:=match q with
 | .x =>.y
 | .y =>.x
 | .z =>.x
def Ax.wa (q:Ax):Ax:=match q with
 | .x =>.z
 | .y =>.z
 | .z =>.y
theorem z8r (q:Ax) (L:List R6):Kq L q.ix=plQ q L:=by
 unfold Kq plQ;rw [Jd]
 congr 1
 unfold u1f z2x;exact z5c fun r _=>by cases q <;> rfl
theorem u7o (q:Ax) (L:List R6):uX L q.ix=plQ q.ua L:=by
 cases q
 ·exact z8r .y L
 ·exact z8r .x L
 ·exact z8r .x L
theorem u7n (q:Ax) (L:List R6):uY L q.ix=plQ q.wa L:=by
 cases q
 ·exact z8r .z L
 ·exact z8r .z L
 ·exact z8r .y L
theorem v1w (q:Ax) (L:List R6) (p u w:Int):pU L q.ix p u w=true↔q.inL L p u w:=by rw [q.inL_S];cases q <;> exact u2r _ _ _ _
theorem w1q (q:Ax) (L:List R6) {t:Int} (h:t ∉ plQ q.ua L) (p w:Int):q.inL L p (t - 1) w↔q.inL L p t w:=by
 cases q
 ·have:=z6b .y L h p w;rw [Ax.inL_S,Ax.inL_S] at this ⊢;exact this
 ·have:=z6b .x L h p w;rw [Ax.inL_S,Ax.inL_S] at this ⊢;exact this
 ·have:=z6b .x L h w p;rw [Ax.inL_S,Ax.inL_S] at this ⊢;exact this
theorem w1p (q:Ax) (L:List R6) {t:Int} (h:t ∉ plQ q.wa L) (p u:Int):q.inL L p u (t - 1)↔q.inL L p u t:=by
 cases q
 ·have:=z6b .z L h p u;rw [Ax.inL_S,Ax.inL_S] at this ⊢;exact this
 ·have:=z6b .z L h u p;rw [Ax.inL_S,Ax.inL_S] at this ⊢;exact this
 ·have:=z6b .y L h u p;rw [Ax.inL_S,Ax.inL_S] at this ⊢;exact this
theorem in_u (q:Ax) {L:List R6} {p u w:Int} (h:q.inL L p u w): ∃a∈plQ q.ua L,∃b∈plQ q.ua L,a≤u∧u<b:=by
 obtain ⟨r,hr,_,h2,_⟩:=h;cases q
 ·exact ⟨r.b,(Uz _ L _).2 ⟨r,hr,.inl rfl⟩,r.e,(Uz _ L _).2 ⟨r,hr,.inr rfl⟩,h2⟩
 ·exact ⟨r.a,(Uz _ L _).2 ⟨r,hr,.inl rfl⟩,r.d,(Uz _ L _).2 ⟨r,hr,.inr rfl⟩,h2⟩
 ·exact ⟨r.a,(Uz _ L _).2 ⟨r,hr,.inl rfl⟩,r.d,(Uz _ L _).2 ⟨r,hr,.inr rfl⟩,h2⟩
theorem in_w (q:Ax) {L:List R6} {p u w:Int} (h:q.inL L p u w): ∃a∈plQ q.wa L,∃b∈plQ q.wa L,a≤w∧w<b:=by
 obtain ⟨r,hr,_,_,h2⟩:=h;cases q
 ·exact ⟨r.c,(Uz _ L _).2 ⟨r,hr,.inl rfl⟩,r.f,(Uz _ L _).2 ⟨r,hr,.inr rfl⟩,h2⟩
 ·exact ⟨r.c,(Uz _ L _).2 ⟨r,hr,.inl rfl⟩,r.f,(Uz _ L _).2 ⟨r,hr,.inr rfl⟩,h2⟩
 ·exact ⟨r.b,(Uz _ L _).2 ⟨r,hr,.inl rfl⟩,r.e,(Uz _ L _).2 ⟨r,hr,.inr rfl⟩,h2⟩
theorem x0u (q:Ax) {L:List R6} (hl:L.length≤12):(plQ q L).length ≤24:=by have:=z4x q L;omega
section
variable {L:List R6} (h:Wx L=0) (hl:L.length≤12)
include h hl
theorem rse_eq (q:Ax) (p:Int):v7g L q.ix p=D4.out (z1l q L p):=by obtain ⟨_,hv,_,hL⟩:=Ky h;have f:=fw q hv (by omega) p;have r:=w1x (z2m q.ua L) (z2m q.wa L) (x0u _ hl) (x0u _ hl) (fun x hx=>z5q hv _ hx) (fun x hx=>z5q hv _ hx) (fun u w=>q.inL L p u w) (w1v L q.ix p) (fun x y=>v1w q L p x y) (fun t w ht=>w1q q L ht p w) (fun u t ht=>w1p q L ht p u) (fun u w k=>in_u q k) (fun u w k=>in_w q k);unfold v7g;rw [u7o,u7n];refine Qd.uniq _ _ r.1 f.can fun ⟨u,w⟩=> ?_;rw [r.2,f.pts,x5c]
theorem v1f (q:Ax) (s:Bool) {p:Int} (hp: -1000000≤p∧p≤1000000):x0o L q.ix (sdI s) p=fcF q s L p:=by
 obtain ⟨_,hv,_,hL⟩:=Ky h;have w1:wrap .i64 (p - 1)=p - 1:=Zk (by omega);have r:=w1x (z2m q.ua L) (z2m q.wa L) (x0u _ hl) (x0u _ hl) (fun x hx=>z5q hv _ hx) (fun x hx=>z5q hv _ hx) (fun u w=>match s with
   | true=>q.inL L (p - 1) u w∧ ¬q.inL L p u w
   | false=>q.inL L p u w∧ ¬q.inL L (p - 1) u w) (x5x L q.ix (sdI s) p) (fun x y=>by
   unfold x5x;rw [w1];have a1:=v1w q L (p - 1) x y;have a2:=v1w q L p x y;cases s with
   | true=>show (!(pU L q.ix (p - 1) x y == pU L q.ix p x y)&&(pU L q.ix (p - 1) x y == true))=true↔_;rw [←a1,←a2];cases pU L q.ix (p - 1) x y <;> cases pU L q.ix p x y <;> simp
   | false=>
    show (!(pU L q.ix (p - 1) x y == pU L q.ix p x y)&&(pU L q.ix (p - 1) x y == false))=true↔_;rw [←a1,←a2];cases pU L q.ix (p - 1) x y <;> cases pU L q.ix p x y <;> simp)
  (fun t w ht=>by
   have a1:=w1q q L ht (p - 1) w;have a2:=w1q q L ht p w;cases s <;> (show (_∧ ¬_)↔(_∧ ¬_);rw [a1,a2]))
  (fun u t ht=>by
   have a1:=w1p q L ht (p - 1) u;have a2:=w1p q L ht p u;cases s <;> (show (_∧ ¬_)↔(_∧ ¬_);rw [a1,a2]))
  (fun u w k=>by cases s <;> exact in_u q k.1) (fun u w k=>by cases s <;> exact in_w q k.1)
 unfold x0o;rw [u7o,u7n];cases s with
 | true=>obtain ⟨u1,u2⟩:=w9b q hv (by omega) p;refine Qd.uniq _ _ r.1 u1 fun ⟨u,w⟩=> ?_;exact (r.2 u w).trans (u2 u w).symm
 | false=>obtain ⟨u1,u2⟩:=v4m q hv (by omega) p;refine Qd.uniq _ _ r.1 u1 fun ⟨u,w⟩=> ?_;exact (r.2 u w).trans (u2 u w).symm
theorem rma_no :v7s L=false:=by
 obtain ⟨_,hv,_,hL⟩:=Ky h;have one: ∀(q:Ax) p,p∈Kq L q.ix→maP L q.ix p=false:=fun q p hp=>by rw [z8r] at hp;have hb:=z5q hv q hp;have f:=fw q hv (by omega) p;have hc:=x1v q L p;have hlt: ∀s∈L,q.lo s<q.hi s:=fun s hs=>(q.val (hv s hs)).2.1;have ud:=y9x q hv (by omega) hL p;have tl:=y3o q hlt p;have m1:(z1l q L p).length *(z1l q L p).length ≤12*12:=BX (by omega) (by omega);have m2:((hiL q L p).length +(loL q L p).length)*((hiL q L p).length +(loL q L p).length)≤12*12:=BX (by omega) (by omega);have f1:=f.len;unfold maP;have e0:x0o L q.ix 0 p=upF q L p:=v1f h hl q true hb;have e1:x0o L q.ix 1 p=dnF q L p:=v1f h hl q false hb;rw [rse_eq h hl,e0,e1,Au (by omega),Au (by omega),Au (by omega)];rfl
 have all: ∀q:Ax,(Kq L q.ix).any (maP L q.ix)=false:=fun q=>by rw [List.any_eq_false];intro p hp;rw [one q p hp];simp
 have a0:(Kq L ((0:Nat):Int)).any (maP L ((0:Nat):Int))=false:=all .x;have a1:(Kq L ((0+1:Nat):Int)).any (maP L ((0+1:Nat):Int))=false:=all .y;have a2:(Kq L ((0+1+1:Nat):Int)).any (maP L ((0+1+1:Nat):Int))=false:=all .z;unfold v7s maD;rw [a0,Cb];unfold maD;rw [a1,Cb];unfold maD;rw [a2,Cb];rfl
theorem rqP_eq (q:Ax) (s:Bool) (d:Int) (hd:d=2*q.ix+sdI s):rqP L d (Kq L (dh d))=dM q s L:=by
 obtain ⟨_,hv,_,hL⟩:=Ky h;have e1:dh d=q.ix∧Int.tmod d 2=sdI s:=by subst hd;cases q <;> cases s <;> exact ⟨rfl,rfl⟩
 rw [j3q hv (by omega) hL,e1.1,z8r];unfold rqP;rw [e1.1,e1.2];refine z5c fun p hp=> ?_;rw [v1f h hl q s (z5q hv q hp)];refine B2 fun t _=> ?_;subst hd;cases q <;> cases s <;> rfl
theorem rqu_eq :x2q L=x8v L:=by have e: ∀q s (i:Nat),(i:Int)=2*q.ix+sdI s→rqP L (i:Int) (Kq L (dh (i:Int)))=dM q s L:=fun q s i hi=>rqP_eq h hl q s _ hi;unfold x2q x8v;simp only [rqD];rw [e .x true 0 rfl,e .x false (0+1) rfl,e .y true (0+1+1) rfl,e .y false (0+1+1+1) rfl,e .z true (0+1+1+1+1) rfl,e .z false (0+1+1+1+1+1) rfl,AB];simp only [AH]
end
theorem rof_eq {L:List R6} (hl:L.length≤12∨400<L.length):Ut L=Vq L∧z7l L=y4p L:=by
 unfold Ut z7l Vq y4p;rw [←w3y L];rcases Ym (Wx L != 0) with q1 | q1
 ·rw [q1];exact ⟨rfl,rfl⟩
 have h:Wx L=0:=by simpa using q1
 have hl:L.length≤12:=by
  rcases hl with hl | hl
  ·exact hl
  ·have:=(Ky h).1;omega
 obtain ⟨_,hv,_,hL⟩:=Ky h;obtain ⟨hz,hn⟩:=v2z hv (by omega) hL;unfold Kk z5s;rw [q1,rma_no h hl,rqu_eq h hl,hz,Au (by omega)];exact ⟨rfl,rfl⟩
def z4f :Int→List Int→Int
 | a,[]=>a
 | _,b::l=>z4f b l
theorem x9e : ∀(l:List Int) (a:Int),(a::l).Pairwise (· ≤ ·)→a≤z4f a l
 | [],a,_=>AZ _
 | b::l,a,h=>by obtain ⟨h1,h2⟩:=AU.1 h;have:=x9e l b h2;have:=h1 b (by simp);show a≤z4f b l;omega
theorem x6s {p:List Int} (hp:Pts p) {g:Int→Int}: ∀(l:List Int) (a:Int),(a::l).Pairwise (· ≤ ·)→ -1000005≤a→z4f a l≤1000005→(∀t,a<t→t<z4f a l→t ∉ l→g (t - 1)=g t)→sgS g a l=sm p fun t=>if a≤t∧t<z4f a l then g t else 0
 | [],a,_,_,_,_=>by rw [Yv (g:=fun _=>0) fun t _=>As (by show¬(a≤t∧t<a);omega),Vw];rfl
 | b::l,a,h,ha,hb,hg=>by
  obtain ⟨h1,h2⟩:=AU.1 h;have hab:=h1 b (by simp);have hbl:=x9e l b h2;have hb:z4f b l≤1000005:=hb;have low: ∀t∈b::l,b≤t:=fun t ht=>by
   rcases AG.1 ht with rfl | ht
   ·exact AZ _
   ·exact (AU.1 h2).1 t ht
  have cst: ∀n:Nat,a+(n:Int)<b→g (a+(n:Int))=g a:=fun n=>by
   induction n with
   | zero=>intro _;rw [show a+((0:Nat):Int)=a by omega]
   | succ n ih=>
    intro hn;rw [←ih (by omega),←hg (a+((n+1:Nat):Int)) (by omega) (by show _<z4f b l;omega) (fun k=>by have:=low _ k;omega)]
    congr 1;omega
  have ih:=x6s hp l b h2 (by omega) hb fun t t1 t2 t3=>hg t (by omega) t2 fun k=>by
   rcases AG.1 k with rfl | k
   ·omega
   ·exact t3 k
  show g a*(b - a)+sgS g b l=sm p fun t=>if a≤t∧t<z4f b l then g t else 0
  rw [ih,show g a*(b - a)=sm p fun t=>g a*ind a b t by rw [x0b,hp.1 a b ⟨ha,by omega⟩,show max 0 (b - a)=b - a by omega],←z5n];refine Yv fun t _=> ?_;unfold ind;by_cases q1:a≤t∧t<b
  ·have e:=cst (t - a).toNat (by omega);rw [show a+((t - a).toNat :Int)=t by omega] at e;rw [Az q1,As (by omega),Az (by omega),e];omega
  ·rw [As q1];by_cases q2:b≤t∧t<z4f b l
   ·rw [Az q2,Az (by omega)];omega
   ·rw [As q2,As (by omega)];omega
theorem w1o (q:Ax) (L:List R6) (t u w:Int):shQ q L t u w=true↔q.inL L t u w:=by rw [q.inL_S];cases q <;> exact u2r _ _ _ _
theorem x4r {q:Ax} {L:List R6} {u w x:Int} (h:q.inL L x u w):inI q L u w x=1:=by unfold inI;rw [x0w h];rfl
theorem y1h {q:Ax} {L:List R6} {u w x:Int} (h: ¬q.inL L x u w):inI q L u w x=0:=by unfold inI;rw [x0x h];rfl
theorem u0m (q:Ax) (L:List R6) (x f s t:Int):gO q L x f s t=(1 - inI q L (x - 1) f t)*(1 - inI q L x s t):=by
 unfold gO;rcases Ym (shQ q L t (x - 1) f) with h1 | h1 <;> rw [h1]
 ·rw [x4r ((w1o ..).1 h1)];simp
 rw [y1h fun k=>by rw [(w1o ..).2 k] at h1;cases h1];rcases Ym (shQ q L t x s) with h2 | h2 <;> rw [h2]
 ·rw [x4r ((w1o ..).1 h2)];simp
 ·rw [y1h fun k=>by rw [(w1o ..).2 k] at h2;cases h2];simp
theorem z5a {q:Ax} {L:List R6} {t:Int} (h:t ∉ plQ q L) (u w:Int):inI q L u w (t - 1)=inI q L u w t:=by unfold inI;rw [z2p (z6b q L h u w)]
theorem u0j (lo hi c x:Int):x∈v3n lo hi c↔x=c∧lo<c∧c<hi:=by unfold v3n;by_cases h1:lo<c <;> by_cases h2:c<hi <;> simp [h1,h2]
theorem w3x (q:Ax) (lo hi x:Int): ∀L:List R6,x∈v5z q lo hi L↔(∃r∈L,x=q.lo r∨x=q.hi r)∧lo<x∧x<hi
 | []=>⟨fun h=>(by cases h),fun ⟨⟨_,h,_⟩,_⟩=>(by cases h)⟩
 | r::L=>by
  have ih:=w3x q lo hi x L;simp only [v5z,AF,ih,u0j];constructor
  ·rintro (⟨rfl,h⟩ | ⟨rfl,h⟩ | ⟨⟨s,hs,h⟩,k⟩)
   ·exact ⟨⟨r,by simp,.inl rfl⟩,h⟩
   ·exact ⟨⟨r,by simp,.inr rfl⟩,h⟩
   ·exact ⟨⟨s,by simp [hs],h⟩,k⟩
  ·rintro ⟨⟨s,hs,h⟩,k⟩;rcases AG.1 hs with rfl | hs
   ·rcases h with rfl | rfl
    ·exact .inl ⟨rfl,k⟩
    ·exact .inr (.inl ⟨rfl,k⟩)
   ·exact .inr (.inr ⟨⟨s,hs,h⟩,k⟩)
theorem x1j : ∀(l:List Int) (a:Int),z4f a l∈a::l
 | [],a=>by simp [z4f]
 | b::l,a=>List.mem_cons_of_mem _ (x1j l b)
theorem x1k : ∀(l:List Int) (a:Int),(a::l).Pairwise (· ≤ ·)→ ∀x∈a::l,x≤z4f a l
 | [],a,_,x,hx=>by rw [AS.1 hx];exact AZ _
 | b::l,a,h,x,hx=>by
  obtain ⟨h1,h2⟩:=AU.1 h;rcases AG.1 hx with rfl | hx
  ·exact x9e (b::l) x h
  ·exact x1k l b h2 x hx
theorem u6s (q:Ax) (L:List R6) (x f s t:Int):0≤gO q L x f s t∧gO q L x f s t≤1:=by unfold gO;cases shQ q L t (x - 1) f <;> cases shQ q L t x s <;> decide
theorem j0k {p:List Int} (hp:Pts p) (q:Ax) (L:List R6) (x y lo hi:Int) (b:Bool) (hlo: -1000000≤lo) (hhi:hi≤1000000):v2r q L x y lo hi b=sm p fun t=>ind lo hi t*gO q L x (bif b then y else y - 1) (bif b then y - 1 else y) t:=by
 unfold v2r;generalize (bif b then y else y - 1)=f;generalize (bif b then y - 1 else y)=s;by_cases hlt:lo<hi
 ·rw [Au (by omega),Aa];have hs:=u1y ([lo,hi]++v5z q lo hi L);have hm:=w9j ([lo,hi]++v5z q lo hi L);have mem: ∀z,z∈ [lo,hi]++v5z q lo hi L↔z=lo∨z=hi∨((∃r∈L,z=q.lo r∨z=q.hi r)∧lo<z∧z<hi):=fun z=>by rw [AF,w3x];simp [or_assoc]
  generalize Xu ([lo,hi]++v5z q lo hi L)=C at hs hm;cases C with
  | nil=>have:=(hm lo).2 ((mem lo).2 (.inl rfl));cases this
  | cons a l=>
   have e1:a=lo:=by
    have h1:=(mem a).1 ((hm a).1 (by simp));have h2:=(hm lo).2 ((mem lo).2 (.inl rfl));rcases AG.1 h2 with h2 | h2
    ·exact h2.symm
    ·have:=(AU.1 hs).1 lo h2;omega
   have e2:z4f a l=hi:=by have h1:=(mem _).1 ((hm _).1 (x1j l a));have h2:=x1k l a hs hi ((hm hi).2 ((mem hi).2 (.inr (.inl rfl))));omega
   have hg: ∀t,a<t→t<z4f a l→t ∉ l→gO q L x f s (t - 1)=gO q L x f s t:=fun t h1 h2 h3=>by
    have hn:t ∉ plQ q L:=fun k=>by
     have k:=(Uz q L t).1 k;have:=(hm t).2 ((mem t).2 (.inr (.inr ⟨k,by omega,by omega⟩)));rcases AG.1 this with k | k
     ·omega
     ·exact h3 k
    rw [u0m,u0m,z5a hn,z5a hn]
   show wrap .i64 (sgS (gO q L x f s) a l)=_;rw [x6s hp l a hs (by omega) (by omega) hg,e2,e1];have e3:(sm p fun t=>if lo≤t∧t<hi then gO q L x f s t else 0)=sm p fun t=>ind lo hi t*gO q L x f s t:=Yv fun t _=>by
    unfold ind;by_cases k:lo≤t∧t<hi
    ·rw [Az k,Az k,Int.one_mul]
    ·rw [As k,As k,Int.zero_mul]
   rw [e3];refine Zk ⟨?_,?_⟩
   ·have:0≤sm p fun t=>ind lo hi t*gO q L x f s t:=y4a fun t _=>Int.mul_nonneg (z1w ..) (u6s ..).1;omega
   ·have:(sm p fun t=>ind lo hi t*gO q L x f s t)≤sm p (ind lo hi):=w9v fun t _=>by
     have h1:=u6s q L x f s t;have h2:=z1w lo hi t
     calc ind lo hi t*gO q L x f s t≤ind lo hi t*1:=Int.mul_le_mul_of_nonneg_left h1.2 h2
      _=ind lo hi t:=Int.mul_one _
    rw [hp.1 lo hi ⟨by omega,by omega⟩] at this;omega
 ·rw [Ag (by omega),Ab,Yv (g:=fun _=>0) fun t _=> ?_,Vw];unfold ind;rw [As (by omega),Int.zero_mul]
def bI (q:Ax) (r:R6) (u w x:Int):Int:=ind (q.lo r) (q.hi r) x*(ind (q.rc r).a (q.rc r).c u*ind (q.rc r).b (q.rc r).d w)
theorem w3l {L:List R6} (ha:L.Pairwise Ap6) (q:Ax) (u w x:Int):inI q L u w x=sm L fun r=>bI q r u w x:=by
 rw [j1h ha];unfold cnt;refine Yv fun r _=> ?_;unfold bI inR;cases q
 ·show ind r.a r.d x*ind r.b r.e u*ind r.c r.f w=ind r.a r.d x*(ind r.b r.e u*ind r.c r.f w);rw [Int.mul_assoc]
 ·show ind r.a r.d u*ind r.b r.e x*ind r.c r.f w=ind r.b r.e x*(ind r.a r.d u*ind r.c r.f w);rw [Int.mul_comm (ind r.a r.d u),Int.mul_assoc]
 ·show ind r.a r.d u*ind r.b r.e w*ind r.c r.f x=ind r.c r.f x*(ind r.a r.d u*ind r.b r.e w);rw [Int.mul_comm]
def pinI (a b c d:Int):Int:=a*b*((1 - c)*(1 - d))+c*d*((1 - a)*(1 - b))
def y1f (q:Ax) (L:List R6) (u w x:Int):Int:=pinI (inI q L (u - 1) (w - 1) x) (inI q L u w x) (inI q L (u - 1) w x) (inI q L u (w - 1) x)
def PQ (p:List Int) (q:Ax) (L:List R6):Int:=sm p fun u=>sm p fun w=>sm p fun x=>y1f q L u w x
def DE (q:Ax) (L:List R6) (r s:R6) (u w x:Int):Int:=bI q r (u - 1) (w - 1) x*bI q s u w x*((1 - inI q L (u - 1) w x)*(1 - inI q L u (w - 1) x))+bI q r (u - 1) w x*bI q s u (w - 1) x*((1 - inI q L (u - 1) (w - 1) x)*(1 - inI q L u w x))
theorem w9s {α:Type} (l:List α) (f g:α→Int) (c:Int):(sm l f)*(sm l g)*c=sm l fun r=>sm l fun s=>f r*g s*c:=by rw [←w9u,←w9u];refine Yv fun r _=> ?_;rw [←x0b,←w9u]
theorem pin_DE {L:List R6} (ha:L.Pairwise Ap6) (q:Ax) (u w x:Int):y1f q L u w x=sm L fun r=>sm L fun s=>DE q L r s u w x:=by
 have e:y1f q L u w x=(sm L fun r=>bI q r (u - 1) (w - 1) x)*(sm L fun r=>bI q r u w x)*((1 - inI q L (u - 1) w x)*(1 - inI q L u (w - 1) x))+(sm L fun r=>bI q r (u - 1) w x)*(sm L fun r=>bI q r u (w - 1) x)*((1 - inI q L (u - 1) (w - 1) x)*(1 - inI q L u w x)):=by unfold y1f pinI;rw [←w3l ha,←w3l ha,←w3l ha,←w3l ha]
 rw [e,w9s,w9s,←z5n];refine Yv fun r _=> ?_;rw [←z5n];exact Yv fun s _=>rfl
theorem bI_t {q:Ax} {r:R6} {u w x:Int} (h:q.inB r x u w):bI q r u w x=1:=by obtain ⟨h1,h2,h3⟩:=h;unfold bI ind;rw [Az h1,Az h2,Az h3];rfl
theorem bI_f {q:Ax} {r:R6} {u w x:Int} (h: ¬q.inB r x u w):bI q r u w x=0:=by
 unfold bI ind;by_cases h1:q.lo r≤x∧x<q.hi r
 ·by_cases h2:(q.rc r).a ≤u∧u<(q.rc r).c
  ·rw [As (c:=(q.rc r).b ≤w∧w<(q.rc r).d) fun k=>h ⟨h1,h2,k⟩,Int.mul_zero,Int.mul_zero]
  ·rw [As (c:=(q.rc r).a ≤u∧u<(q.rc r).c) h2,Int.zero_mul,Int.mul_zero]
 ·rw [As h1,Int.zero_mul]
theorem w3j (q:Ax) (r s:R6) (x:Int):ind (z1j (q.lo r) (q.lo s)) (z1i (q.hi r) (q.hi s)) x=if (q.lo r≤x∧x<q.hi r)∧(q.lo s≤x∧x<q.hi s) then 1 else 0:=by
 rw [y5h,y5g];unfold ind;by_cases h:(q.lo r≤x∧x<q.hi r)∧(q.lo s≤x∧x<q.hi s)
 ·rw [Az h,Az (by omega)]
 ·rw [As h,As (by omega)]
theorem D_pt {q:Ax} {L:List R6} (hv: ∀r∈L,z0a r=true) {r s:R6} (hr:r∈L) (hs:s∈L) (u w x:Int):bI q r (u - 1) (w - 1) x*bI q s u w x*((1 - inI q L (u - 1) w x)*(1 - inI q L u (w - 1) x))=
  if u=(q.rc r).c ∧w=(q.rc r).d then (if (q.rc r).c =(q.rc s).a ∧(q.rc r).d =(q.rc s).b then ind (z1j (q.lo r) (q.lo s)) (z1i (q.hi r) (q.hi s)) x*gO q L u w (w - 1) x else 0) else 0:=by
 have v1:=(q.val (hv r hr)).1;have v2:=(q.val (hv s hs)).1;simp only [Vj,Ac,At] at v1 v2;rw [w3j,u0m];by_cases p1:q.inL L x (u - 1) w
 ·rw [x4r p1];simp
 by_cases p2:q.inL L x u (w - 1)
 ·rw [x4r p2];simp
 rw [y1h p1,y1h p2];by_cases b1:q.inB r x (u - 1) (w - 1)
 ·by_cases b2:q.inB s x u w
  ·have hx:(q.lo r≤x∧x<q.hi r)∧(q.lo s≤x∧x<q.hi s):=⟨b1.1,b2.1⟩
   have n1: ¬((q.rc r).b ≤w∧w<(q.rc r).d):=fun k=>p1 ⟨r,hr,b1.1,b1.2.1,k⟩;have n2: ¬((q.rc r).a ≤u∧u<(q.rc r).c):=fun k=>p2 ⟨r,hr,b1.1,k,b1.2.2⟩;have n3: ¬((q.rc s).a ≤u - 1∧u - 1<(q.rc s).c):=fun k=>p1 ⟨s,hs,b2.1,k,b2.2.2⟩;have n4: ¬((q.rc s).b ≤w - 1∧w - 1<(q.rc s).d):=fun k=>p2 ⟨s,hs,b2.1,b2.2.1,k⟩;obtain ⟨_,b12,b13⟩:=b1;obtain ⟨_,b22,b23⟩:=b2;rw [bI_t ⟨hx.1,b12,b13⟩,bI_t ⟨hx.2,b22,b23⟩,Az (by omega),Az (by omega),Az hx];rfl
  ·rw [bI_f b2];by_cases h1:u=(q.rc r).c ∧w=(q.rc r).d
   ·by_cases h2:(q.rc r).c =(q.rc s).a ∧(q.rc r).d =(q.rc s).b
    ·rw [Az h1,Az h2,As fun k=>b2 ⟨k.2,by omega,by omega⟩];simp
    ·rw [Az h1,As h2];simp
   ·rw [As h1];simp
 ·rw [bI_f b1];by_cases h1:u=(q.rc r).c ∧w=(q.rc r).d
  ·by_cases h2:(q.rc r).c =(q.rc s).a ∧(q.rc r).d =(q.rc s).b
   ·rw [Az h1,Az h2,As fun k=>b1 ⟨k.1,by omega,by omega⟩];simp
   ·rw [Az h1,As h2];simp
  ·rw [As h1];simp
theorem E_pt {q:Ax} {L:List R6} (hv: ∀r∈L,z0a r=true) {r s:R6} (hr:r∈L) (hs:s∈L) (u w x:Int):bI q r (u - 1) w x*bI q s u (w - 1) x*((1 - inI q L (u - 1) (w - 1) x)*(1 - inI q L u w x))=
  if u=(q.rc r).c ∧w=(q.rc r).b then (if (q.rc r).c =(q.rc s).a ∧(q.rc s).d =(q.rc r).b then ind (z1j (q.lo r) (q.lo s)) (z1i (q.hi r) (q.hi s)) x*gO q L u (w - 1) w x else 0) else 0:=by
 have v1:=(q.val (hv r hr)).1;have v2:=(q.val (hv s hs)).1;simp only [Vj,Ac,At] at v1 v2;rw [w3j,u0m];by_cases p1:q.inL L x (u - 1) (w - 1)
 ·rw [x4r p1];simp
 by_cases p2:q.inL L x u w
 ·rw [x4r p2];simp
 rw [y1h p1,y1h p2];by_cases b1:q.inB r x (u - 1) w
 ·by_cases b2:q.inB s x u (w - 1)
  ·have hx:(q.lo r≤x∧x<q.hi r)∧(q.lo s≤x∧x<q.hi s):=⟨b1.1,b2.1⟩
   have n1: ¬((q.rc r).b ≤w - 1∧w - 1<(q.rc r).d):=fun k=>p1 ⟨r,hr,b1.1,b1.2.1,k⟩;have n2: ¬((q.rc r).a ≤u∧u<(q.rc r).c):=fun k=>p2 ⟨r,hr,b1.1,k,b1.2.2⟩;have n3: ¬((q.rc s).a ≤u - 1∧u - 1<(q.rc s).c):=fun k=>p1 ⟨s,hs,b2.1,k,b2.2.2⟩;have n4: ¬((q.rc s).b ≤w∧w<(q.rc s).d):=fun k=>p2 ⟨s,hs,b2.1,b2.2.1,k⟩;obtain ⟨_,b12,b13⟩:=b1;obtain ⟨_,b22,b23⟩:=b2;rw [bI_t ⟨hx.1,b12,b13⟩,bI_t ⟨hx.2,b22,b23⟩,Az (by omega),Az (by omega),Az hx];rfl
  ·rw [bI_f b2];by_cases h1:u=(q.rc r).c ∧w=(q.rc r).b
   ·by_cases h2:(q.rc r).c =(q.rc s).a ∧(q.rc s).d =(q.rc r).b
    ·rw [Az h1,Az h2,As fun k=>b2 ⟨k.2,by omega,by omega⟩];simp
    ·rw [Az h1,As h2];simp
   ·rw [As h1];simp
 ·rw [bI_f b1];by_cases h1:u=(q.rc r).c ∧w=(q.rc r).b
  ·by_cases h2:(q.rc r).c =(q.rc s).a ∧(q.rc s).d =(q.rc r).b
   ·rw [Az h1,Az h2,As fun k=>b1 ⟨k.1,by omega,by omega⟩];simp
   ·rw [Az h1,As h2];simp
  ·rw [As h1];simp
theorem pick {p:List Int} (hp:PtS p) (f:Int→Int) {c:Int} (hc: -1000005≤c∧c<1000005):sm p (fun u=>if u=c then f u else 0)=f c:=by rw [←hp.sum (fun u=>if u=c then f u else 0) [c] (by simp) (by simpa using hc) fun x hx=>As (by simpa using hx),We,z3h,Az rfl,A6]
theorem pick2 {p:List Int} (hp:PtS p) (F:Int→Int→Int→Int) {c d:Int} (hc: -1000005≤c∧c<1000005) (hd: -1000005≤d∧d<1000005):(sm p fun u=>sm p fun w=>sm p fun x=>if u=c∧w=d then F u w x else 0)=sm p fun x=>F c d x:=by
 have e: ∀u,(sm p fun w=>sm p fun x=>if u=c∧w=d then F u w x else 0)=if u=c then (sm p fun w=>if w=d then (sm p fun x=>F u w x) else 0) else 0:=fun u=>by
  by_cases h:u=c
  ·rw [Az h];refine Yv fun w _=> ?_;by_cases k:w=d
   ·rw [Az k];exact Yv fun x _=>Az ⟨h,k⟩
   ·rw [As k,Yv (g:=fun _=>0) fun x _=>As fun z=>k z.2,Vw]
  ·rw [As h,Yv (g:=fun _=>0) fun w _=>by rw [Yv (g:=fun _=>0) fun x _=>As fun z=>h z.1,Vw],Vw]
 rw [Yv fun u _=>e u,pick hp _ hc,pick hp _ hd]
theorem DE_sum {p:List Int} (hp:PtS p) {q:Ax} {L:List R6} (hv: ∀r∈L,z0a r=true) {r s:R6} (hr:r∈L) (hs:s∈L):(sm p fun u=>sm p fun w=>sm p fun x=>DE q L r s u w x)=prH q L (q.rc r) (q.rc s) (z1j (q.lo r) (q.lo s)) (z1i (q.hi r) (q.hi s)):=by
 have v1:=(q.val (hv r hr))
 have v2:=(q.val (hv s hs))
 obtain ⟨v1,_,l1,l2⟩:=v1;obtain ⟨v2,_,l3,l4⟩:=v2;simp only [Vj,Ac,At] at v1 v2;have e:(sm p fun u=>sm p fun w=>sm p fun x=>DE q L r s u w x)=(sm p fun u=>sm p fun w=>sm p fun x=>if u=(q.rc r).c ∧w=(q.rc r).d then (if (q.rc r).c =(q.rc s).a ∧(q.rc r).d =(q.rc s).b then ind (z1j (q.lo r) (q.lo s)) (z1i (q.hi r) (q.hi s)) x*gO q L u w (w - 1) x else 0) else 0)+sm p fun u=>sm p fun w=>sm p fun x=>if u=(q.rc r).c ∧w=(q.rc r).b then (if (q.rc r).c =(q.rc s).a ∧(q.rc s).d =(q.rc r).b then ind (z1j (q.lo r) (q.lo s)) (z1i (q.hi r) (q.hi s)) x*gO q L u (w - 1) w x else 0) else 0:=by rw [←z5n];refine Yv fun u _=> ?_;rw [←z5n];refine Yv fun w _=> ?_;rw [←z5n];refine Yv fun x _=> ?_;unfold DE;rw [D_pt hv hr hs,E_pt hv hr hs]
 have b1: -1000000≤z1j (q.lo r) (q.lo s):=by rw [y5h];omega
 have b2:z1i (q.hi r) (q.hi s)≤1000000:=by rw [y5g];omega
 have m:=fun x y b=>j0k hp.pts q L x y (z1j (q.lo r) (q.lo s)) (z1i (q.hi r) (q.hi s)) b b1 b2;rw [e,pick2 hp _ (by omega) (by omega),pick2 hp _ (by omega) (by omega)];unfold prH;by_cases h1:(q.rc r).c =(q.rc s).a
 ·rw [show ((q.rc r).c != (q.rc s).a)=false by simp [h1],Aa];by_cases h2:(q.rc r).d =(q.rc s).b
  ·rw [show ((q.rc r).d != (q.rc s).b)=false by simp [h2],Aa,show ((q.rc r).d == (q.rc s).b)=true by simp [h2],m];have h3: ¬((q.rc r).c =(q.rc s).a ∧(q.rc s).d =(q.rc r).b):=by omega
   rw [Yv (g:=fun _=>0) (fun x _=>As h3),Vw,A6];exact Yv fun x _=>Az ⟨h1,h2⟩
  ·rw [show ((q.rc r).d != (q.rc s).b)=true by simpa using h2,Ab];have h4: ¬((q.rc r).c =(q.rc s).a ∧(q.rc r).d =(q.rc s).b):=fun k=>h2 k.2;rw [Yv (g:=fun _=>0) (fun x _=>As h4),Vw,B6];by_cases h3:(q.rc s).d =(q.rc r).b
   ·rw [show ((q.rc s).d != (q.rc r).b)=false by simp [h3],Aa,show ((q.rc r).d == (q.rc s).b)=false by simpa using h2,m];exact Yv fun x _=>Az ⟨h1,h3⟩
   ·rw [show ((q.rc s).d != (q.rc r).b)=true by simpa using h3,Ab,Yv (g:=fun _=>0) (fun x _=>As fun k=>h3 k.2),Vw]
 ·rw [show ((q.rc r).c != (q.rc s).a)=true by simpa using h1,Ab,Yv (g:=fun _=>0) (fun x _=>As fun k=>h1 k.1),Vw,Yv (g:=fun _=>0) (fun x _=>As fun k=>h1 k.1),Vw];rfl
def prR (q:Ax) (L:List R6) (r s:R6):Int:=prH q L (q.rc r) (q.rc s) (z1j (q.lo r) (q.lo s)) (z1i (q.hi r) (q.hi s))
theorem v1u {q:Ax} {L:List R6} {P Q:R4} {lo hi:Int} (h:P.c≠Q.a):prH q L P Q lo hi=0:=by unfold prH;rw [show (P.c != Q.a)=true by simpa using h];rfl
theorem j0c {q:Ax} {L:List R6} {r s:R6} (hr:z0a r=true) (hs:z0a s=true):prO q L r s=prR q L r s+prR q L s r:=by
 have v1:=(q.val hr).1;have v2:=(q.val hs).1;simp only [Vj,Ac,At] at v1 v2;unfold prO prR;rw [show z1j (q.lo s) (q.lo r)=z1j (q.lo r) (q.lo s) by rw [y5h,y5h];omega,show z1i (q.hi s) (q.hi r)=z1i (q.hi r) (q.hi s) by rw [y5g,y5g];omega];by_cases h:(q.rc s).a <(q.rc r).a
 ·rw [Ag h,Ab,v1u (P:=q.rc r) (Q:=q.rc s) (by omega),B6]
 ·rw [Au h,Aa,v1u (P:=q.rc s) (Q:=q.rc r) (by omega),A6]
theorem x3w {q:Ax} {L:List R6} (hv: ∀r∈L,z0a r=true): ∀k,k≤L.length→x2r q L k=sm (L.take k) fun r=>sm (L.take k) fun s=>prR q L r s
 | 0,_=>rfl
 | k+1,h=>by
  have hk:k<L.length:=by omega
  have er:rd L k∈L:=by rw [Yo hk];exact AN hk
  have e:L.take (k+1)=L.take k++[rd L k]:=by rw [Ba,Aq hk,Yo hk];rfl
  have self:prR q L (rd L k) (rd L k)=0:=v1u (by
   have v1:=(q.val (hv _ er)).1;simp only [Vj,Ac,At] at v1;omega)
  show x2r q L k+rowP q L k=_;unfold rowP;rw [x3w hv k (by omega),w2j (show 0+k≤L.length by omega),AX,e,Ks,We,z3h,Ks,We,z3h,self,A6,A6];have e2:(sm (L.take k) fun r=>sm (L.take k++[rd L k]) fun s=>prR q L r s)=(sm (L.take k) fun r=>sm (L.take k) fun s=>prR q L r s)+sm (L.take k) fun r=>prR q L r (rd L k):=by rw [←z5n];exact Yv fun r _=>by rw [Ks,We,z3h,A6]
  have e3:sm (L.take k) (prO q L (rd L k))=(sm (L.take k) fun s=>prR q L (rd L k) s)+sm (L.take k) fun s=>prR q L s (rd L k):=by rw [←z5n];exact Yv fun s hs=>j0c (hv _ er) (hv _ (BY hs))
  rw [e2,e3];omega
theorem x8k {p:List Int} (hp:PtS p) {L:List R6} (h:Sol L) (q:Ax):x2r q L L.length=PQ p q L:=by
 have hv: ∀r∈L,z0a r=true:=h.val;rw [x3w hv L.length (An _),Cu];unfold PQ;have e: ∀u w x,y1f q L u w x=sm L fun r=>sm L fun s=>DE q L r s u w x:=pin_DE h.ap q;have e1:(sm p fun u=>sm p fun w=>sm p fun x=>y1f q L u w x)=sm L fun r=>sm L fun s=>sm p fun u=>sm p fun w=>sm p fun x=>DE q L r s u w x:=by
  have a: ∀u w,(sm p fun x=>y1f q L u w x)=sm L fun r=>sm L fun s=>sm p fun x=>DE q L r s u w x:=fun u w=>by rw [Yv fun x _=>e u w x,z3s p L];exact Yv fun r _=>z3s p L _
  have b: ∀u,(sm p fun w=>sm p fun x=>y1f q L u w x)=sm L fun r=>sm L fun s=>sm p fun w=>sm p fun x=>DE q L r s u w x:=fun u=>by rw [Yv fun w _=>a u w,z3s p L];exact Yv fun r _=>z3s p L _
  rw [Yv fun u _=>b u,z3s p L];exact Yv fun r _=>z3s p L _
 rw [e1];exact Yv fun r hr=>Yv fun s hs=>(DE_sum hp hv hr hs).symm
theorem y0w (q:Ax) (L:List R6) (u w x:Int):inI q L u w x=0∨inI q L u w x=1:=by
 by_cases g:q.inL L x u w
 ·exact .inr (x4r g)
 ·exact .inl (y1h g)
theorem w2k (q:Ax) (L:List R6) (t x y:Int):pU L q.ix t x y=decide (inI q L x y t=1):=by
 by_cases g:q.inL L t x y
 ·rw [x4r g,(v1w q L t x y).2 g];rfl
 ·rw [y1h g];cases k:pU L q.ix t x y with
  | true=>exact (g ((v1w q L t x y).1 k)).elim
  | false=>rfl
theorem gP_pin (q:Ax) (L:List R6) (t:Int) {x y:Int} (hx: -1000000≤x∧x≤1000000) (hy: -1000000≤y∧y≤1000000) (n:Int):(bif gP L q.ix t x y then n else 0)=n*y1f q L x y t:=by
 have w1:wrap .i64 (x - 1)=x - 1:=Zk (by omega);have w2:wrap .i64 (y - 1)=y - 1:=Zk (by omega);unfold gP y1f pinI;rw [w1,w2,w2k,w2k,w2k,w2k];rcases y0w q L (x - 1) (y - 1) t with a | a <;> rcases y0w q L x y t with b | b <;> rcases y0w q L (x - 1) y t with c | c <;> rcases y0w q L x (y - 1) t with d | d <;> rw [a,b,c,d] <;> simp
theorem pinX_u {q:Ax} {L:List R6} {u:Int} (h:u ∉ plQ q.ua L) (w x:Int):y1f q L u w x=0:=by
 have e: ∀w,inI q L (u - 1) w x=inI q L u w x:=fun w=>by unfold inI;rw [z2p (w1q q L h x w)]
 unfold y1f pinI;rw [e,e];rcases y0w q L u (w - 1) x with a | a <;> rcases y0w q L u w x with b | b <;> rw [a,b] <;> rfl
theorem pinX_w {q:Ax} {L:List R6} {w:Int} (h:w ∉ plQ q.wa L) (u x:Int):y1f q L u w x=0:=by
 have e: ∀u,inI q L u (w - 1) x=inI q L u w x:=fun u=>by unfold inI;rw [z2p (w1p q L h x u)]
 unfold y1f pinI;rw [e,e];rcases y0w q L u w x with a | a <;> rcases y0w q L (u - 1) w x with b | b <;> rw [a,b] <;> rfl
theorem pinX_x {q:Ax} {L:List R6} {x:Int} (h:x ∉ plQ q L) (u w:Int):y1f q L u w (x - 1)=y1f q L u w x:=by unfold y1f;rw [z5a h,z5a h,z5a h,z5a h]
def v6q (p:List Int) (q:Ax) (L:List R6) (t:Int):Int:=sm p fun u=>sm p fun w=>y1f q L u w t
theorem cel_eq {p:List Int} (hp:PtS p) (q:Ax) {L:List R6} (hv: ∀r∈L,z0a r=true) (t n:Int):u1l L q.ix t n (plQ q.ua L) (plQ q.wa L)=v6q p q L t*n:=by
 have rg: ∀(q:Ax) x,x∈plQ q L→ -1000005≤x∧x<1000005:=fun q x hx=>by have:=z5q hv q hx;omega
 have e1: ∀x∈plQ q.ua L,(sm (plQ q.wa L) fun y=>bif gP L q.ix t x y then n else 0)=n*sm p fun w=>y1f q L x w t:=fun x hx=>by rw [Yv fun y hy=>gP_pin q L t (z5q hv _ hx) (z5q hv _ hy) n,x0b,hp.sum (fun w=>y1f q L x w t) _ (z2m _ L) (fun y hy=>rg _ y hy) fun y hy=>pinX_w hy x t]
 unfold u1l v6q;rw [Yv e1,x0b,hp.sum (fun x=>sm p fun w=>y1f q L x w t) _ (z2m _ L) (fun y hy=>rg _ y hy) fun y hy=>by
  rw [Yv (g:=fun _=>0) fun w _=>pinX_u hy w t,Vw],Int.mul_comm]
theorem u1w (f:Int→Int) (L:List R6) (a:Int) (A X Y:List Int) (hf: ∀t n,u1l L a t n X Y=f t*n): ∀(k i:Nat),i+1+k=A.length→totS L a A X Y k i=sgS f (rd A i) (A.drop (i+1))
 | 0,i,h=>by rw [Ar (by omega)];rfl
 | k+1,i,h=>by rw [Yx (show i+1<A.length by omega)];show u1l L a (rd A i) (rd A (i+1) - rd A i) X Y+totS L a A X Y k (i+1)=f (rd A i)*(rd A (i+1) - rd A i)+sgS f (rd A (i+1)) (A.drop (i+1+1));rw [hf,u1w f L a A X Y hf k (i+1) (by omega)]
theorem j4b {p:List Int} (hp:PtS p) (q:Ax) {L:List R6} (hv: ∀r∈L,z0a r=true):axS L q.ix=PQ p q L:=by
 have hx:=z2m q L;have hm:=Uz q L;have rg:=fun x=>z5q hv q (p:=x);have swap:PQ p q L=sm p fun t=>v6q p q L t:=by unfold PQ v6q;have e: ∀u,(sm p fun w=>sm p fun x=>y1f q L u w x)=sm p fun x=>sm p fun w=>y1f q L u w x:=fun u=>z3s p p _;rw [Yv fun u _=>e u,z3s p p]
 have far: ∀t,(∀u w,¬q.inL L t u w)→v6q p q L t=0:=fun t ht=>by
  have z: ∀u w,y1f q L u w t=0:=fun u w=>by unfold y1f;rw [y1h (ht _ _),y1h (ht _ _),y1h (ht _ _),y1h (ht _ _)];rfl
  unfold v6q;rw [Yv (g:=fun _=>0) fun u _=>by rw [Yv (g:=fun _=>0) fun w _=>z u w,Vw],Vw]
 unfold axS;rw [z8r,u7o,u7n,swap];cases hA:plQ q L with
 | nil=>
  have no: ∀t u w,¬q.inL L t u w:=fun t u w ⟨r,hr,_⟩=>by have:=(hm (q.lo r)).2 ⟨r,hr,.inl rfl⟩;rw [hA] at this;cases this
  rw [Yv (g:=fun _=>0) fun t _=>far t (no t),Vw];rfl
 | cons a l=>
  rw [hA] at hx;have hx':(a::l).Pairwise (· ≤ ·):=hx.imp fun {x y} h=>Cs h;have lm:z4f a l∈plQ q L:=by rw [hA];exact x1j l a
  have am:a∈plQ q L:=by rw [hA];simp
  have r1:=rg a am;have r2:=rg _ lm;have t:=u1w (v6q p q L) L q.ix (a::l) (plQ q.ua L) (plQ q.wa L) (fun t n=>cel_eq hp q hv t n) l.length 0 (by simp;omega);have e1:(a::l).length - 1=l.length:=by simp
  rw [e1,t];show sgS (v6q p q L) a l=_;rw [x6s hp.pts l a hx' (by omega) (by omega) fun t h1 h2 h3=>by
   have hn:t ∉ plQ q L:=by
    rw [hA];intro k;rcases AG.1 k with e | k
    ·omega
    ·exact h3 k
   unfold v6q;exact Yv fun u _=>Yv fun w _=>pinX_x hn u w]
  refine Yv fun t _=> ?_;by_cases g:a≤t∧t<z4f a l
  ·rw [Az g]
  ·rw [As g,far t];rintro u w ⟨r,hr,⟨h1,h2⟩,_⟩;have k1:=(hm (q.lo r)).2 ⟨r,hr,.inl rfl⟩;have k2:=(hm (q.hi r)).2 ⟨r,hr,.inr rfl⟩;rw [hA] at k1 k2;have m2:=x1k l a hx' _ k2;have m1:a≤q.lo r:=by
    rcases AG.1 k1 with e | k
    ·omega
    ·exact (AU.1 hx').1 _ k
   exact g ⟨by omega,by omega⟩
theorem rpi_eq (L:List R6):y7z L=y8u L∧y7y L=y8t L:=by
 unfold y7z y7y y8u y8t;rw [←w3y L];rcases Ym (Wx L != 0) with q1 | q1
 ·rw [q1];exact ⟨rfl,rfl⟩
 ·have h:Wx L=0:=by simpa using q1
  obtain ⟨p,hp⟩:=ptS_ex;have s:=Sol.of h;have e0:axS L 0=PQ p .x L:=j4b hp .x s.val;have e1:axS L 1=PQ p .y L:=j4b hp .y s.val;have e2:axS L 2=PQ p .z L:=j4b hp .z s.val;rw [q1,e0,e1,e2,x8k hp s,x8k hp s,x8k hp s];exact ⟨rfl,rfl⟩
theorem gre_no {L:List R6} (h:j1k L=false):L.length≤12∨(400<L.length∧L.length≤420):=by
 unfold j1k at h;by_cases g1:(L.length:Int)>12
 ·rw [Ag g1,Ab] at h;by_cases g2:(L.length:Int)≤400
  ·rw [Ag g2] at h;cases h
  ·rw [Au g2,Aa] at h;have:=of_decide_eq_false h;exact .inr ⟨by omega,by omega⟩
 ·exact .inl (by omega)
theorem v9k (L:List R6):(Vq L).length ≤3000:=by
 unfold Vq;cases Wx L != 0
 ·exact v2u
 ·exact AD _
theorem mmk_run (L:List R6): ∃N,Zs (x8s L) N (y2v L)=.ret [.bool true]:=⟨0,by
 unfold y2v;have o1:z8f L=true:=rfl;rcases Ym (j1k L) with q | q
 ·simp only [Zm,o1,q,Ab];rfl
 have hg:=gre_no q;have o2:z6y L=true:=Ag (by omega);have o3:y4o L=true:=rfl;have o4:z7k L=true:=Ag (by omega);have o5:z8a L=true:=rfl;have o6:z7h L=true:=Ag (by omega);obtain ⟨e0,e1⟩:=rof_eq (L:=L) (by omega);obtain ⟨f0,f1⟩:=rpi_eq L;have hm:=v9k L;have o7:z7c (Vq L) (Vq L)=true:=Ag (by omega);have o8:Vg L L=true:=Ag (by omega);have t: ∀L,z0e L=L:=fun _=>rfl;simp only [Zm,t,o1,o2,o3,o4,o5,o6,q,e0,e1,f0,f1,o7,o8,show rsqV (Vq L) (Vq L)=true from Ag rfl,show Kw L L=true from Ag rfl,beq_self_eq_true,Ab,Aa];rfl⟩
end Go.Am
end
