/- A part of a proof: several texts in one. -/
import Derived.Test.YtpddoeiakpbkbaaGreatLi6
import Derived.ChangeArms
import Derived.Test.YtpddoeiakpbkbaaGreatRows
set_option maxRecDepth 1000000
set_option maxHeartbeats 8000000
set_option linter.unusedVariables false
set_option linter.unusedSimpArgs false
noncomputable section
namespace Go.Am
open IntKind (wrap)
open Go.Proofs Go.Sort Go.Shelf Go.RowKit Go.Lib
def x8m (x:Int):Prop:= -12≤x∧x<12
def nb2 (R:List R4):Prop:= ∀u v,ptL Wh.inB R (u,v)→x8m u∧x8m v
def nbS (L:List R6):Prop:= ∀x y z,inS L x y z→x8m x∧x8m y∧x8m z
def L25 :List Int:=(List.range 25).map fun (n:Nat)=>(n:Int) - 12
theorem v9p {x:Int} (h: -12≤x∧x≤12):x∈L25:=AQ.2 ⟨(x+12).toNat,A0.2 (by omega),by omega⟩
theorem v5i {R:List R4} (hc:Wh.can R) (U W:List Int) (hU: ∀u v,¬(ptL Wh.inB R (u - 1,v)↔ptL Wh.inB R (u,v))→u∈U) (hW: ∀u v,¬(ptL Wh.inB R (u,v - 1)↔ptL Wh.inB R (u,v))→v∈W):
  R.length≤(U.length - 1)*(W.length / 2)∧ ∀x,(D4.inn R x).length ≤W.length / 2:=by
 have sp: ∀(x:Int) (s:List R2),z4r.can s→(∀y,ptL z4r.inB s y↔ptL Wh.inB R (x,y))→s.length≤W.length / 2:=fun x s hs hy=>by have:=j1t hs W 1 fun y hn=>List.count_pos_iff.2 (hW x y (by rw [←hy,←hy];exact hn));omega
 exact ⟨j8h hc (fun u v=>ptL Wh.inB R (u,v)) (fun _ _=>Iff.rfl) U (fun x y hn=>hU x y hn) _ sp,fun x=>sp x _ (x4f hc x) fun y=>y6y R x y⟩
theorem z7w {R:List R4} (hc:Wh.can R) (h:nb2 R):R.length≤288∧ ∀x,(D4.inn R x).length ≤12:=by
 have key: ∀{a b:Prop} {x:Int},¬(a↔b)→(a→x8m (x - 1))→(b→x8m x)→x∈L25:=fun {a b x} hn ha hb=>v9p (by
  unfold x8m at ha hb;by_cases q:a
  ·have:=ha q;omega
  ·by_cases q2:b
   ·have:=hb q2;omega
   ·exact absurd ⟨fun k=>absurd k q,fun k=>absurd k q2⟩ hn)
 have:=v5i hc L25 L25 (fun u v hn=>key hn (fun k=>(h _ _ k).1) fun k=>(h _ _ k).1) (fun u v hn=>key hn (fun k=>(h _ _ k).2) fun k=>(h _ _ k).2);have e:L25.length=25:=rfl;rw [e] at this;exact this
theorem v8i (q:Ax) (L:List R6) (p:Int):y9d q.ix L p=z7c q L p:=by cases q <;> rfl
theorem v5u (q:Ax) (L:List R6):plA q.ix L=plQ q L:=by cases q <;> rfl
theorem j0n (q:Ax) (L:List R6):Uy L q.ix=plQ q L:=by
 unfold Uy plQ;rw [Kr]
 congr 1
 unfold j0l endsQ;exact y2b fun r _=>by cases q <;> rfl
section
variable {L:List R6} (h:Yd L=0)
include h
theorem z1h (q:Ax) (p:Int):Wh.can (D4.out (z7c q L p))∧(∀u v,ptL Wh.inB (D4.out (z7c q L p)) (u,v)↔q.inL L p u v)∧ ∀r∈D4.out (z7c q L p),Vo r=true:=by obtain ⟨hl,hv,_,_⟩:=Ke h;obtain ⟨h1,h2⟩:=z3q (y2d q hv p) (AK (x4o q L p) hl);exact ⟨h1,fun u v=>by rw [h2,x7q],x4r h1 fun u v k=>x2t (y2d q hv p) ((h2 _).1 k)⟩
theorem z7v (hn:nbS L) (q:Ax) {p u v:Int} (k:q.inL L p u v):x8m p∧x8m u∧x8m v:=by
 have _u:=h;rw [q.inL_S] at k;have:=hn _ _ _ k;cases q
 ·exact this
 ·exact ⟨this.2.1,this.1,this.2.2⟩
 ·exact ⟨this.2.2,this.1,this.2.1⟩
theorem w7b (hn:nbS L) (q:Ax) (p:Int):Wy q.ix L p=0∧Za q.ix L p=D4.out (z7c q L p)∧(D4.out (z7c q L p)).length ≤288∧ ∀x,(D4.inn (D4.out (z7c q L p)) x).length ≤12:=by obtain ⟨hl,hv,_,_⟩:=Ke h;obtain ⟨c,pts,_⟩:=z1h h q p;obtain ⟨n1,n2⟩:=z7w c fun u v k=>(z7v h hn q ((pts u v).1 k)).2;obtain ⟨m0,m1⟩:=z1y (y2d q hv p) (AK (x4o q L p) hl) (by omega);unfold Wy Za;rw [v8i];exact ⟨m1,m0,n1,n2⟩
end
theorem u0y {L:List R6} (h:Yd L=0):x5r.can L:=by
 obtain ⟨hl,hv,_,_⟩:=Ke h;have hr:Wr L=0:=by rw [←y0k];exact h
 unfold Wr at hr;rw [An (by omega),show L.all x8j=true from At.2 fun r hr=>(y9t r).symm.trans (hv r hr),Aa,Ab] at hr;unfold rckF at hr;have hr2:z2n 2 L []=true∧Uo (Qq 2 L []) L=true:=by cases q:z2n 2 L [] <;> cases q2:Uo (Qq 2 L []) L <;> simp [q,q2] at hr ⊢
 obtain ⟨j1,j2⟩:=hr2;have j0:=(w2l j1).1;rw [Az] at j0;have e:Qq 2 L []=L:=AA j2;rw [←e,j0];exact (w4v hv).1
theorem y1v {L:List R6} (h:Yd L=0) (z:Int):Wh.can (D6.inn L z)∧(∀r∈D6.inn L z,Vo r=true)∧(D6.inn L z).length ≤400∧D4.out (D6.inn L z)=D6.inn L z:=by
 obtain ⟨hl,hv,e,_⟩:=Ke h;have hc:x5r.can L:=u0y h;obtain ⟨G,hG,e⟩:=hc;have c:Wh.can (D6.inn L z):=by rw [e];exact Dim.inn_can z8g Wh z G hG
 have v:=z8e hv z;have n:=AK (D6.inn_length L z) hl;exact ⟨c,v,n,Wh.uniq _ _ (z3q v (by omega)).1 c (z3q v (by omega)).2⟩
theorem x7f {L:List R6} (h:nbS L) (z:Int):nb2 (D6.inn L z):=fun u v k=>by have:=h u v z ((w2s L u v z).1 k);exact ⟨this.1,this.2.1⟩
section
variable {a b:List R6} (ha:Yd a=0) (hb:Yd b=0) (na:nbS a) (nb:nbS b)
include ha hb na nb
theorem sec_u (x:Int):slA .u a b x=0:=by
 obtain ⟨a1,a2,a3,a4⟩:=y1v ha x;obtain ⟨b1,b2,b3,b4⟩:=y1v hb x;obtain ⟨ma0,ma1⟩:=z1y a2 a3 (by rw [a4];exact a3);obtain ⟨mb0,mb1⟩:=z1y b2 b3 (by rw [b4];exact b3);obtain ⟨na1,na2⟩:=z7w a1 (x7f na x);obtain ⟨nb1,nb2'⟩:=z7w b1 (x7f nb x);obtain ⟨j1,j2,_⟩:=z1b 0 a2 b2;have jn:nb2 (rgJ 0 (D6.inn a x) (D6.inn b x)):=fun u v k=>by
  have k:=(j2 (u,v)).1 k;simp only [opB,Br,As] at k;rcases k with k | k
  ·exact x7f na x u v k
  ·exact x7f nb x u v k
 have jl:=(z7w j1 jn).1;have e:=x3q .u a3 b3 a2 b2 a1 b1 (fun y=>by have:=na2 y;have:=nb2' y;omega) (show (rgJ 0 (D6.inn a x) (D6.inn b x)).length ≤400 by omega);unfold slA;rw [ma1,mb1,ma0,mb0,a4,b4,e];rfl
theorem slE_u :slE .u a b=y9l (slJ .u a b).length :=by unfold slE;rw [ha,hb,w3c (sec_u ha hb na nb)];rfl
theorem u_pts :x5r.can (slJ .u a b)∧ ∀x y z,inS (slJ .u a b) x y z↔inS a x y z∨inS b x y z:=by
 have hS: ∀x,slS .u a b x=rgJ 0 (D6.inn a x) (D6.inn b x):=fun x=>by obtain ⟨a1,a2,a3,a4⟩:=y1v ha x;obtain ⟨b1,b2,b3,b4⟩:=y1v hb x;obtain ⟨ma0,ma1⟩:=z1y a2 a3 (by rw [a4];exact a3);obtain ⟨mb0,mb1⟩:=z1y b2 b3 (by rw [b4];exact b3);unfold slS;rw [ma0,mb0,a4,b4]
 have e:slJ .u a b=(D6.goS (fun x=>rgJ 0 (D6.inn a x) (D6.inn b x)) (D6.cuts (a++b)) ((D6.cuts (a++b)).length - 1) 0 ⟨[],[],0,0⟩).out :=by unfold slJ;rw [show slS .u a b=fun x=>rgJ 0 (D6.inn a x) (D6.inn b x) from funext hS]
 have j:=fun x=>z1b 0 (y1v ha x).2.1 (y1v hb x).2.1;obtain ⟨h1,h2⟩:=Dim.goJ_can z8g z8r Wh a b (rgJ 0) (fun x=>(j x).1) (by
  obtain ⟨j1,j2,j3⟩:=z1b 0 (a:=[]) (b:=[]) (fun r hr=>by cases hr) (fun r hr=>by cases hr);exact Cb (by simpa using j3))
 rw [e];refine ⟨h1,fun x y z=> ?_⟩;have _u:=na;have _v:=nb;rw [y1w,show ptL x5r.inB _ (z,x,y)↔_ from h2 z (x,y),(j z).2.1,←w2s a,←w2s b];simp [opB]
theorem rjn_u :Qj 2 a b=y1d .u a b∧z5g 2 a b=z4z .u a b:=by
 obtain ⟨va,_⟩:(∀r∈a,z3k r=true)∧True:=⟨(Ke ha).2.1,trivial⟩
 have vb:=(Ke hb).2.1;have vab: ∀r∈a++b,z3k r=true:=fun r hr=>by
  rcases AF.1 hr with k | k
  ·exact va r k
  ·exact vb r k
 obtain ⟨c,pts⟩:=u_pts ha hb na nb;obtain ⟨c2,pts2⟩:=w4v vab;have e:u6p (a++b)=slJ .u a b:=u5h c2 c fun x y z=>by
  rw [pts,pts2];constructor
  ·rintro ⟨r,hr,k⟩;rcases AF.1 hr with m | m
   ·exact .inl ⟨r,m,k⟩
   ·exact .inr ⟨r,m,k⟩
  ·rintro (⟨r,hr,k⟩ | ⟨r,hr,k⟩)
   ·exact ⟨r,AF.2 (.inl hr),k⟩
   ·exact ⟨r,AF.2 (.inr hr),k⟩
 have sec: ∀{l:List R6},(∀r∈l,z3k r=true)→nbS l→ ∀z,(joV 2 (atV l z) []).length ≤288:=fun {l} hv hn z=>by obtain ⟨c,p⟩:=v6t (z8e hv z);exact (z7w c fun u v k=>x7f hn z u v ((p (u,v)).1 k)).1
 have nab:nbS (a++b):=fun x y z ⟨r,hr,k⟩=>by
  rcases AF.1 hr with m | m
  ·exact na x y z ⟨r,m,k⟩
  ·exact nb x y z ⟨r,m,k⟩
 have many: ∀z,z5n 2 a b z=false:=fun z=>by
  have s1:=sec va na z;have s2:=sec vb nb z;have s3:=sec vab nab z;have e3:y1f 2 a b z=joV 2 (atV (a++b) z) []:=by rw [w4z];rfl
  unfold z5n;rw [e3,An (by omega),An (by omega),An (by omega)];rfl
 have hE:=slE_u ha hb na nb;unfold Qj z5g y1d z4z Qj;rw [←y0k a,←y0k b,ha,hb,hE];show (bif z2n 2 a b then (0:Int) else 4)=y9l (slJ .u a b).length ∧z4t (bif z2n 2 a b then (0:Int) else 4) (Qq 2 a b)=z4t (y9l (slJ .u a b).length) (slJ .u a b);by_cases g:(slJ .u a b).length ≤400
 ·have j1:=js_ok many (by rw [e];exact g);have j0:=(w2l j1).1;rw [j1,j0,e];unfold y9l;rw [An (by omega)];exact ⟨rfl,rfl⟩
 ·have j1:z2n 2 a b=false:=by
   cases q:z2n 2 a b with
   | false=>rfl
   | true=>exact absurd (by have:=(w2l q).2;rwa [e] at this) g
  rw [j1];unfold y9l;rw [Ai (by omega)];exact ⟨rfl,rfl⟩
theorem u_ok (h:y1d .u a b=0):Yd (z4z .u a b)=0∧nbS (z4z .u a b)∧ ∀x y z,inS (z4z .u a b) x y z↔inS a x y z∨inS b x y z:=by
 obtain ⟨c,pts⟩:=u_pts ha hb na nb;have h:slE .u a b=0:=h;have e:z4z .u a b=slJ .u a b:=by unfold z4z;rw [h];rfl
 have hl:(slJ .u a b).length ≤400:=y0l (by rw [←slE_u ha hb na nb];exact h);have nj:nbS (slJ .u a b):=fun x y z k=>by
  rcases (pts x y z).1 k with m | m
  ·exact na x y z m
  ·exact nb x y z m
 rw [e];exact ⟨x3e hl (j8g c fun x y z k=>by have:=nj x y z k;unfold x8m at this;omega) c,nj,pts⟩
end
theorem w1w {S:List R6} (h:x3w S=true):nbS S∧S.length≤6:=by obtain ⟨h1,h2⟩:=Bn.1 h;refine ⟨fun x y z ⟨r,hr,k1,k2,k3⟩=> ?_,AA h1⟩;have b:=At.1 h2 r hr;simp only [Ac,As] at b;unfold x8m;omega
theorem v3u {l:List Pa}: ∀k i,skG l k i=0→ ∀j,i≤j→j<i+k→v8z l j=false
 | 0,i,_,j,h1,h2=>by omega
 | k+1,i,h,j,h1,h2=>by
  have h:(bif v8z l i then (8:Int) else skG l k (i+1))=0:=h;rcases Yx (v8z l i) with q | q
  ·rw [q] at h;cases h
  ·rw [q,Aa] at h;rcases Bb h1 with rfl | h1
   ·exact q
   ·exact v3u k (i+1) h j h1 (by omega)
def u4h (b:R6) (x y z:Int):Prop:=(b.a≤x∧x<b.d)∧(b.b≤y∧y<b.e)∧(b.c≤z∧z<b.f)
structure Land (l:List Pa):Prop where
 len:l.length≤50
 sck: ∀i,i<l.length→Yd (rd l i).s =0
 val: ∀i,i<l.length→Yd [bxP (rd l i)]=0
 ins: ∀i,i<l.length→ ∀x y z,inS (rd l i).s x y z→u4h (bxP (rd l i)) x y z
 dis: ∀i j,i<l.length→j<l.length→ ∀x y z,u4h (bxP (rd l i)) x y z→u4h (bxP (rd l j)) x y z→i=j
theorem w2g {l:List Pa} (h:z2l l=0):Land l:=by
 obtain ⟨h5,hE,hG⟩:=w4y h;have bad:=v3u _ _ hG;have b3: ∀i,i<l.length→Yd [bxP (rd l i)]=0∧(rd l i).s.any (fun r=> !insR r (bxP (rd l i)))=false∧(l.take i).any (fun y=>v6o (bxP (rd l i)) (bxP y))=false:=fun i hi=>by have:=bad i (AD _) (by omega);unfold v8z at this;rw [Bu,Bu] at this;exact ⟨by simpa using this.1,this.2⟩
 have half: ∀i j,i<l.length→j<i→ ∀x y z,u4h (bxP (rd l i)) x y z→u4h (bxP (rd l j)) x y z→False:=fun i j hi hj x y z h1 h2=>by
  have:=List.any_eq_false.1 (b3 i hi).2.2 (rd l j) (by
   rw [Yi (show j<l.length by omega)];refine List.mem_iff_getElem.2 ⟨j,by rw [AZ];omega,?_⟩;rw [Bf])
  refine this ?_;unfold u4h at h1 h2;unfold v6o j5e;simp only [Ac,As];omega
 refine ⟨h5,fun i hi=>(x3a h hi).1,fun i hi=>(b3 i hi).1,fun i hi x y z ⟨r,hr,k1,k2,k3⟩=> ?_,fun i j hi hj x y z h1 h2=> ?_⟩
 ·have:=List.any_eq_false.1 (b3 i hi).2.1 r hr;have hin:insR r (bxP (rd l i))=true:=by simpa using this
  unfold insR j5q at hin;simp only [Ac,As] at hin;unfold u4h;omega
 ·rcases Bt i j with q | q | q
  ·exact (half j i hj q x y z h2 h1).elim
  ·exact q
  ·exact (half i j hi q x y z h1 h2).elim
theorem j0y : ∀(l:List Pa) (acc:List R6),Yd acc=0→nbS acc→(∀x∈l,Yd x.s=0∧nbS x.s)→
  rwE acc l=whE acc l∧(whE acc l=0→rwL acc l=whL acc l∧Yd (whL acc l)=0∧nbS (whL acc l)∧ ∀x y z,inS (whL acc l) x y z↔inS acc x y z∨ ∃p∈l,inS p.s x y z)
 | [],acc,ha,na,_=>⟨rfl,fun _=>⟨rfl,ha,na,fun x y z=>⟨.inl,fun k=>by
   rcases k with k | ⟨p,hp,_⟩
   ·exact k
   ·cases hp⟩⟩⟩
 | p ::l,acc,ha,na,hl=>by
  obtain ⟨hp,np⟩:=hl p (by simp);obtain ⟨e1,e0⟩:=rjn_u ha hp na np;unfold rwE whE rwL whL;rw [e1,e0];rcases Yx (y1d .u acc p.s != 0) with q | q
  ·rw [q,Ab,Ab];exact ⟨rfl,fun h=>by rw [h] at q;cases q⟩
  ·rw [q,Aa,Aa];obtain ⟨o1,o2,o3⟩:=u_ok ha hp na np (by simpa using q);obtain ⟨i1,i2⟩:=j0y l (z4z .u acc p.s) o1 o2 fun x hx=>hl x (by simp [hx]);refine ⟨i1,fun h=> ?_⟩;obtain ⟨j1,j2,j3,j4⟩:=i2 h;refine ⟨j1,j2,j3,fun x y z=> ?_⟩;rw [j4,o3];constructor
   ·rintro ((k | k) | ⟨r,hr,k⟩)
    ·exact .inl k
    ·exact .inr ⟨p,by simp,k⟩
    ·exact .inr ⟨r,by simp [hr],k⟩
   ·rintro (k | ⟨r,hr,k⟩)
    ·exact .inl (.inl k)
    ·rcases AI.1 hr with rfl | hr
     ·exact .inl (.inr k)
     ·exact .inr ⟨r,hr,k⟩
theorem v3w :Yd []=0:=by refine x3e (AD _) (fun r hr=>by cases hr) ⟨[],.nil,rfl⟩
theorem v6e :nbS []:=fun x y z ⟨r,hr,_⟩=>by cases hr
def z2o (q:Ax) (s:Bool):Nat:=match q,s with
 | .x,true=>0
 | .x,false=>1
 | .y,true=>2
 | .y,false=>3
 | .z,true=>4
 | .z,false=>5
theorem x2h (q:Ax) (s:Bool):dhA (z2o q s:Int)=q.ix:=by cases q <;> cases s <;> rfl
def y9b (s:Bool) (p:Int):Int:=match s with
 | true=>p - 1
 | false=>p
def z4s (s:Bool) (p:Int):Int:=match s with
 | true=>p
 | false=>p - 1
theorem w1r (q:Ax) (s:Bool) {p:Int} (hp: -12≤p∧p≤12):x5i (z2o q s:Int) p=y9b s p∧y5i (z2o q s:Int) p=z4s s p:=by have w:wrap .i64 (p - 1)=p - 1:=Zk (by omega);unfold x5i y5i y9b z4s;rw [w];cases q <;> cases s <;> exact ⟨rfl,rfl⟩
theorem qd_dir (q:Ax) (s:Bool) (p:Int) (t:R4):qdA (z2o q s:Int) (dhA (z2o q s:Int)) p t=qdR (z2o q s:Int) p t:=by cases q <;> cases s <;> rfl
theorem shs_in (L:List R6) (x y z:Int):rh6V L x y z=true↔inS L x y z:=by
 unfold rh6V shsV inS;rw [Cv];constructor
 ·rintro ⟨r,hr,h⟩;simp only [shR,Ac,As] at h;exact ⟨r,hr,⟨h.1,h.2.1⟩,⟨h.2.2.1,h.2.2.2.1⟩,h.2.2.2.2.1,h.2.2.2.2.2⟩
 ·rintro ⟨r,hr,⟨h1,h2⟩,⟨h3,h4⟩,h5,h6⟩;exact ⟨r,hr,by simp only [shR,Ac,As];exact ⟨h1,h2,h3,h4,h5,h6⟩⟩
theorem rh_ax (q:Ax) (L:List R6) (p u v:Int):rh6V L (Vf q.ix p u v).a (Vf q.ix p u v).b (Vf q.ix p u v).c =true↔q.inL L p u v:=by rw [shs_in,q.inL_S];cases q <;> exact Iff.rfl
theorem w5f (P:Int→Int→Bool) (x:Int) (r:R4): ∀k y,r∈v2b P x k y↔ ∃j:Nat,j<k∧P x (y+j)=true∧r=⟨x,y+j,x+1,y+j+1⟩
 | 0,y=>⟨fun h=>(by cases h),fun ⟨j,hj,_⟩=>absurd hj (AO _)⟩
 | k+1,y=>by
  unfold v2b;rw [AF,w5f P x r k (y+1)];constructor
  ·rintro (h | ⟨j,hj,h1,h2⟩)
   ·rcases Yx (P x y) with q | q
    ·rw [q,Ab] at h;exact ⟨0,by omega,by simpa using q,by simpa using AT.1 h⟩
    ·rw [q,Aa] at h;cases h
   ·have e:y+1+(j:Int)=y+((j+1:Nat):Int):=(by omega);rw [e] at h1 h2;exact ⟨j+1,by omega,h1,h2⟩
  ·rintro ⟨j,hj,h1,h2⟩;cases j with
   | zero=>have h1:P x y=true:=(by simpa using h1);exact .inl (by rw [h1,Ab,h2];simp)
   | succ j=>have e:y+((j+1:Nat):Int)=y+1+(j:Int):=(by omega);rw [e] at h1 h2;exact .inr ⟨j,by omega,h1,h2⟩
theorem z9w (P:Int→Int→Bool) (m:Nat) (y:Int) (r:R4): ∀k x,r∈y1x P m y k x↔ ∃i:Nat,i<k∧ ∃j:Nat,j<m∧P (x+i) (y+j)=true∧r=⟨x+i,y+j,x+i+1,y+j+1⟩
 | 0,x=>⟨fun h=>(by cases h),fun ⟨j,hj,_⟩=>absurd hj (AO _)⟩
 | k+1,x=>by
  unfold y1x;rw [AF,w5f,z9w P m y r k (x+1)];constructor
  ·rintro (⟨j,hj,h1,h2⟩ | ⟨i,hi,j,hj,h1,h2⟩)
   ·exact ⟨0,by omega,j,hj,by simpa using h1,by simpa using h2⟩
   ·have e:x+1+(i:Int)=x+((i+1:Nat):Int):=(by omega);rw [e] at h1 h2;exact ⟨i+1,by omega,j,hj,h1,h2⟩
  ·rintro ⟨i,hi,j,hj,h1,h2⟩;cases i with
   | zero=>exact .inl ⟨j,hj,by simpa using h1,by simpa using h2⟩
   | succ i=>have e:x+((i+1:Nat):Int)=x+1+(i:Int):=(by omega);rw [e] at h1 h2;exact .inr ⟨i,by omega,j,hj,h1,h2⟩
theorem u4j (P:Int→Int→Bool) (m k:Nat) (y x u v:Int):ptL Wh.inB (y1x P m y k x) (u,v)↔P u v=true∧(x≤u∧u<x+k)∧(y≤v∧v<y+m):=by
 rw [j4w];constructor
 ·rintro ⟨r,hr,h1,h2⟩;obtain ⟨i,hi,j,hj,h,rfl⟩:=(z9w P m y r k x).1 hr;simp only at h1 h2;obtain rfl:u=x+i:=by omega
  obtain rfl:v=y+j:=by omega
  exact ⟨h,by omega,by omega⟩
 ·rintro ⟨h,h1,h2⟩;have eu:x+((u - x).toNat :Int)=u:=by omega
  have ev:y+((v - y).toNat :Int)=v:=by omega
  exact ⟨⟨u,v,u+1,v+1⟩,(z9w P m y _ k x).2 ⟨(u - x).toNat,by omega,(v - y).toNat,by omega,by rw [eu,ev];exact h,by rw [eu,ev]⟩,⟨AV _,by show u<u+1;omega⟩,AV _,by show v<v+1;omega⟩
theorem uX_ix (q:Ax) (S:List R6) {p u v:Int} (k:q.inL S p u v):rd (uX S q.ix) 0≤u∧u<z1f (uX S q.ix)∧rd (uY S q.ix) 0≤v∧v<z1f (uY S q.ix):=by
 have lo: ∀(i x:Int),x∈Uy S i→rd (Uy S i) 0≤x∧x≤z1f (Uy S i):=fun i x hx=>by
  have ha:(Uy S i).Pairwise (· < ·):=(Xm _).1;obtain ⟨j,hj,e⟩:=AS hx;rw [←Yi hj] at e;unfold z1f;constructor
  ·rcases BG j with q | q
   ·rw [q] at e;omega
   ·have:=z9s ha q hj;omega
  ·rcases Bb (show j≤(Uy S i).length - 1 by omega) with q | q
   ·rw [←q];omega
   ·have:=z9s ha q (by omega);omega
 have mem: ∀(r:R6),r∈S→ ∀i,z6k r.a r.b r.c i∈Uy S i∧z6k r.d r.e r.f i∈Uy S i:=fun r hr i=>
  ⟨((Xm _).2 _).2 (AN.2 ⟨r,hr,by simp⟩),((Xm _).2 _).2 (AN.2 ⟨r,hr,by simp⟩)⟩
 obtain ⟨r,hr,_,k2,k3⟩:=k;have m0:=mem r hr 0;have m1:=mem r hr 1;have m2:=mem r hr 2;cases q
 ·have a:=lo 1 _ m1.1;have b:=lo 1 _ m1.2;have c:=lo 2 _ m2.1;have d:=lo 2 _ m2.2;simp only [z6k] at a b c d;have k2:r.b≤u∧u<r.e:=k2;have k3:r.c≤v∧v<r.f:=k3;show rd (Uy S 1) 0≤u∧u<z1f (Uy S 1)∧rd (Uy S 2) 0≤v∧v<z1f (Uy S 2);simp at a b c d;omega
 ·have a:=lo 0 _ m0.1;have b:=lo 0 _ m0.2;have c:=lo 2 _ m2.1;have d:=lo 2 _ m2.2;simp only [z6k] at a b c d;have k2:r.a≤u∧u<r.d:=k2;have k3:r.c≤v∧v<r.f:=k3;show rd (Uy S 0) 0≤u∧u<z1f (Uy S 0)∧rd (Uy S 2) 0≤v∧v<z1f (Uy S 2);simp at a b c d;omega
 ·have a:=lo 0 _ m0.1;have b:=lo 0 _ m0.2;have c:=lo 1 _ m1.1;have d:=lo 1 _ m1.2;simp only [z6k] at a b c d;have k2:r.a≤u∧u<r.d:=k2;have k3:r.b≤v∧v<r.e:=k3;show rd (Uy S 0) 0≤u∧u<z1f (Uy S 0)∧rd (Uy S 1) 0≤v∧v<z1f (Uy S 1);simp at a b c d;omega
theorem x7l {S:List R6} (hS:x3w S=true) (N:List R6) (m:R6) (q:Ax) (s:Bool) {p:Int} (hp: -12≤p∧p≤12):
  Wh.can (z9z S N m (z2o q s:Int) p)∧ ∀u v,ptL Wh.inB (z9z S N m (z2o q s:Int) p) (u,v)↔w7o m q.ix (z4s s p) u v=true∧q.inL S (y9b s p) u v∧ ¬q.inL N (z4s s p) u v:=by
 obtain ⟨o1,o2⟩:=w1r q s hp;unfold z9z;rw [x2h,o1,o2];have cq: ∀u v,z2p S N m q.ix (y9b s p) (z4s s p) u v=true↔w7o m q.ix (z4s s p) u v=true∧q.inL S (y9b s p) u v∧ ¬q.inL N (z4s s p) u v:=fun u v=>by unfold z2p;rw [Ac,Ac,rh_ax,BE,←Bool.not_eq_true,rh_ax]
 by_cases hn:S=[]
 ·subst hn;have e:joV 2 (y1x (z2p [] N m q.ix (y9b s p) (z4s s p)) (z0x (uY [] q.ix)) (rd (uY [] q.ix) 0) (z0x (uX [] q.ix)) (rd (uX [] q.ix) 0)) []=[]:=by
   have:z0x (uX [] q.ix)=0:=by cases q <;> rfl
   rw [this];rfl
  rw [e];refine ⟨Wh.nil,fun u v=>⟨fun k=>absurd k (y6x _ _),fun k=> ?_⟩⟩;obtain ⟨r,hr,_⟩:=k.2.1;cases hr
 obtain ⟨x1,x2⟩:=z5m (v2n hS hn q.ix);obtain ⟨y1,y2⟩:=z5m (v2m hS hn q.ix);have bx:=z3v (v2n hS hn q.ix) (v2n hS hn q.ix).2.2.2;have bY:=z3v (v2m hS hn q.ix) (v2m hS hn q.ix).2.2.2;obtain ⟨c,pts⟩:=v6t (l:=y1x (z2p S N m q.ix (y9b s p) (z4s s p)) (z0x (uY S q.ix)) (rd (uY S q.ix) 0) (z0x (uX S q.ix)) (rd (uX S q.ix) 0)) fun r hr=>by obtain ⟨i,hi,j,hj,_,rfl⟩:=(z9w _ _ _ _ _ _).1 hr;simp only [Vo,Ac,As];omega
 refine ⟨c,fun u v=> ?_⟩;rw [pts,u4j,cq];constructor
 ·exact fun k=>k.1
 ·intro k;have:=uX_ix q S k.2.1;exact ⟨k,by omega,by omega⟩
theorem opD {A B:Prop} [Decidable A] [Decidable B]:opB 2 (decide A) (decide B)=true↔A∧ ¬B:=by simp [opB]
theorem opE {A B:Prop} [Decidable A] [Decidable B]:opB 1 (decide A) (decide B)=true↔A∧B:=by simp [opB]
theorem w1e (q:Op) {a b:List R4} (h:rgE q a b=0):Wk q a b=rgJ q.k a b:=by unfold Wk;rw [h];rfl
def FS (q:Ax) (s:Bool) (S A:List R6) (p:Int):List R4:=rgJ 2 (D4.out (z7c q S (y9b s p))) (D4.out (z7c q A (z4s s p)))
section
variable {S A:List R6} (hS:Yd S=0) (hA:Yd A=0) (nS:nbS S) (nA:nbS A)
include hS hA
theorem v9q (q:Ax) (s:Bool) (p:Int):Wh.can (FS q s S A p)∧ ∀u v,ptL Wh.inB (FS q s S A p) (u,v)↔q.inL S (y9b s p) u v∧ ¬q.inL A (z4s s p) u v:=by obtain ⟨a1,a2,a3⟩:=z1h hS q (y9b s p);obtain ⟨b1,b2,b3⟩:=z1h hA q (z4s s p);obtain ⟨j1,j2,_⟩:=z1b 2 a3 b3;exact ⟨j1,fun u v=>by rw [show ptL Wh.inB (FS q s S A p) (u,v)↔_ from j2 (u,v),opD,a2,b2]⟩
include nS
theorem j0w (q:Ax) (s:Bool) (p:Int):(FS q s S A p).length ≤288:=by obtain ⟨c,pts⟩:=v9q hS hA q s p;exact (z7w c fun u v k=>(z7v hS nS q ((pts u v).1 k).1).2).1
include nA
theorem x9l (q:Ax) (s:Bool) {p:Int} (hp: -12≤p∧p≤12):y4f S A (z2o q s:Int) p=0∧z6t S A (z2o q s:Int) p=FS q s S A p:=by obtain ⟨o1,o2⟩:=w1r q s hp;obtain ⟨a0,a1,a2,a3⟩:=w7b hS nS q (y9b s p);obtain ⟨b0,b1,b2,b3⟩:=w7b hA nA q (z4s s p);obtain ⟨ca,_,va⟩:=z1h hS q (y9b s p);obtain ⟨cb,_,vb⟩:=z1h hA q (z4s s p);have fl:=j0w hS hA nS q s p;have e:=x3q .d (by omega) (by omega) va vb ca cb (fun x=>by have:=a3 x;have:=b3 x;omega) (show (FS q s S A p).length ≤400 by omega);unfold y4f z6t;rw [x2h,o1,o2,a0,b0,a1,b1,w1e .d e];refine ⟨?_,rfl⟩;show rgE .d _ _=0;exact e
end
theorem pl12 {S:List R6} (h:x3w S=true) (q:Ax) {p:Int} (hp:p∈plQ q S): -12≤p∧p≤12:=(z7d h q.ix).2.1 p (by rw [j0n];exact hp)
theorem j0m {d:Nat} (h:d<6): ∃q s,d=z2o q s:=by
 have:d=0∨d=1∨d=2∨d=3∨d=4∨d=5:=by omega
 rcases this with rfl | rfl | rfl | rfl | rfl | rfl
 ·exact ⟨.x,true,rfl⟩
 ·exact ⟨.x,false,rfl⟩
 ·exact ⟨.y,true,rfl⟩
 ·exact ⟨.y,false,rfl⟩
 ·exact ⟨.z,true,rfl⟩
 ·exact ⟨.z,false,rfl⟩
theorem x7o (E:Int→Int): ∀l:List Int,(∀p∈l,E p=0)→y5u E l=0
 | [],_=>rfl
 | p::l,h=>by unfold y5u;rw [h p (by simp)];exact x7o E l fun x hx=>h x (by simp [hx])
section
variable {S N:List R6} {m:R6} {E:Int→Int→Int} {M:Int→Int→List R4} (hr:x3w S=true)
 (hE: ∀q s p,-12≤p∧p≤12→E (z2o q s:Int) p=0) (hM: ∀q s p,-12≤p∧p≤12→M (z2o q s:Int) p=z9z S N m (z2o q s:Int) p)
include hr
theorem y8m (hE: ∀q s p,-12≤p∧p≤12→E (z2o q s:Int) p=0): ∀k d,d+k=6→w7i E S k d=0
 | 0,_,_=>rfl
 | k+1,d,h=>by
  obtain ⟨q,s,e⟩:=j0m (show d<6 by omega);have z:y5u (E (d:Int)) (plA (dhA (d:Int)) S)=0:=by rw [e,x2h,v5u];exact x7o _ _ fun p hp=>hE q s p (pl12 hr q hp)
  show (bif y5u (E (d:Int)) (plA (dhA (d:Int)) S) != 0 then y5u (E (d:Int)) (plA (dhA (d:Int)) S) else w7i E S k (d+1))=0;rw [z];exact y8m hE k (d+1) (by omega)
theorem j7w (hM: ∀q s p,-12≤p∧p≤12→M (z2o q s:Int) p=z9z S N m (z2o q s:Int) p) (q:Ax) (s:Bool):z4u M (z2o q s:Int) (plQ q S)=w9g S N m (z2o q s:Int) (plQ q S):=by unfold z4u w9g;refine y2b fun p hp=> ?_;rw [hM q s p (pl12 hr q hp)];exact BT fun t _=>qd_dir q s p t
theorem w4a (hM: ∀q s p,-12≤p∧p≤12→M (z2o q s:Int) p=z9z S N m (z2o q s:Int) p): ∀k d,d+k=6→y5y M S k d=u1x S N m k d
 | 0,_,_=>rfl
 | k+1,d,h=>by obtain ⟨q,s,e⟩:=j0m (show d<6 by omega);show z4u M (d:Int) (plA (dhA (d:Int)) S)++y5y M S k (d+1)=w9g S N m (d:Int) (Uy S (dhA (d:Int)))++u1x S N m k (d+1);rw [w4a hM k (d+1) (by omega),e,x2h,v5u,j0n,j7w hr hM]
end
theorem w7h (M:Int→Int→List R4) (S:List R6):(y5y M S 6 0).length =(z4u M (z2o .x true:Int) (plQ .x S)).length +(z4u M (z2o .x false:Int) (plQ .x S)).length +((z4u M (z2o .y true:Int) (plQ .y S)).length +(z4u M (z2o .y false:Int) (plQ .y S)).length)+((z4u M (z2o .z true:Int) (plQ .z S)).length +(z4u M (z2o .z false:Int) (plQ .z S)).length):=by
 have e:y5y M S 6 0=z4u M ((0:Nat):Int) (plA (dhA ((0:Nat):Int)) S)++(z4u M ((0+1:Nat):Int) (plA (dhA ((0+1:Nat):Int)) S)++(z4u M ((0+1+1:Nat):Int) (plA (dhA ((0+1+1:Nat):Int)) S)++(z4u M ((0+1+1+1:Nat):Int) (plA (dhA ((0+1+1+1:Nat):Int)) S)++(z4u M ((0+1+1+1+1:Nat):Int) (plA (dhA ((0+1+1+1+1:Nat):Int)) S)++(z4u M ((0+1+1+1+1+1:Nat):Int) (plA (dhA ((0+1+1+1+1+1:Nat):Int)) S)++[]))))):=rfl;have p: ∀q s,plA (dhA (z2o q s:Int)) S=plQ q S:=fun q s=>by rw [x2h,v5u]
 have p0:plA (dhA ((0:Nat):Int)) S=plQ .x S:=p .x true;have p1:plA (dhA ((0+1:Nat):Int)) S=plQ .x S:=p .x false;have p2:plA (dhA ((0+1+1:Nat):Int)) S=plQ .y S:=p .y true;have p3:plA (dhA ((0+1+1+1:Nat):Int)) S=plQ .y S:=p .y false;have p4:plA (dhA ((0+1+1+1+1:Nat):Int)) S=plQ .z S:=p .z true;have p5:plA (dhA ((0+1+1+1+1+1:Nat):Int)) S=plQ .z S:=p .z false;rw [e,p0,p1,p2,p3,p4,p5];simp only [Aw,Bs];show _+(_+(_+(_+(_+(_+0)))))=_;have d0:(z2o .x true:Int)=((0:Nat):Int):=rfl;have d1:(z2o .x false:Int)=((0+1:Nat):Int):=rfl;have d2:(z2o .y true:Int)=((0+1+1:Nat):Int):=rfl;have d3:(z2o .y false:Int)=((0+1+1+1:Nat):Int):=rfl;have d4:(z2o .z true:Int)=((0+1+1+1+1:Nat):Int):=rfl;have d5:(z2o .z false:Int)=((0+1+1+1+1+1:Nat):Int):=rfl;rw [d0,d1,d2,d3,d4,d5];omega
theorem x4l (M:Int→Int→List R4) (d:Int): ∀P:List Int,(z4u M d P).length =(P.map fun p=>(M d p).length).sum
 | []=>rfl
 | p::P=>by have ih:=x4l M d P;show ((M d p).map _++z4u M d P).length =_;rw [Aw,A6,ih,AY,Bz]
theorem v2v (e:Int) (f g:Int→Nat): ∀P:List Int,(∀p∈P,f p≤288∧(p≠e→f p≤g p))→(P.map f).sum ≤288*(P.map fun p=>if e=p then 1 else 0).sum +(P.map g).sum
 | [],_=>AD _
 | p::P,h=>by
  have ih:=v2v e f g P fun x hx=>h x (by simp [hx]);obtain ⟨h1,h2⟩:=h p (by simp);simp only [AY,Bz];by_cases q:e=p
  ·rw [AC q];omega
  ·rw [Ay q];have:=h2 fun k=>q k.symm;omega
theorem w4r {e:Int} {f g:Int→Nat} {P:List Int} (hP:P.Pairwise (· < ·)) (h: ∀p∈P,f p≤288∧(p≠e→f p≤g p)):(P.map f).sum ≤288+(P.map g).sum :=by have h1:=v2v e f g P h;have h2:=x8z e P hP;have:288*(P.map fun p=>if e=p then 1 else 0).sum ≤288*1:=Nat.mul_le_mul_left _ h2;omega
theorem u4q {S:List R6} (h:Yd S=0) (hl:S.length≤6) (q:Ax):((plQ q S).map fun p=>(fcF q true S p).length).sum +((plQ q S).map fun p=>(fcF q false S p).length).sum ≤240:=by
 obtain ⟨_,hv,_,hL⟩:=Ke h;have hr: ∀r∈S,q.lo r<q.hi r:=fun r h=>(q.val (hv r h)).2.1;have key: ∀P:List Int,(P.map fun p=>(fcF q true S p).length).sum +(P.map fun p=>(fcF q false S p).length).sum ≤20*((P.map fun p=>(hiL q S p).length).sum +(P.map fun p=>(loL q S p).length).sum):=fun P=>by
  induction P with
  | nil=>exact Ar _
  | cons p P ih=>
   simp only [AY,Bz] at ih ⊢;have h1:=v9y q hv (by omega) hL p;have h2:(hiL q S p).length +(loL q S p).length ≤20:=by have:=v2q q hr p;omega
   have h3:=AH ((hiL q S p).length +(loL q S p).length) h2;have e1:(fcF q true S p).length =(upF q S p).length :=rfl;have e2:(fcF q false S p).length =(dnF q S p).length :=rfl;omega
 have h1:=y6e q.hi (plQ q S) (x3u q S) q.rc S;have h2:=y6e q.lo (plQ q S) (x3u q S) q.rc S;have:=key (plQ q S);unfold hiL loL at this;omega
theorem v1m (q:Ax) (b:R6) (p u v:Int):q.inB b p u v↔u4h b (q.to p u v).1 (q.to p u v).2.1 (q.to p u v).2.2:=by
 cases q
 ·exact ⟨fun ⟨a,b,c⟩=>⟨a,b,c⟩,fun ⟨a,b,c⟩=>⟨a,b,c⟩⟩
 ·exact ⟨fun ⟨a,b,c⟩=>⟨b,a,c⟩,fun ⟨a,b,c⟩=>⟨b,a,c⟩⟩
 ·exact ⟨fun ⟨a,b,c⟩=>⟨b,c,a⟩,fun ⟨a,b,c⟩=>⟨c,a,b⟩⟩
def w8m (q:Ax) (s:Bool) (b:R6):Int:=match s with
 | true=>q.hi b
 | false=>q.lo b
theorem x1w {q:Ax} {s:Bool} {b:R6} {p u v:Int} (h:q.inB b (y9b s p) u v) (hne:p≠w8m q s b):q.inB b (z4s s p) u v:=by
 obtain ⟨h1,h2⟩:=h;refine ⟨?_,h2⟩;cases s with
 | true=>have h1:q.lo b≤p - 1∧p - 1<q.hi b:=h1;have hne:p≠q.hi b:=hne;show q.lo b≤p∧p<q.hi b;omega
 | false=>have h1:q.lo b≤p∧p<q.hi b:=h1;have hne:p≠q.lo b:=hne;show q.lo b≤p - 1∧p - 1<q.hi b;omega
theorem j5y {S:List R6} (h:Yd S=0) (hl:S.length≤6) (q:Ax) (s:Bool) (p:Int):Wh.can (fcF q s S p)∧ ∀u v,ptL Wh.inB (fcF q s S p) (u,v)↔q.inL S (y9b s p) u v∧ ¬q.inL S (z4s s p) u v:=by
 obtain ⟨_,hv,_,_⟩:=Ke h;cases s with
 | true=>exact v2l q hv (by omega) p
 | false=>exact v8c q hv (by omega) p
section
variable {l:List Pa} (L:Land l) (hn: ∀x∈l,x3w x.s=true) {A:List R6} (hA:Yd A=0) (nA:nbS A) (pA: ∀x y z,inS A x y z↔ ∃p∈l,inS p.s x y z) {i:Nat} (hi:i<l.length)
include L hn hA nA pA hi
theorem v3t (q:Ax) (s:Bool) {p:Int} (hne:p≠w8m q s (bxP (rd l i))):(FS q s (rd l i).s A p).length ≤(fcF q s (rd l i).s p).length :=by
 have _u:=nA;have hS:=L.sck i hi;have hr:=hn (rd l i) (by rw [Yi hi];exact AM hi);obtain ⟨nS,l6⟩:=w1w hr;obtain ⟨c1,p1⟩:=v9q hS hA q s p;obtain ⟨c2,p2⟩:=j5y hS l6 q s p;have e:FS q s (rd l i).s A p=fcF q s (rd l i).s p:=Wh.uniq _ _ c1 c2 fun ⟨u,v⟩=>by
  rw [p1,p2];constructor
  ·rintro ⟨k1,k2⟩;refine ⟨k1,fun k=>k2 ?_⟩;rw [q.inL_S] at k ⊢;exact (pA _ _ _).2 ⟨rd l i,by rw [Yi hi];exact AM hi,k⟩
  ·rintro ⟨k1,k2⟩;refine ⟨k1,fun k=>k2 ?_⟩;rw [q.inL_S] at k;obtain ⟨r,hr',kr⟩:=(pA _ _ _).1 k;obtain ⟨j,hj,rfl⟩:=AS hr';rw [←Yi hj] at kr;have b1:q.inB (bxP (rd l i)) (y9b s p) u v:=(v1m q _ _ _ _).2 (L.ins i hi _ _ _ ((q.inL_S _ _ _ _).1 k1));have b2:=(v1m q _ _ _ _).1 (x1w b1 hne);have b3:=L.ins j hj _ _ _ kr;have:=L.dis i j hi hj _ _ _ b2 b3;subst this;rw [q.inL_S];exact kr
 rw [e];exact Ar _
theorem u0s :(y5y (z6t (rd l i).s A) (rd l i).s 6 0).length ≤3000:=by
 have hS:=L.sck i hi;have hr:=hn (rd l i) (by rw [Yi hi];exact AM hi);obtain ⟨nS,l6⟩:=w1w hr;have one: ∀q s,(z4u (z6t (rd l i).s A) (z2o q s:Int) (plQ q (rd l i).s)).length ≤288+((plQ q (rd l i).s).map fun p=>(fcF q s (rd l i).s p).length).sum :=fun q s=>by rw [x4l];refine w4r (e:=w8m q s (bxP (rd l i))) (x3u q _) fun p hp=> ?_;rw [(x9l hS hA nS nA q s (pl12 hr q hp)).2];exact ⟨j0w hS hA nS q s p,fun hne=>v3t L hn hA nA pA hi q s hne⟩
 have two: ∀q,(z4u (z6t (rd l i).s A) (z2o q true:Int) (plQ q (rd l i).s)).length +(z4u (z6t (rd l i).s A) (z2o q false:Int) (plQ q (rd l i).s)).length ≤816:=fun q=>by have a:=one q true;have b:=one q false;have c:=u4q hS l6 q;omega
 have a:=two .x;have b:=two .y;have c:=two .z;rw [w7h];omega
theorem j2g :v9t (y4f (rd l i).s A) (z6t (rd l i).s A) (rd l i).s =0∧y5y (z6t (rd l i).s A) (rd l i).s 6 0=x8k (rd l i).s A 0 0 0 0 0 0:=by
 have hS:=L.sck i hi;have hr:=hn (rd l i) (by rw [Yi hi];exact AM hi);obtain ⟨nS,l6⟩:=w1w hr;have dR:=u0s L hn hA nA pA hi;have hz:=y8m (E:=y4f (rd l i).s A) hr (fun q s p hp=>(x9l hS hA nS nA q s hp).1) 6 0 rfl;refine ⟨?_,?_⟩
 ·unfold v9t;rw [hz,An (by omega)];rfl
 ·refine w4a (m:=o6) hr (fun q s p hp=> ?_) 6 0 rfl;rw [(x9l hS hA nS nA q s hp).2];obtain ⟨c1,p1⟩:=v9q hS hA q s p;obtain ⟨c2,p2⟩:=x7l hr A o6 q s hp;refine Wh.uniq _ _ c1 c2 fun ⟨u,v⟩=> ?_;rw [p1,p2];exact ⟨fun k=>⟨rfl,k⟩,fun k=>k.2⟩
end
theorem v8w {b:R6} (h:Yd [b]=0):z3k b=true:=(Ke h).2.1 b (by simp)
theorem j4y {b:R6} (h:Yd [b]=0) (q:Ax) (p:Int):Wy q.ix [b] p=0∧Za q.ix [b] p=D4.out (z7c q [b] p)∧(D4.out (z7c q [b] p)).length ≤1∧(∀x,(D4.inn (D4.out (z7c q [b] p)) x).length ≤1):=by obtain ⟨hl,hv,_,_⟩:=Ke h;have n1:(z7c q [b] p).length ≤1:=x4o q [b] p;have f:=v7m (y2d q hv p) (by omega);have fl:(D4.out (z7c q [b] p)).length ≤1:=AK f.len (Nat.mul_le_mul n1 n1);obtain ⟨m0,m1⟩:=z1y (y2d q hv p) (by omega) (by omega);unfold Wy Za;rw [v8i];exact ⟨m1,m0,fl,fun x=>AK (f.sec x) n1⟩
theorem one_in (q:Ax) (b:R6) (p u v:Int):q.inL [b] p u v↔q.inB b p u v:=by
 constructor
 ·rintro ⟨r,hr,k⟩;obtain rfl:=AT.1 hr;exact k
 ·exact fun k=>⟨b,by simp,k⟩
theorem v9v {b:R6} (h:Yd [b]=0) (q:Ax) (p u v:Int):w7o b q.ix p u v=true↔q.inB b p u v:=by
 have hv:=z0w (v8w h);have hz:eqB b o6=false:=by
  cases e:eqB b o6 with
  | false=>rfl
  | true=>simp only [eqB,o6,Ah,Ac,beq_iff_eq] at e;omega
 unfold w7o;rw [hz,Aa,v1m];unfold j4f u4h;simp only [Ac,As];cases q
 ·show (b.a≤p∧p<b.d∧b.b≤u∧u<b.e∧b.c≤v∧v<b.f)↔(b.a≤p∧p<b.d)∧(b.b≤u∧u<b.e)∧(b.c≤v∧v<b.f);omega
 ·show (b.a≤u∧u<b.d∧b.b≤p∧p<b.e∧b.c≤v∧v<b.f)↔(b.a≤u∧u<b.d)∧(b.b≤p∧p<b.e)∧(b.c≤v∧v<b.f);omega
 ·show (b.a≤u∧u<b.d∧b.b≤v∧v<b.e∧b.c≤p∧p<b.f)↔(b.a≤u∧u<b.d)∧(b.b≤v∧v<b.e)∧(b.c≤p∧p<b.f);omega
section
variable {S T:List R6} {b:R6} (hS:Yd S=0) (hT:Yd T=0) (hb:Yd [b]=0) (nS:nbS S) (nT:nbS T)
include hT hb
def ZS (q:Ax) (s:Bool) (T:List R6) (b:R6) (p:Int):List R4:=rgJ 2 (D4.out (z7c q [b] (z4s s p))) (D4.out (z7c q T (z4s s p)))
theorem v9n (q:Ax) (s:Bool) (p:Int):Wh.can (ZS q s T b p)∧(∀u v,ptL Wh.inB (ZS q s T b p) (u,v)↔q.inB b (z4s s p) u v∧ ¬q.inL T (z4s s p) u v)∧ ∀r∈ZS q s T b p,Vo r=true:=by
 obtain ⟨a1,a2,a3⟩:=z1h hb q (z4s s p);obtain ⟨b1,b2,b3⟩:=z1h hT q (z4s s p);obtain ⟨j1,j2,_⟩:=z1b 2 a3 b3;have pts: ∀u v,ptL Wh.inB (ZS q s T b p) (u,v)↔q.inB b (z4s s p) u v∧ ¬q.inL T (z4s s p) u v:=fun u v=>by rw [show ptL Wh.inB (ZS q s T b p) (u,v)↔_ from j2 (u,v),opD,a2,b2,one_in]
 refine ⟨j1,pts,x4r j1 fun u v k=> ?_⟩;have:=(j2 (u,v)).1 k;rw [opD] at this;exact x2t a3 this.1
include nT
theorem ZS_len (q:Ax) (s:Bool) (p:Int):(ZS q s T b p).length ≤400∧ ∀x,(D4.inn (ZS q s T b p) x).length ≤13:=by
 obtain ⟨c,pts,_⟩:=v9n hT hb q s p;have key: ∀{a a' b b':Prop} {x lo hi:Int},¬((a∧ ¬b)↔(a'∧ ¬b'))→(b→x8m (x - 1))→(b'→x8m x)→(x≠lo→x≠hi→(a↔a'))→x∈L25++[lo,hi]:=fun {a a' b b' x lo hi} hn h1 h2 h3=>by
  rw [AF];by_cases e1:x=lo
  ·exact .inr (by simp [e1])
  by_cases e2:x=hi
  ·exact .inr (by simp [e2])
  refine .inl (v9p ?_);unfold x8m at h1 h2;have ha:=h3 e1 e2;by_cases k1:b
  ·have:=h1 k1;omega
  ·by_cases k2:b'
   ·have:=h2 k2;omega
   ·exact absurd (by rw [ha];exact ⟨fun k=>⟨k.1,k2⟩,fun k=>⟨k.1,k1⟩⟩) hn
 have:=v5i c (L25++[(q.rc b).a,(q.rc b).c]) (L25++[(q.rc b).b,(q.rc b).d]) (fun u v hn=>by
  rw [pts,pts] at hn;refine key hn (fun k=>(z7v hT nT q k).2.1) (fun k=>(z7v hT nT q k).2.1) fun e1 e2=> ?_;unfold Ax.inB;constructor
  ·rintro ⟨k1,k2,k3⟩;exact ⟨k1,by omega,k3⟩
  ·rintro ⟨k1,k2,k3⟩;exact ⟨k1,by omega,k3⟩) (fun u v hn=>by
  rw [pts,pts] at hn;refine key hn (fun k=>(z7v hT nT q k).2.2) (fun k=>(z7v hT nT q k).2.2) fun e1 e2=> ?_;unfold Ax.inB;constructor
  ·rintro ⟨k1,k2,k3⟩;exact ⟨k1,k2,by omega⟩
  ·rintro ⟨k1,k2,k3⟩;exact ⟨k1,k2,by omega⟩)
 have e: ∀x y:Int,(L25++[x,y]).length =27:=fun _ _=>rfl;rw [e,e] at this;exact ⟨AK this.1 (by decide),this.2⟩
include hS nS
def PS (q:Ax) (s:Bool) (S T:List R6) (b:R6) (p:Int):List R4:=rgJ 1 (D4.out (z7c q S (y9b s p))) (ZS q s T b p)
theorem w7k (q:Ax) (s:Bool) (p:Int):Wh.can (PS q s S T b p)∧(∀u v,ptL Wh.inB (PS q s S T b p) (u,v)↔q.inL S (y9b s p) u v∧q.inB b (z4s s p) u v∧ ¬q.inL T (z4s s p) u v)∧(PS q s S T b p).length ≤288:=by
 obtain ⟨a1,a2,a3⟩:=z1h hS q (y9b s p);obtain ⟨z1,z2,z3⟩:=v9n hT hb q s p;obtain ⟨j1,j2,_⟩:=z1b 1 a3 z3;have _u:=nT;have pts: ∀u v,ptL Wh.inB (PS q s S T b p) (u,v)↔q.inL S (y9b s p) u v∧q.inB b (z4s s p) u v∧ ¬q.inL T (z4s s p) u v:=fun u v=>by rw [show ptL Wh.inB (PS q s S T b p) (u,v)↔_ from j2 (u,v),opE,a2,z2]
 exact ⟨j1,pts,(z7w j1 fun u v k=>(z7v hS nS q ((pts u v).1 k).1).2).1⟩
theorem x9c (q:Ax) (s:Bool) {p:Int} (hp: -12≤p∧p≤12):y3z S T b (z2o q s:Int) p=0∧z6o S T b (z2o q s:Int) p=PS q s S T b p:=by obtain ⟨o1,o2⟩:=w1r q s hp;obtain ⟨a0,a1,a2,a3⟩:=w7b hS nS q (y9b s p);obtain ⟨t0,t1,t2,t3⟩:=w7b hT nT q (z4s s p);obtain ⟨b0,b1,b2,b3⟩:=j4y hb q (z4s s p);obtain ⟨ca,_,va⟩:=z1h hS q (y9b s p);obtain ⟨ct,_,vt⟩:=z1h hT q (z4s s p);obtain ⟨cb,_,vb⟩:=z1h hb q (z4s s p);obtain ⟨zl,zx⟩:=ZS_len hT hb nT q s p;obtain ⟨cz,_,vz⟩:=v9n hT hb q s p;obtain ⟨_,_,pl⟩:=w7k hS hT hb nS nT q s p;have e1:=x3q .d (by omega) (by omega) vb vt cb ct (fun x=>by have:=b3 x;have:=t3 x;omega) (show (ZS q s T b p).length ≤400 from zl);have e2:=x3q .e (show _≤400 by omega) zl va vz ca cz (fun x=>by have:=a3 x;have:=zx x;omega) (show (PS q s S T b p).length ≤400 by omega);have z0:Wk .d (D4.out (z7c q [b] (z4s s p))) (D4.out (z7c q T (z4s s p)))=ZS q s T b p:=w1e .d e1;unfold y3z z6o;rw [x2h,o1,o2,a0,b0,t0,a1,b1,t1,z0,w1e .e e2];have e1:Ki .d (D4.out (z7c q [b] (z4s s p))) (D4.out (z7c q T (z4s s p)))=0:=e1;rw [e1];refine ⟨?_,rfl⟩;show rgE .e _ _=0;exact e2
end
section
variable {l:List Pa} (L:Land l) (hn: ∀x∈l,x3w x.s=true) {i k:Nat} (hi:i<l.length) (hk:k<l.length) (hik:i≠k)
include L hn hi hk hik
theorem j1p :v9t (y3z (rd l i).s (rd l k).s (bxP (rd l k))) (z6o (rd l i).s (rd l k).s (bxP (rd l k))) (rd l i).s =0∧y5y (z6o (rd l i).s (rd l k).s (bxP (rd l k))) (rd l i).s 6 0=x8k (rd l i).s (rd l k).s (rd l k).a (rd l k).b (rd l k).c (rd l k).d (rd l k).e (rd l k).f :=by
 have hS:=L.sck i hi;have hT:=L.sck k hk;have hb:=L.val k hk;have hr:=hn (rd l i) (by rw [Yi hi];exact AM hi);have hr2:=hn (rd l k) (by rw [Yi hk];exact AM hk);obtain ⟨nS,_⟩:=w1w hr;obtain ⟨nT,_⟩:=w1w hr2;have side: ∀q s p,p≠w8m q s (bxP (rd l i))→(PS q s (rd l i).s (rd l k).s (bxP (rd l k)) p).length ≤0:=fun q s p hne=>by
  obtain ⟨c,pts,_⟩:=w7k hS hT hb nS nT q s p;have:PS q s (rd l i).s (rd l k).s (bxP (rd l k)) p=[]:=y1q Wh c fun ⟨u,v⟩ m=>by obtain ⟨k1,k2,_⟩:=(pts u v).1 m;have b1:q.inB (bxP (rd l i)) (y9b s p) u v:=(v1m q _ _ _ _).2 (L.ins i hi _ _ _ ((q.inL_S _ _ _ _).1 k1));exact hik (L.dis i k hi hk _ _ _ ((v1m q _ _ _ _).1 (x1w b1 hne)) ((v1m q _ _ _ _).1 k2))
  rw [this];exact Ar _
 have one: ∀q s,(z4u (z6o (rd l i).s (rd l k).s (bxP (rd l k))) (z2o q s:Int) (plQ q (rd l i).s)).length ≤288:=fun q s=>by
  rw [x4l];have:=w4r (e:=w8m q s (bxP (rd l i))) (f:=fun p=>(z6o (rd l i).s (rd l k).s (bxP (rd l k)) (z2o q s:Int) p).length) (g:=fun _=>0) (x3u q (rd l i).s) fun p hp=>by show (z6o (rd l i).s (rd l k).s (bxP (rd l k)) (z2o q s:Int) p).length ≤288∧(p≠w8m q s (bxP (rd l i))→(z6o (rd l i).s (rd l k).s (bxP (rd l k)) (z2o q s:Int) p).length ≤0);rw [(x9c hS hT hb nS nT q s (pl12 hr q hp)).2];exact ⟨(w7k hS hT hb nS nT q s p).2.2,fun hne=>side q s p hne⟩
  have z: ∀P:List Int,(P.map fun _=>(0:Nat)).sum =0:=fun P=>by
   induction P with
   | nil=>rfl
   | cons _ _ ih=>rw [AY,Bz,ih]
  rw [z] at this;exact this
 have dR:(y5y (z6o (rd l i).s (rd l k).s (bxP (rd l k))) (rd l i).s 6 0).length ≤3000:=by have a:=one .x true;have b:=one .x false;have c:=one .y true;have d:=one .y false;have e:=one .z true;have f:=one .z false;rw [w7h];omega
 have hz:=y8m (E:=y3z (rd l i).s (rd l k).s (bxP (rd l k))) hr (fun q s p hp=>(x9c hS hT hb nS nT q s hp).1) 6 0 rfl;refine ⟨?_,?_⟩
 ·unfold v9t;rw [hz,An (by omega)];rfl
 ·refine w4a (m:=bxP (rd l k)) hr (fun q s p hp=> ?_) 6 0 rfl;rw [(x9c hS hT hb nS nT q s hp).2];obtain ⟨c1,p1,_⟩:=w7k hS hT hb nS nT q s p;obtain ⟨c2,p2⟩:=x7l hr (rd l k).s (bxP (rd l k)) q s hp;refine Wh.uniq _ _ c1 c2 fun ⟨u,v⟩=> ?_;rw [p1,p2,v9v hb];exact ⟨fun ⟨a,b,c⟩=>⟨b,a,c⟩,fun ⟨a,b,c⟩=>⟨b,a,c⟩⟩
end
theorem v4f (b:R6):rvbR b=true↔z3k b=true:=by unfold rvbR rvbV x8l;rw [y9t];unfold x8j;simp only [Ac,As];omega
theorem can1 (a b:Int) (h:a<b):z4r.can [⟨a,b⟩]:=⟨by simpa using h,by simp⟩
theorem j4z {b:R6} (h:z3k b=true):Yd [b]=0:=by have v:=z0w h;refine x3e (show 1≤400 by decide) (fun r hr=>by rw [AT.1 hr];exact h) ⟨[⟨b.c,b.f,[⟨b.a,b.b,b.d,b.e⟩]⟩],.one _ ⟨by show b.c<b.f;omega,⟨[⟨b.a,b.d,[⟨b.b,b.e⟩]⟩],.one _ ⟨by show b.a<b.d;omega,can1 b.b b.e (by omega),by simp⟩,rfl⟩,by simp⟩,rfl⟩
theorem u3p {a b:R6} (ha:z3k a=true) (hb:z3k b=true):v6o a b= !eqB (x6h a b) o6:=by
 have va:=z0w ha;have vb:=z0w hb;unfold v6o j5e x6h y0u;simp only [x4h,x4g];by_cases h1:max a.a b.a≥min a.d b.d
 ·rw [Ai h1,BB,Ab];have:(decide (a.a<b.d)&&(decide (b.a<a.d)&&(decide (a.b<b.e)&&(decide (b.b<a.e)&&(decide (a.c<b.f)&&decide (b.c<a.f))))))=false:=by refine A4.2 fun h=> ?_;simp only [Ac,As] at h;omega
  rw [this];rfl
 by_cases h2:max a.b b.b≥min a.e b.e
 ·rw [An h1,Ai h2,Bl,BB,Ab];have:(decide (a.a<b.d)&&(decide (b.a<a.d)&&(decide (a.b<b.e)&&(decide (b.b<a.e)&&(decide (a.c<b.f)&&decide (b.c<a.f))))))=false:=by refine A4.2 fun h=> ?_;simp only [Ac,As] at h;omega
  rw [this];rfl
 by_cases h3:max a.c b.c≥min a.f b.f
 ·rw [An h1,An h2,Ai h3,Bl,Bl,Ab];have:(decide (a.a<b.d)&&(decide (b.a<a.d)&&(decide (a.b<b.e)&&(decide (b.b<a.e)&&(decide (a.c<b.f)&&decide (b.c<a.f))))))=false:=by refine A4.2 fun h=> ?_;simp only [Ac,As] at h;omega
  rw [this];rfl
 ·rw [An h1,An h2,An h3,Bl,Bl,Aa];have:(decide (a.a<b.d)&&(decide (b.a<a.d)&&(decide (a.b<b.e)&&(decide (b.b<a.e)&&(decide (a.c<b.f)&&decide (b.c<a.f))))))=true:=by simp only [Ac,As];omega
  rw [this];have:eqB ⟨max a.a b.a,max a.b b.b,max a.c b.c,min a.d b.d,min a.e b.e,min a.f b.f⟩ o6=false:=by refine A4.2 fun h=> ?_;simp only [eqB,o6,Ah,Ac,beq_iff_eq] at h;omega
  rw [this];rfl
theorem j5p {a b:R6} (ha:z3k a=true):insR a b=eqB (x6h a b) a:=by
 have va:=z0w ha;rw [Bool.eq_iff_iff];unfold insR j5q x6h y0u;simp only [x4h,x4g,Ac,As];constructor
 ·intro h;rw [An (by omega),An (by omega),An (by omega),Bl,Bl,Aa];simp only [eqB,Ah,Ac,beq_iff_eq];omega
 ·intro h;by_cases g:(decide (max a.a b.a≥min a.d b.d)||(decide (max a.b b.b≥min a.e b.e)||decide (max a.c b.c≥min a.f b.f)))=true
  ·rw [g,Ab] at h;simp only [eqB,Ah,Ac,beq_iff_eq] at h;omega
  ·rw [Bool.not_eq_true] at g;rw [g,Aa] at h;simp only [eqB,Ah,Ac,beq_iff_eq] at h;omega
theorem v3v : ∀l:List Pa,skE l=rkE l
 | []=>rfl
 | x::l=>by unfold skE rkE;rw [y0k,v3v l]
theorem v9c {α:Type} {f g:α→Bool}: ∀{l:List α},(∀x∈l,f x=g x)→l.any f=l.any g
 | [],_=>rfl
 | x::l,h=>by rw [Ca,Ca,h x (by simp),v9c fun y hy=>h y (by simp [hy])]
theorem u6z {l:List Pa} (hs: ∀x∈l,Yd x.s=0): ∀(k i:Nat),i+k≤l.length→(∀j,j<i→z3k (bxP (rd l j))=true)→skG l k i=rkG l k i
 | 0,_,_,_=>rfl
 | k+1,i,h,hv=>by
  have hi:i<l.length:=by omega
  have hsi:=hs (rd l i) (by rw [Yi hi];exact AM hi);obtain ⟨_,sv,_,_⟩:=Ke hsi;show (bif v8z l i then (8:Int) else skG l k (i+1))=bif j4s l i then 8 else rkG l k (i+1);by_cases hb:z3k (bxP (rd l i))=true
  ·have e1:(Yd [bxP (rd l i)] != 0)=false:=by rw [j4z hb];rfl
   have e2:(!rvbR (bxP (rd l i)))=false:=by rw [(v4f _).2 hb];rfl
   have e:v8z l i=j4s l i:=by
    unfold v8z j4s;rw [e1,e2]
    congr 2
    ·exact v9c fun r hr=>by rw [j5p (sv r hr)]
    ·refine v9c fun y hy=> ?_;obtain ⟨j,hj,rfl⟩:=AS hy;rw [AZ] at hj;rw [Bf,←Yi (show j<l.length by omega)];exact u3p hb (hv j (by omega))
   rw [e,u6z hs k (i+1) (by omega) fun j hj=>by
    rcases Bb (B0 hj) with rfl | g
    ·exact hb
    ·exact hv j g]
  ·have e1:(Yd [bxP (rd l i)] != 0)=true:=by
    cases q:(Yd [bxP (rd l i)] != 0) with
    | true=>rfl
    | false=>exact absurd (v8w (by simpa using q)) hb
   have e2:(!rvbR (bxP (rd l i)))=true:=by
    cases q:rvbR (bxP (rd l i)) with
    | false=>rfl
    | true=>exact absurd ((v4f _).1 q) hb
   unfold v8z j4s;rw [e1,e2];rfl
theorem w7c (l:List Pa):z2l l=z8i l:=by
 unfold z2l z8i;rw [v3v];cases g:decide (50<l.length) with
 | true=>rfl
 | false=>
  rw [Aa,Aa];rcases Yx (rkE l != 0) with q | q
  ·rw [q];rfl
  ·rw [q,Aa,Aa];have h0:skE l=0:=by rw [v3v];simpa using q
   exact u6z (x3b h0) l.length 0 (by omega) fun j hj=>absurd hj (AO _)
theorem v2r {E:Int→Int→Int} {M:Int→Int→List R4} {S:List R6} (h:v9t E M S=0):(y5y M S 6 0).length ≤3000:=by
 unfold v9t at h;rcases Yx (w7i E S 6 0 != 0) with q | q
 ·rw [q,Ab] at h;rw [h] at q;cases q
 rw [q,Aa] at h;by_cases g:((y5y M S 6 0).length :Int)>3000
 ·rw [Ai g] at h;cases h
 ·omega
theorem y4w {l:List Pa} (h:v2c l=true) (h5:l.length≤50): ∀x∈l,x3w x.s=true:=by unfold v2c at h;rw [An (by omega),Aa,Ac] at h;intro x hx;have hx:=At.1 h.1 x hx;unfold nrX at hx;simp only [Ac,BE,Bw] at hx;obtain ⟨h6,h9,_⟩:=hx;unfold w1u at h9;rw [An (by omega),Aa,Ac] at h9;unfold x3w;rw [Ai (by omega),Aj];refine At.2 fun r hr=> ?_;have:=At.1 h9.1 r hr;unfold u3m at this;simp only [x4g,x4h,Ac,As,BE,Bw] at this ⊢;omega
theorem j3o {l:List Pa} (h:v2c l=true):l.length≤55:=by
 unfold v2c at h;by_cases g:(l.length:Int)>50
 ·rw [Ai g,Ab] at h;have:=AA h;omega
 ·omega
theorem u5a (x:Pa):eqP x x=true:=by unfold eqP eqB;simp only [beq_self_eq_true,Ah,Aj];exact Ai rfl
theorem x5y (l:List Pa): ∀k i,rlmF l l k i=true
 | 0,_=>rfl
 | k+1,i=>by unfold rlmF;rw [u5a,x5y l k (i+1)];rfl
theorem v4t (l:List Pa):j3q l l=true:=by
 unfold j3q;have:((l.length:Int) != (l.length:Int))=false:=by simp
 rw [this,Aa,x5y]
theorem u5s {l:List Pa} (h:v2c l=true):z8n l=z0y l∧z4v l=Vv l:=by
 have hc:=w7c l;unfold z4v Vv z8n z0y;rw [←hc];rcases Yx (z2l l != 0) with q | q
 ·unfold z4t;simp only [q,Ab];exact ⟨trivial,trivial⟩
 ·rw [q,Aa,Aa];have L:=w2g (show z2l l=0 by simpa using q);have hn:=y4w h L.len;obtain ⟨w1,w2⟩:=j0y l [] v3w v6e fun x hx=>by obtain ⟨i,hi,rfl⟩:=AS hx;rw [←Yi hi];exact ⟨L.sck i hi,(w1w (hn _ (by rw [Yi hi];exact AM hi))).1⟩
  rw [w1];refine ⟨rfl,?_⟩;show z4t (whE [] l) (whL [] l)=z4t (whE [] l) (rwL [] l);rcases Yx (whE [] l != 0) with q2 | q2
  ·unfold z4t;rw [q2];rfl
  ·rw [(w2 (by simpa using q2)).1]
theorem skn_eq {l:List Pa} (h:v2c l=true) (x:Int):z5a l x=z6x l x∧z8q l x=Ka l x:=by
 have hc:=w7c l;obtain ⟨u1,u0⟩:=u5s h;unfold z8q Ka;have key:z5a l x=z6x l x∧(z6x l x=0→sknL l x=rlsL l x):=by
  unfold z5a z6x;rw [←hc];rcases Yx (z2l l != 0) with q | q
  ·rw [q,Ab,Ab];exact ⟨rfl,fun k=>by rw [k] at q;cases q⟩
  rw [q,Aa,Aa];rcases Yx (decide (x<0)||decide (x≥(l.length:Int))) with q1 | q1
  ·rw [q1,Ab,Ab];exact ⟨rfl,fun k=>by cases k⟩
  rw [q1,Aa,Aa];have L:=w2g (show z2l l=0 by simpa using q);have hn:=y4w h L.len;have e1:z0y l=z0e l:=by rw [←u1];unfold z8n;rw [q,Aa]
  have e0:Vv l=Yv l:=by rw [←u0];unfold z4v z8n;rw [q,Aa];rfl
  rw [e1];rcases Yx (z0e l != 0) with q2 | q2
  ·rw [q2,Ab,Ab];exact ⟨rfl,fun k=>by rw [k] at q2;cases q2⟩
  rw [q2,Aa,Aa];rw [Bu,Bw,Bw] at q1;have z:whE [] l=0:=by simpa using (show (whE [] l != 0)=false from q2)
  obtain ⟨_,w2⟩:=j0y l [] v3w v6e fun x hx=>by obtain ⟨i,hi,rfl⟩:=AS hx;rw [←Yi hi];exact ⟨L.sck i hi,(w1w (hn _ (by rw [Yi hi];exact AM hi))).1⟩
  obtain ⟨_,a2,a3,a4⟩:=w2 z;have ev:Yv l=whL [] l:=by unfold Yv z4t;rw [show (whE [] l != 0)=false from q2];rfl
  obtain ⟨s1,s2⟩:=j2g L hn (A:=Yv l) (ev ▸ a2) (ev ▸ a3) (fun x y z=>by
   rw [ev,a4];constructor
   ·rintro (⟨r,hr,_⟩ | k)
    ·cases hr
    ·exact k
   ·exact .inr) (i:=Int.toNat x) (by omega)
  exact ⟨s1,fun _=>by
   unfold sknL rlsL rlsL0;rw [s2,e0]⟩
 obtain ⟨k1,k0⟩:=key;refine ⟨k1,?_⟩;rw [k1];rcases Yx (z6x l x != 0) with q | q
 ·unfold z4t;rw [q];rfl
 ·rw [k0 (by simpa using q)]
theorem stp_eq {l:List Pa} (h:v2c l=true) (x y:Int):z4w l x y=z6w l x y∧z1v l x y=z0f l x y:=by
 have hc:=w7c l;unfold z1v z0f;have key:z4w l x y=z6w l x y∧(z6w l x y=0→stpL l x y=rltL l x y):=by
  unfold z4w z6w;rw [←hc];rcases Yx (z2l l != 0) with q | q
  ·rw [q,Ab,Ab];exact ⟨rfl,fun k=>by rw [k] at q;cases q⟩
  rw [q,Aa,Aa];rcases Yx (decide (x<0)||(decide (x≥(l.length:Int))||(decide (y<0)||(decide (y≥(l.length:Int))||(x == y))))) with q1 | q1
  ·rw [q1,Ab,Ab];exact ⟨rfl,fun k=>by cases k⟩
  rw [q1,Aa,Aa];have L:=w2g (show z2l l=0 by simpa using q);have hn:=y4w h L.len;simp only [Bu,Bw,beq_eq_false_iff_ne,ne_eq] at q1;obtain ⟨s1,s2⟩:=j1p L hn (i:=Int.toNat x) (k:=Int.toNat y) (by omega) (by omega) (by omega);exact ⟨s1,fun _=>s2⟩
 obtain ⟨k1,k0⟩:=key;refine ⟨k1,?_⟩;rw [k1];rcases Yx (z6w l x y != 0) with q | q
 ·unfold z4t;rw [q];rfl
 ·rw [k0 (by simpa using q)]
theorem u0r (l:List Pa) (x:Int):(z8q l x).length ≤3000:=by
 unfold z8q z4t;rcases Yx (z5a l x != 0) with q | q
 ·rw [q];exact AD _
 ·rw [q,Aa];have z:z5a l x=0:=by simpa using q
  unfold z5a at z;rcases Yx (z2l l != 0) with a | a
  ·rw [a,Ab] at z;rw [z] at a;cases a
  rw [a,Aa] at z;rcases Yx (decide (x<0)||decide (x≥(l.length:Int))) with b | b
  ·rw [b] at z;cases z
  rw [b,Aa] at z;rcases Yx (z0e l != 0) with c | c
  ·rw [c,Ab] at z;rw [z] at c;cases c
  rw [c,Aa] at z;exact v2r z
theorem u0f (l:List Pa) (x y:Int):(z1v l x y).length ≤3000:=by
 unfold z1v z4t;rcases Yx (z4w l x y != 0) with q | q
 ·rw [q];exact AD _
 ·rw [q,Aa];have z:z4w l x y=0:=by simpa using q
  unfold z4w at z;rcases Yx (z2l l != 0) with a | a
  ·rw [a,Ab] at z;rw [z] at a;cases a
  rw [a,Aa] at z;rcases Yx (decide (x<0)||(decide (x≥(l.length:Int))||(decide (y<0)||(decide (y≥(l.length:Int))||(x == y))))) with b | b
  ·rw [b] at z;cases z
  rw [b,Aa] at z;exact v2r z
theorem lsk_run (l0:List Pa) (x1 x2:Int) (h6: ∀p∈l0,p.s.length≤1000000): ∃n,Yy (w2b l0 x1 x2) n (y5k l0 x1 x2)=.ret [.bool true]:=by
 refine ⟨0,?_⟩;unfold y5k;simp only [Zg,show z9b l0=true from rfl,Ab];rcases Yx (v2c l0) with q | q
 rotate_left
 ·rw [q];rfl
 have hs:smP l0=true:=by unfold smP;rw [Ai (by have:=j3o q;omega),Aj];exact At.2 fun x hx=>Ai (by have:=h6 x hx;omega)
 have hn:nrP l0=true:=by
  unfold nrP;rw [hs,Aj];by_cases g:50<l0.length
  ·rw [Ai g];rfl
  ·rw [Br];exact .inr (At.2 (y4w q (by omega)))
 have hm:z5f l0 l0=true:=by unfold z5f;rw [hs,Aj];exact At.2 fun x hx=>Ai (h6 x hx)
 obtain ⟨w1,w0⟩:=u5s q;obtain ⟨k1,k0⟩:=skn_eq q x1;obtain ⟨p1,p0⟩:=stp_eq q x1 x2;have o6:Ws (Vv l0) (Vv l0)=true:=Ai (by have:=v4s l0;omega);have oa:z2s (Ka l0 x1) (Ka l0 x1)=true:=Ai (by have:=u0r l0 x1;rw [k0] at this;omega);have ob:z2s (z0f l0 x1 x2) (z0f l0 x1 x2)=true:=Ai (by have:=u0f l0 x1 x2;rw [p0] at this;omega);rw [q,AE,Aa];simp only [show Jt l0=l0 from rfl,show z8u l0=true from hs,show z8m l0=true from hs,show z2u l0=true from hs,show z8p l0 x1=true from hs,show z9a l0 x1=true from hn,show z8o l0 x1 x2=true from hs,show z8z l0 x1 x2=true from hn,show Jf l0=true from hs,show Ji l0=true from hs,hm,w7c,w1,w0,k1,k0,p1,p0,o6,oa,ob,beq_self_eq_true,show Uo (Vv l0) (Vv l0)=true from Ai rfl,show rsqV (Ka l0 x1) (Ka l0 x1)=true from Ai rfl,show rsqV (z0f l0 x1 x2) (z0f l0 x1 x2)=true from Ai rfl,v4t,Ab];rfl
open Go.ChangeShapes Go.WideShapes Go.Deep
section
variable {P:Program}
def v7g (P:Program) (e:TypeId):List (TypeId×Nat):=match P.underlying e with
 | some (.struct fs)=>fs.toList.map fun f=>(f.type,f.offset)
 | _=>[]
def elsD {H:Type}:DataW H→List (DataW H)
 | .slice es _=>es
 | _=>[]
def x5v {H:Type} (n:Nat) (q:DataW H):Prop:=n=(elsD q).length ∧ ∀y∈elsD q,∃z r,y=.agg (z::r)
theorem w6t {e t0 t1:TypeId} {a b:Nat} (h:v7g P e=[(t0,a),(t1,b)]): ∃fs:Array Field,P.underlying e=some (.struct fs)∧fs.size=2∧(∃f0,fs[0]? =some f0∧f0.type=t0∧f0.offset=a)∧ ∃f1,fs[1]? =some f1∧f1.type=t1∧f1.offset=b:=by
 unfold v7g at h;split at h
 ·rename_i fs hu;refine ⟨fs,hu,?_⟩;obtain ⟨l⟩:=fs;simp only at h
  match l,h with
  | [f0,f1],h=>simp only [AY,Bd,List.cons.injEq,Ad,BZ] at h;exact ⟨rfl,⟨f0,rfl,h.1.1,h.1.2⟩,f1,rfl,h.2.1,h.2.2⟩
 ·cases h
abbrev ks6 :List IntKind:=[.i64,.i64,.i64,.i64,.i64,.i64]
variable {HH:Type} {enc:TypeId×Value→HH} {w:World} {base:Nat} {held:Bool}
theorem v0a {t e f0 f1:TypeId} {o0 o1:Nat} {ks:List IntKind} {cs:List Value} {x:DataW HH×List MemPlace} {fuel:Nat} (ht:P.underlying t=some (.slice e)) (hk:y7n P 30 e=some ks) (hks:1≤ks.length) (hfl:v7g P e=[(f0,o0),(f1,o1)])
  (h:DataW.trod enc P w base (fun _=>true) held fuel t cs=some x):
  ∃(v:Value) (n:Nat) (c:Nat→Nat→Int),cs=[v]∧Yw (z2w fun k=>w.heap[k]?) (.dat n (fun i=>y9h ks (c i))) v∧x5v n x.1:=by
 rcases open_slice ht h with ⟨h0,rfl⟩ | ⟨a,len,cap,m,fl,D,Pl,hcs,hb,hl,dW,hm,rfl,hi⟩
 ·exact ⟨_,0,fun _ _=>0,h0,.datn _,rfl,fun y hy=>by cases hy⟩
 ·simp only [if_true] at hm;subst hm;have hL:x5v len (DataW.slice ((List.range len).map D) ((List.range (m - len)).map fun j=>D (len+j))):=by
   refine ⟨by simp [elsD],fun y hy=> ?_⟩;obtain ⟨i,hi2,rfl⟩:=AQ.1 hy;have hil:=A0.1 hi2;obtain ⟨cs',_,ht'⟩:=hi i (by omega);obtain ⟨fs,hu,hsz,_⟩:=w6t hfl;obtain ⟨xs,_,_,hx,_,hxl,_⟩:=DataW.trod_struct hu ht';have hx:=(Prod.mk.inj hx).1
   match xs,hxl with
   | [],hxl=>simp at hxl;omega
   | z::r,_=>exact ⟨_,_,hx⟩
  by_cases hc0:m=0
  ·subst hc0;obtain rfl:len=0:=by omega
   exact ⟨_,0,fun _ _=>0,hcs,.datz _ _ _,hL⟩
  ·have hspot:a.spot=none:=by
    obtain ⟨cs',hc',ht'⟩:=hi 0 (by omega);have I:=z3y 30 e ks hk _ _ _ ht';obtain ⟨_,dR,eL⟩:=World.cells?_some hc';have h1:=eL 0 (by rw [←dR,I.length];exact hks);obtain ⟨blk,off,spot⟩:=a;have h2:cs'[0]? =some (cs'[0]'(by rw [I.length];exact hks)):=(by simp);rw [h2] at h1
    simpa [Addr.add] using World.cell?_spot h1
   obtain ⟨blk,off,spot⟩:=a;simp only at hspot;subst hspot;obtain ⟨c,h1,h2⟩:=u5e (w:=w) hk hl hl hi;exact ⟨_,len,c,hcs,h1,hL⟩
theorem open_land {t e t0 t1 b f0 f1:TypeId} {o0 o1:Nat} {v:Value} {d:DataW HH} {p:List MemPlace} (ht:P.underlying t=some (.slice e)) (hs:v7g P e=[(t0,0),(t1,6)]) (ce:P.cellsOf e=7) (c0:P.cellsOf t0=6) (c1:P.cellsOf t1=1)
  (k0:y7n P 30 t0=some ks6) (u1:P.underlying t1=some (.slice b)) (kb:y7n P 30 b=some ks6) (fb:v7g P b=[(f0,o0),(f1,o1)]) {b0:Nat} (hv:Value.okWide P w .any b0 t v) (h:DataW.Trod enc P w base (fun _=>true) held t v d p):
  ∃X:List Pa,Yw (z2w fun k=>w.heap[k]?) (.dat X.length (Zz X)) v∧ ∀x∈X,∃es sp ps q,d=.slice es sp∧DataW.agg ps∈es∧q∈ps∧x5v x.s.length q:=by
 obtain ⟨fuel,h⟩:=h;have hvc:v.cells.toList=[v]:=by
  unfold Value.okWide at hv;rw [ht] at hv;unfold Cell.okWide at hv;rw [ht] at hv;cases v <;> first | rfl | (simp [Cell.ok,ht] at hv)
 rcases open_slice ht h with ⟨h0,_⟩ | ⟨a,len,cap,m,fl,D,Pl,hcs,hb,hl,dW,hm,hx,hi⟩
 ·rw [hvc] at h0;obtain rfl:v=.slice none 0 0:=by simpa using h0
  exact ⟨[],.datn _,fun x hx=>by cases hx⟩
 ·rw [hvc] at hcs;obtain rfl:v=.slice (some a) len cap:=by simpa using hcs
  have hspot:a.spot=none:=by unfold Value.okWide at hv;rw [ht] at hv;unfold Cell.okWide at hv;rw [ht] at hv;simp only [Cell.ok,ht] at hv;exact hv.2.2.2.1
  obtain ⟨blk,off,spot⟩:=a;simp only at hspot;subst hspot;simp only [if_true] at hm;subst hm;obtain ⟨fs,hu,hsz,⟨f0,hf0,rfl,o0⟩,f1,hf1,rfl,o1⟩:=w6t hs;have key: ∀i,i<len→ ∃q:Pa×(Nat→Value),(∀j,j<7→w.cell? ⟨blk,off+(i*7+j),none⟩=some (q.2 j))∧(∀j (hj:j<7),Yw (z2w fun k=>w.heap[k]?) ((Xx.cells q.1)[j]'hj) (q.2 j))∧ ∃ps z,D i=DataW.agg ps∧z∈ps∧x5v q.1.s.length z:=by
   intro i hil;obtain ⟨cs',hc',ht'⟩:=hi i (by omega);obtain ⟨xs,n,_,hx',hcl,hxl,hf⟩:=DataW.trod_struct hu ht';have dR:cs'.length=7:=hcl.trans ce;have eL:=(World.cells?_some hc').2.2;have g0:=hf 0 f0 hf0;have g1:=hf 1 f1 hf1;rw [o0,c0,AX] at g0;rw [o1,c1] at g1;have hx0:0<xs.length:=by omega
   have hx1:1<xs.length:=by omega
   rw [Ao hx0] at g0;rw [Ao hx1] at g1;obtain ⟨ns,n1,n2,_⟩:=z3y 30 _ _ k0 _ _ _ g0;obtain ⟨u,n',c,e1,e2,e3⟩:=v0a u1 kb (by decide) fb g1
   match ns,n1 with
   | [m0,m1,m2,m3,m4,m5],_=>
    have ecs:cs'=[.int .i64 m0,.int .i64 m1,.int .i64 m2,.int .i64 m3,.int .i64 m4,.int .i64 m5,u]:=by
     rw [←List.take_append_drop 6 cs',n2];have:cs'.drop 6=[u]:=by rw [←e1,AP (by rw [BM];omega)]
     rw [this];rfl
    refine ⟨(⟨m0,m1,m2,m3,m4,m5,lst R6 n' fun i=>y9h ks6 (c i)⟩,fun j=>cs'.getD j undef),fun j hj=> ?_,fun j hj=> ?_,xs.map (·.1),xs[1].1,(Prod.mk.inj hx').1,AQ.2 ⟨xs[1],AM hx1,rfl⟩,?_⟩
    ·have:=eL j (by omega);rw [ce] at this;simp only [Xb] at this;rw [show off+(i*7+j)=off+i*7+j by omega,this];show cs'[j]? =some (cs'.getD j undef);rw [Bv,Ao (by omega)];rfl
    ·have last:=(Yh (α:=R6) (v:=.dat n' fun i=>y9h ks6 (c i)) rfl (Ys fun i _=>rfl)).sound e2;rw [ecs]
     match j,hj with
     | 0,_=>exact .int _ _
     | 1,_=>exact .int _ _
     | 2,_=>exact .int _ _
     | 3,_=>exact .int _ _
     | 4,_=>exact .int _ _
     | 5,_=>exact .int _ _
     | 6,_=>exact last
    ·have:(lst R6 n' fun i=>y9h ks6 (c i)).length =n':=(by simp [lst]);show x5v (lst R6 n' _).length _;rw [this];exact e3
  let Q:Nat→Pa×(Nat→Value):=fun i=>if hil:i<len then (key i hil).choose else (Xx.d,fun _=>undef)
  have hQ: ∀i,i<len→(∀j,j<7→w.cell? ⟨blk,off+(i*7+j),none⟩=some ((Q i).2 j))∧(∀j (hj:j<7),Yw (z2w fun k=>w.heap[k]?) ((Xx.cells (Q i).1)[j]'hj) ((Q i).2 j))∧ ∃ps z,D i=DataW.agg ps∧z∈ps∧x5v (Q i).1.s.length z:=by intro i hil;have:=(key i hil).choose_spec;simp only [Q,hil,dif_pos];exact this
  have hXl:((List.range len).map fun i=>(Q i).1).length =len:=by simp
  have gH: ∀i,i<len→Zz ((List.range len).map fun i=>(Q i).1) i=Xx.cells (Q i).1:=fun i hi=>by show Xx.cells (rd _ i)=_;rw [Yi (by rw [hXl];exact hi)];simp only [B5,List.getElem_range]
  refine ⟨(List.range len).map fun i=>(Q i).1,?_,fun x hx2=> ?_⟩
  ·rw [hXl];refine .dat len _ blk off 7 m (fun i j=>(Q i).2 j) hl (fun i hil=>by rw [gH i hil];rfl) (fun i j hil hj=> ?_) (fun i j hil hj=> ?_)
   ·have hj7:j<7:=by rw [gH i hil] at hj;exact hj
    have:=(hQ i hil).2.1 j hj7;simp only [gH i hil];exact this
   ·have e2:=(hQ i hil).1 j hj;unfold World.cell? at e2;split at e2
    ·rename_i cl el fz hb2;simp only [Option.isSome_none,Bool.false_eq_true,Cr] at e2;exact ⟨cl,el,fz,hb2,e2⟩
    ·cases e2
  ·obtain ⟨i,hi2,rfl⟩:=AQ.1 hx2;have hil:=A0.1 hi2;obtain ⟨ps,z,h1,h2,h3⟩:=(hQ i hil).2.2;exact ⟨_,_,ps,z,(Prod.mk.inj hx).1,AQ.2 ⟨i,hi2,h1⟩,h2,h3⟩
end
open Go.Proofs.YtpddoeiakpbkbaaGreat
theorem bk_one {H:Type} (d:DataW H):1≤Rows.uptoBulk d:=by
 cases d with
 | lit l=>cases l <;> simp [Rows.uptoBulk]
 | nil=>simp [Rows.uptoBulk]
 | ptr d=>simp [Rows.uptoBulk]
 | slice elems spare=>simp [Rows.uptoBulk]
 | agg parts=>simp [Rows.uptoBulk]
 | iface t d=>simp [Rows.uptoBulk]
 | map entries=>simp [Rows.uptoBulk]
 | held h=>simp [Rows.uptoBulk]
theorem v8y {H:Type} {d:DataW H} {l:List (DataW H)} (h:d∈l):Rows.uptoBulk d≤Rows.uptoBulkAll l:=by
 induction l with
 | nil=>cases h
 | cons x r ih=>
  simp only [Rows.uptoBulkAll];cases AI.1 h with
  | inl e=>subst e;omega
  | inr e=>have:=ih e;omega
theorem j0s {H:Type}: ∀(l:List (DataW H)),(∀y∈l,∃z r,y=DataW.agg (z::r))→2*l.length≤Rows.uptoBulkAll l
 | [],_=>AD _
 | x::l,h=>by have:=j0s l fun y hy=>h y (by simp [hy]);obtain ⟨z,r,rfl⟩:=h x (by simp);have:=bk_one z;simp only [Rows.uptoBulkAll,Rows.uptoBulk,AU];omega
theorem j8i {H:Type} {n:Nat} {q:DataW H} (h:x5v n q):2*n≤Rows.uptoBulk q:=by obtain ⟨h1,h2⟩:=h;have:=j0s _ h2;rw [←h1] at this;refine AK this ?_;cases q <;> simp only [elsD,Rows.uptoBulk,Rows.uptoBulkAll] <;> omega
theorem bk_land {H:Type} {ds:List (DataW H)} {d:DataW H} (hd:d∈ds) {n:Nat} (h: ∃es sp ps q,d=.slice es sp∧DataW.agg ps∈es∧q∈ps∧x5v n q) (hk:Rows.uptoSmall H ds=true):n≤1000000:=by obtain ⟨es,sp,ps,q,rfl,h1,h2,h3⟩:=h;have k:Rows.uptoBulkAll ds≤1048576:=AA hk;have a:=v8y hd;have b:=v8y h1;have c:=v8y h2;have e:=j8i h3;simp only [Rows.uptoBulk] at a b;omega
end Go.Am
end
