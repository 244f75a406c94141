/- A part of a proof: several texts in one. -/
import Derived.Test.YtpddoeiakpbkbaaGreatLn5
import Derived.ChangeArms
set_option maxRecDepth 1000000
set_option maxHeartbeats 8000000
set_option linter.unusedVariables false
set_option linter.unusedSimpArgs false
noncomputable section
namespace Go.Am
open IntKind (wrap)
open Go.Proofs Go.Sort Go.Shelf Go.RowKit Go.Lib
theorem x9v (kind:Int) (l m:List R4): ∀(k i:Nat) (out:List R4) (last:List R2) (first:Nat),jF kind l m k i out last first=D4.ref (y1i kind l m) (xsV l m) k i out last first
 | 0,_,_,_,_=>rfl
 | k+1,i,out,last,first=>by unfold jF Dim.ref;rw [x9v kind l m k,x9v kind l m k];rfl
theorem v7x {l m:List R4} (hl: ∀r∈l,Jj r=true) (hm: ∀r∈m,Jj r=true) (x:Int):y1i 1 l m x=spJ 1 (D4.inn l x) (D4.inn m x):=by
 obtain ⟨j1,j2⟩:=x0h 1 (Jd hl x) (Jd hm x);obtain ⟨y1,y2⟩:=Xd (Qk l++Qk m);have hh: ∀(k:List R4) (y:Int),z0v k x y=true↔pt (D4.inn k x) y:=fun k y=>by
  unfold z0v;rw [BU];constructor
  ·rintro ⟨r,hr,h⟩;simp only [in4,Ac,At] at h;exact ⟨_,x9f hr h.1 h.2.1,h.2.2.1,h.2.2.2⟩
  ·rintro ⟨s,hs,h1,h2⟩
   grind [z2w,in4]
 have ye: ∀(k:List R4) (s:R2),s∈D4.inn k x→s.a∈Qk k∧s.b∈Qk k:=fun k s hs=>by obtain ⟨r,hr,_,_,rfl⟩:=z2w hs;exact ⟨AD.2 ⟨r,hr,by simp⟩,AD.2 ⟨r,hr,by simp⟩⟩
 obtain ⟨d1,d2⟩:=x2f (ysV l m) y1 (w9g 1 l m x) ((D4.inn l x).flatMap fun s=>(D4.inn m x).map fun t=>⟨max s.a t.a,min s.b t.b⟩) (fun s hs=>by
  obtain ⟨p,hp,hs⟩:=AD.1 hs;obtain ⟨q,hq,rfl⟩:=AP.1 hs;have a:=ye l p hp;have b:=ye m q hq;unfold ysV;rw [y2,y2,AH,AH];dsimp only;rcases Int.le_total p.a q.a with u | u <;> rcases Int.le_total p.b q.b with v | v <;> simp only [Int.max_eq_right u,Int.max_eq_left u,Int.min_eq_left v,Int.min_eq_right v,a,b,true_or,or_true,and_self]) (fun y=>by
  show (z0v l x y&&z0v m x y)=true↔_;rw [Ac,hh,hh];constructor
  ·rintro ⟨⟨p,hp,h1,h2⟩,q,hq,h3,h4⟩;exact ⟨_,AD.2 ⟨p,hp,AP.2 ⟨q,hq,rfl⟩⟩,by dsimp only;omega,by dsimp only;omega⟩
  ·rintro ⟨s,hs,h1,h2⟩;obtain ⟨p,hp,hs⟩:=AD.1 hs;obtain ⟨q,hq,rfl⟩:=AP.1 hs;dsimp only at h1 h2;exact ⟨⟨p,hp,by omega,by omega⟩,q,hq,by omega,by omega⟩)
 refine y4i.uniq _ _ d1 j1 fun y=> ?_;show pt (y0d (ysV l m) ((ysV l m).map (w9g 1 l m x))) y↔_;rw [d2,j2];constructor
 ·rintro ⟨s,hs,h1,h2⟩;obtain ⟨p,hp,hs⟩:=AD.1 hs;obtain ⟨q,hq,rfl⟩:=AP.1 hs;dsimp only at h1 h2;rw [Al (show pt (D4.inn l x) y from ⟨p,hp,by omega,by omega⟩),Al (show pt (D4.inn m x) y from ⟨q,hq,by omega,by omega⟩)];rfl
 ·intro h;have h:(decide (pt (D4.inn l x) y)&&decide (pt (D4.inn m x) y))=true:=h;rw [Ac,AS,AS] at h;obtain ⟨⟨p,hp,h1,h2⟩,q,hq,h3,h4⟩:=h;exact ⟨_,AD.2 ⟨p,hp,AP.2 ⟨q,hq,rfl⟩⟩,by dsimp only;omega,by dsimp only;omega⟩
theorem j3d {l m:List R4} (hl: ∀r∈l,Jj r=true) (hm: ∀r∈m,Jj r=true):joV 1 l m=rgJ 1 l m:=by unfold joV;rw [x9v,v0j,←w2h,Dim.refS0 D4 z3w,show y1i 1 l m=fun x=>spJ 1 (D4.inn l x) (D4.inn m x) from funext (v7x hl hm)];rfl
def clB (b r:R6):R6:=⟨max b.a r.a,max b.b r.b,max b.c r.c,min b.d r.d,min b.e r.e,min b.f r.f⟩
def clL (b:R6) (M:List R6):List R6:=(M.map (clB b)).filter Kv
theorem x0j {N:List R6} (h6:N.length≤6) (vc: ∀r∈N,Kv r=true):(y7b N).length ≤400∧ ∀z,(z0z 2 N [] z).length ≤36∧z0z 2 N [] z=D4.out (D6.inn N z):=by
 have sb: ∀z,(z0z 2 N [] z).length ≤36∧z0z 2 N [] z=D4.out (D6.inn N z):=fun z=>by have h7:=D6.inn_length N z;have vz:=z0r vc z;have q:z0z 2 N [] z=D4.out (D6.inn N z):=(v4p (D6.inn N z) (Ar.2 vz) (by omega)).symm;have:=x1f vz (by omega);have:(D6.inn N z).length *(D6.inn N z).length ≤6*6:=BQ (by omega) (by omega);rw [q];exact ⟨by omega,rfl⟩
 refine ⟨?_,sb⟩;have e:y7b N=(D6.goS (z0z 2 N []) (D6.cuts N) ((D6.cuts N).length - 1) 0 ⟨[],[],0,0⟩).out :=Dim.refS0 D6 Kj _ _;have g:=D6.goS_length (z0z 2 N []) (D6.cuts N) ((D6.cuts N).length - 1) 0 ⟨[],[],0,0⟩;rw [←e] at g;have sm: ∀k,((List.range k).map fun j=>(z0z 2 N [] (rd (D6.cuts N) (0+j))).length).sum ≤36*k:=fun k=>by
  induction k with
  | zero=>simp
  | succ k ih=>rw [BE,Bo,BM];have:=(sb (rd (D6.cuts N) (0+k))).1;simp only [A2,By,List.sum_cons,List.sum_nil];omega
 have cl:(D6.cuts N).length ≤12:=by
  have h2:=compact_length_le (Xr (D6.ends N));rw [Jz] at h2;have h3:(D6.ends N).length =2*N.length:=D6.ends_length _;have h4:(D6.cuts N).length ≤(D6.ends N).length :=by show (Kz (D6.ends N)).length ≤_;have h1:=Jf (Xr (D6.ends N));exact h2
  omega
 have:=sm ((D6.cuts N).length - 1);simp only [Bx] at g;omega
section
variable {M a:List R6} {b:R6} (hM:M.length≤6) (hv: ∀r∈M,Kv r=true) (ha:Yx a=0) (hb:Yx [b]=0) (pa: ∀x y z,inS a x y z↔inS M x y z)
include hM hv ha hb pa
theorem u8e (x y z:Int):inS (clL b M) x y z↔inS a x y z∧inS [b] x y z:=by
 have _u:=hM;have _v:=ha;rw [pa];have vb:=We ((Vh hb).2.1 b (by simp));constructor
 ·rintro ⟨r,hr,h1,h2,h3⟩;obtain ⟨hr,_⟩:=A5.1 hr;obtain ⟨s,hs,rfl⟩:=AP.1 hr;unfold clB at h1 h2 h3;dsimp only at h1 h2 h3;exact ⟨⟨s,hs,by omega,by omega,by omega⟩,b,by simp,by omega,by omega,by omega⟩
 ·rintro ⟨⟨s,hs,h1,h2,h3⟩,t,ht,k1,k2,k3⟩;obtain rfl:=BD.1 ht;have vs:=We (hv s hs);refine ⟨clB t s,A5.2 ⟨List.mem_map_of_mem hs,?_⟩,?_⟩
  ·rw [y3w];unfold x2y clB;dsimp only;simp only [Ac,At]
   (repeat' apply And.intro) <;> omega
  ·unfold clB;dsimp only;omega
theorem u8c : ∀r∈clL b M,Kv r=true:=fun r hr=>by have _u:=hM;have _v:=hv;have _w:=ha;have _x:=hb;have _y:=pa;exact (A5.1 hr).2
theorem v6e :(clL b M).length ≤6:=by have _v:=hv;have _w:=ha;have _x:=hb;have _y:=pa;have:=List.length_filter_le Kv (M.map (clB b));rw [Bg] at this;unfold clL;omega
theorem u8d (z:Int):rgJ 1 (D6.inn a z) (D6.inn [b] z)=D4.out (D6.inn (clL b M) z)∧(D4.out (D6.inn (clL b M) z)).length ≤36:=by
 have h6:=v6e hM hv ha hb pa;have h7:=D6.inn_length (clL b M) z;have vc:=z0r (u8c hM hv ha hb pa) z;obtain ⟨j1,j2,_⟩:=y4q 1 (z6r ha z).2.1 (z6r hb z).2.1;obtain ⟨k1,k2⟩:=Ko vc (by omega);refine ⟨Ug.uniq _ _ j1 k1 fun ⟨x,y⟩=> ?_,?_⟩
 ·rw [j2,k2];show (decide (ptL Ug.inB (D6.inn a z) (x,y))&&decide (ptL Ug.inB (D6.inn [b] z) (x,y)))=true↔_;rw [Ac,AS,AS,z6s,z6s,z6s,u8e hM hv ha hb pa]
 ·have:=x1f vc (by omega);have:(D6.inn (clL b M) z).length *(D6.inn (clL b M) z).length ≤6*6:=BQ (by omega) (by omega);omega
theorem u8f :z0j.can (y7b (clL b M))∧(y7b (clL b M)).length ≤400∧ ∀x y z,inS (y7b (clL b M)) x y z↔inS a x y z∧inS [b] x y z:=by have h6:=v6e hM hv ha hb pa;have vc:=u8c hM hv ha hb pa;obtain ⟨c,pts⟩:=x0k vc;refine ⟨c,?_,fun x y z=>(pts x y z).trans (u8e hM hv ha hb pa x y z)⟩;exact (x0j h6 vc).1
theorem j2t :z3r .e a [b]=0∧z2i .e a [b]=y7b (clL b M):=by
 have h6:=v6e hM hv ha hb pa;obtain ⟨c,l4,pts⟩:=u8f hM hv ha hb pa;have hz: ∀x,slA .e a [b] x=0:=fun x=>by
  obtain ⟨a1,a2,a3,a4,a5⟩:=u3y ha x;obtain ⟨b1,b2,b3,b4,b5⟩:=u3y hb x;obtain ⟨s1,s2⟩:=u8d hM hv ha hb pa x;have hx:=D6.inn_length M x;have fw:=j3p (c:=D6.inn M x) (z0r hv x) (by omega);have ea:D6.inn a x=D4.out (D6.inn M x):=Ug.uniq _ _ a3 fw.can fun ⟨u,v⟩=>by rw [fw.pts,z6s,z6s,pa]
  unfold slA;rw [a4,b4,a5,b5];refine j2b .e a1 b1 a2 b2 a3 b3 (fun y=> ?_) (by show (rgJ 1 _ _).length ≤400;rw [s1];omega);have k1:=fw.sec y;have k2:=D4.inn_length (D6.inn [b] x) y;have k3:=D6.inn_length [b] x;rw [←ea] at k1;simp only [BI,Bx] at k3;omega
 have hf:=w0q (cs:=D6.cuts (a++[b])) hz ((D6.cuts (a++[b])).length - 1) 0;obtain ⟨j1,j2⟩:=w2p hf;have e:slJ .e a [b]=y7b (clL b M):=w5d j1 c fun x y z=>by rw [pts,Kt,j2,Kt,Kt];show (decide (ptL z0j.inB a (z,x,y))&&decide (ptL z0j.inB [b] (z,x,y)))=true↔_;rw [Ac,AS,AS]
 have e1:slE .e a [b]=0:=by unfold slE;rw [ha,hb,hf,e];show y7g _=0;unfold y7g;rw [Az (by omega)];rfl
 refine ⟨e1,?_⟩;unfold z2i;rw [e1,e];rfl
theorem v8z :Uw 1 a [b]=0∧Wm 1 a [b]=y7b (clL b M):=by
 obtain ⟨c,l4,pts⟩:=u8f hM hv ha hb pa;have sR: ∀z,z0z 1 a [b] z=rgJ 1 (D6.inn a z) (D6.inn [b] z):=fun z=>j3d (z6r ha z).2.1 (z6r hb z).2.1;have own: ∀{l:List R6},Yx l=0→ ∀z,(joV 2 (atV l z) []).length ≤400:=fun {l} hl z=>by obtain ⟨i1,i2,i3,i4⟩:=z6r hl z;have q:joV 2 (D6.inn l z) []=D6.inn l z:=(v4p (D6.inn l z) (Ar.2 i2) i3).symm.trans i4;show (joV 2 (D6.inn l z) []).length ≤400;rw [q];exact i3
 have many: ∀z,z3l 1 a [b] z=false:=fun z=>by obtain ⟨s1,s2⟩:=u8d hM hv ha hb pa z;unfold z3l;rw [sR,s1,Az (show ¬400<(D4.out (D6.inn (clL b M) z)).length by omega),Az (show ¬400<(joV 2 (atV a z) []).length from Nat.not_lt.2 (own ha z)),Az (show ¬400<(joV 2 (atV [b] z) []).length from Nat.not_lt.2 (own hb z))];rfl
 have js: ∀(k i:Nat) (out:List R6) (last:List R4) (first:Nat),jsF 1 a [b] k i out last first=some (D6.ref (z0z 1 a [b]) (D6.cuts (a++[b])) k i out last first):=fun k=>by
  induction k with
  | zero=>intros;rfl
  | succ k ih=>
   intro i out last first
   unfold jsF Dim.ref;rw [x2a,many,Aa,ih,ih];have e:D6.same (z0z 1 a [b] (rd (D6.cuts (a++[b])) i)) last=Vw (z0z 1 a [b] (rd (D6.cuts (a++[b])) i)) last:=rfl;rw [e];cases (decide (0<i)&&Vw (z0z 1 a [b] (rd (D6.cuts (a++[b])) i)) last) <;> rfl
 have ej:jsO 1 a [b]=some (y7b (clL b M)):=by
  unfold jsO;rw [x2a,js,Dim.refS0 D6 Kj,show z0z 1 a [b]=fun z=>rgJ 1 (D6.inn a z) (D6.inn [b] z) from funext sR];have j:=fun x=>y4q 1 (z6r ha x).2.1 (z6r hb x).2.1;obtain ⟨h1,h2⟩:=Dim.goJ_can z1n Kj Ug a [b] (rgJ 1) (fun x=>(j x).1) (by
   obtain ⟨j1,j2,j3⟩:=y4q 1 (a:=[]) (b:=[]) (fun r hr=>by cases hr) (fun r hr=>by cases hr);exact BA (Nat.le_zero.1 j3))
  congr 1
  refine w5d h1 c fun x y z=> ?_;rw [Kt,pts,show ptL z0j.inB _ (z,x,y)↔_ from h2 z (x,y),(j z).2.1];show (decide (ptL Ug.inB (D6.inn a z) (x,y))&&decide (ptL Ug.inB (D6.inn [b] z) (x,y)))=true↔_;rw [Ac,AS,AS,z6s,z6s]
 have e1:Uw 1 a [b]=0:=by unfold Uw z0p;rw [←z0e,←z0e,ha,hb,ej];show (bif decide (((y7b (clL b M)).length :Int)≤400) then (0:Int) else 4)=0;rw [Al (by omega)];rfl
 refine ⟨e1,?_⟩;unfold Wm Jg;rw [e1,ej];rfl
end
theorem nb_nr {S:List R6} (h:w7v S=true):nbS S∧S.length≤6:=by
 obtain ⟨h1,h2⟩:=Ba.1 h;refine ⟨fun x y z ⟨r,hr,k1,k2,k3⟩=> ?_,Av h1⟩
 grind [in12]
theorem v1n {l:List Pa}: ∀k i,skG l k i=0→ ∀j,i≤j→j<i+k→w9p l j=false
 | 0,i,_,j,h1,h2=>by omega
 | k+1,i,h,j,h1,h2=>by
  have h:(bif w9p l i then (8:Int) else skG l k (i+1))=0:=h;rcases Yy (w9p l i) with q | q
  ·rw [q] at h;cases h
  ·rw [q,Aa] at h;rcases A3 h1 with rfl | h1
   ·exact q
   ·exact v1n k (i+1) h j h1 (by omega)
def w0b (b:R6) (x y z:Int):Prop:=(b.a≤x∧x<b.d)∧(b.b≤y∧y<b.e)∧(b.c≤z∧z<b.f)
structure Land (l:List Pa):Prop where
 len:l.length≤50
 sck: ∀i,i<l.length→Yx (rd l i).s =0
 val: ∀i,i<l.length→Yx [bxP (rd l i)]=0
 ins: ∀i,i<l.length→ ∀x y z,inS (rd l i).s x y z→w0b (bxP (rd l i)) x y z
 dis: ∀i j,i<l.length→j<l.length→ ∀x y z,w0b (bxP (rd l i)) x y z→w0b (bxP (rd l j)) x y z→i=j
theorem x1o {l:List Pa} (h:z9g l=0):Land l:=by
 obtain ⟨h5,hE,hG⟩:=w2r h;have bad:=v1n _ _ hG;have b3: ∀i,i<l.length→Yx [bxP (rd l i)]=0∧(rd l i).s.any (fun r=> !insR r (bxP (rd l i)))=false∧(l.take i).any (fun y=>v4j (bxP (rd l i)) (bxP y))=false:=fun i hi=>by
  grind [w9p]
 have half: ∀i j,i<l.length→j<i→ ∀x y z,w0b (bxP (rd l i)) x y z→w0b (bxP (rd l j)) x y z→False:=fun i j hi hj x y z h1 h2=>by
  have:=List.any_eq_false.1 (b3 i hi).2.2 (rd l j) (by
   rw [Xz (show j<l.length by omega)];refine BH.2 ⟨j,by grind,?_⟩
   grind)
  grind [w0b,v4j,u7k]
 refine ⟨h5,fun i hi=>(v1m h hi).1,fun i hi=>(b3 i hi).1,fun i hi x y z ⟨r,hr,k1,k2,k3⟩=> ?_,fun i j hi hj x y z h1 h2=> ?_⟩;all_goals grind [insR,u7u,w0b]
def dirI (q:Ax) (s:Bool):Nat:=match q,s with
 | .x,true=>0
 | .x,false=>1
 | .y,true=>2
 | .y,false=>3
 | .z,true=>4
 | .z,false=>5
theorem j6j {b:R6} (h:Yx [b]=0):Kv b=true:=(Vh h).2.1 b (by simp)
theorem v1y (b:R6):rvbR b=true↔Kv b=true:=by
 grind [rvbR,rvbV,x6c,y3w,x2y]
theorem can1 (a b:Int) (h:a<b):y4i.can [⟨a,b⟩]:=⟨by simpa using h,by simp⟩
theorem j2o {b:R6} (h:Kv b=true):Yx [b]=0:=by have v:=We h;refine x0p (show 1≤400 by decide) (fun r hr=>by grind) ⟨[⟨b.c,b.f,[⟨b.a,b.b,b.d,b.e⟩]⟩],.one _ ⟨by grind,⟨[⟨b.a,b.d,[⟨b.b,b.e⟩]⟩],.one _ ⟨by grind,can1 b.b b.e (by omega),by simp⟩,rfl⟩,by simp⟩,rfl⟩
theorem u0w {a b:R6} (ha:Kv a=true) (hb:Kv b=true):v4j a b= !eqB (w7q a b) o6:=by
 have va:=We ha;have vb:=We hb;unfold v4j u7k w7q z8z
 grind [x1u,x1t,eqB,o6]
theorem j3h {a b:R6} (ha:Kv a=true):insR a b=eqB (w7q a b) a:=by
 have va:=We ha
 grind [insR,u7u,w7q,z8z,x1u,x1t,eqB]
theorem v1o : ∀l:List Pa,skE l=rkE l
 | []=>rfl
 | x::l=>by unfold skE rkE;rw [z0e,v1o l]
theorem any_cg {α:Type} {f g:α→Bool}: ∀{l:List α},(∀x∈l,f x=g x)→l.any f=l.any g
 | [],_=>rfl
 | x::l,h=>by grind
theorem u4e {l:List Pa} (hs: ∀x∈l,Yx x.s=0): ∀(k i:Nat),i+k≤l.length→(∀j,j<i→Kv (bxP (rd l j))=true)→skG l k i=rkG l k i
 | 0,_,_,_=>rfl
 | k +1,i,h,hv=>by
  have hi:i<l.length:=by omega
  have hsi:=hs (rd l i) (by grind [Xz]);obtain ⟨_,sv,_,_⟩:=Vh hsi;show (bif w9p l i then (8:Int) else skG l k (i+1))=bif j2h l i then 8 else rkG l k (i+1);by_cases hb:Kv (bxP (rd l i))=true
  ·have e1:(Yx [bxP (rd l i)] != 0)=false:=by rw [j2o hb];rfl
   have e2:(!rvbR (bxP (rd l i)))=false:=by rw [(v1y _).2 hb];rfl
   have e:w9p l i=j2h l i:=by
    unfold w9p j2h;rw [e1,e2]
    congr 2
    ·grind [j3h]
    ·refine any_cg fun y hy=> ?_;obtain ⟨j,hj,rfl⟩:=AR hy
     grind [Xz,u0w]
   rw [e,u4e hs k (i+1) (by omega) fun j hj=>by
    rcases A3 (Nat.le_of_lt_succ hj) with rfl | g
    ·exact hb
    ·exact hv j g]
  grind [j6j,v1y,w9p,j2h]
theorem w5c (l:List Pa):z9g l=y6y l:=by
 unfold z9g y6y;rw [v1o];cases g:decide (50<l.length) with
 | true=>rfl
 | false=>
  rw [Aa,Aa];rcases Yy (rkE l != 0) with q | q
  ·rw [q];rfl
  ·rw [q,Aa,Aa];have h0:skE l=0:=by rw [v1o];simpa using q
   grind [u4e,x0m]
theorem u4f : ∀{l:List Pa},(∀x∈l,Yx x.s=0)→skE l=0
 | [],_=>rfl
 | x::r,h=>by unfold skE;rw [h x (by simp)];exact u4f fun y hy=>h y (by simp [hy])
theorem u4d {l:List Pa}: ∀k i,(∀j,i≤j→j<i+k→w9p l j=false)→skG l k i=0
 | 0,i,_=>rfl
 | k+1,i,h=>by unfold skG;rw [h i (Aq _) (by omega)];exact u4d k (i+1) fun j h1 h2=>h j (by omega) (by omega)
theorem x2h (l:List Pa) (i:Nat) (S:List R6) (j:Nat):bxP (rd (l.set i (paS (rd l i) S)) j)=bxP (rd l j):=by
 by_cases h:j<l.length
 ·rw [w3n h];split
  ·rename_i e;subst e;rfl
  ·rfl
 ·unfold rd;simp [h]
theorem j2q {l:List Pa} (L:Land l):z9g l=0:=by
 unfold z9g;rw [Az (show ¬50<l.length by have:=L.len;omega),Aa,u4f fun x hx=> ?_]
 ·show skG _ l.length 0=0;refine u4d _ _ fun i _ hj=> ?_;have hi:i<l.length:=by omega
  have v:=We ((Vh (L.val i hi)).2.1 (bxP (rd l i)) (by simp));unfold w9p;rw [L.val i hi];have h1:(rd l i).s.any (fun r=> !insR r (bxP (rd l i)))=false:=List.any_eq_false.2 fun r hr=>by
   have v:=We ((Vh (L.sck i hi)).2.1 r hr);have a1:=L.ins i hi r.a r.b r.c ⟨r,hr,by omega,by omega,by omega⟩;have a2:=L.ins i hi (r.d - 1) (r.e - 1) (r.f - 1) ⟨r,hr,by omega,by omega,by omega⟩;unfold w0b at a1 a2;unfold insR u7u
   grind
  have h2:(l.take i).any (fun y=>v4j (bxP (rd l i)) (bxP y))=false:=List.any_eq_false.2 fun y hy=>by
   obtain ⟨m,hm,rfl⟩:=BH.1 hy;have hm:m<i:=by rw [BB] at hm;omega
   have hm':m<l.length:=by omega
   have w:=We ((Vh (L.val m hm')).2.1 (bxP (rd l m)) (by simp));have d:=L.dis i m hi hm' (max (bxP (rd l i)).a (bxP (rd l m)).a) (max (bxP (rd l i)).b (bxP (rd l m)).b) (max (bxP (rd l i)).c (bxP (rd l m)).c);rw [Bz,←Xz hm'];intro k;unfold v4j u7k at k;simp only [Ac,At] at k;have:=d (by unfold w0b;omega) (by unfold w0b;omega);omega
  rw [h1,h2];rfl
 ·obtain ⟨m,hm,rfl⟩:=BH.1 hx;have:=L.sck m hm;rwa [Xz hm] at this
theorem u9q {l:List Pa} {i:Nat} {S:List R6} (h:z9g l=0) (hi:i<l.length) (hS:Yx S=0) (hin: ∀x y z,inS S x y z→w0b (bxP (rd l i)) x y z):z9g (l.set i (paS (rd l i) S))=0:=by
 have L:=x1o h;have two: ∀j,j<l.length→rd (l.set i (paS (rd l i) S)) j=(if j=i then paS (rd l i) S else rd l j):=fun j hj=>w3n hj;refine j2q ⟨by rw [BF];exact L.len,fun j hj=> ?_,fun j hj=> ?_,fun j hj=> ?_,fun j m hj hm=> ?_⟩;all_goals rw [BF] at hj
 ·rw [two j hj];split
  ·exact hS
  ·exact L.sck j hj
 ·rw [x2h];exact L.val j hj
 ·rw [x2h,two j hj];split
  ·rename_i e;subst e;exact hin
  ·exact L.ins j hj
 ·rw [BF] at hm;rw [x2h,x2h];exact L.dis j m hj hm
theorem v8b {l:List Pa} (h:z9g l=0) {i k:Int} (h0:Wp l i k=0):(0≤i∧i<(l.length:Int))∧Vx l i k=l.set i.toNat (paS (rd l i.toNat) (coS l i k))∧z9g (Vx l i k)=0∧
  Yx (coS l i k)=0∧ ∀x y z,inS (rd l i.toNat).s x y z→inS (coS l i k) x y z:=by
 have L:=x1o h;have e0:Vx l i k=l.set i.toNat (paS (rd l i.toNat) (coS l i k)):=by unfold Vx;rw [h0];rfl
 unfold Wp at h0;rw [h] at h0;rcases Yy (decide (i<0)||(decide (i≥(l.length:Int))||(decide (k<0)||decide (k>9)))) with b | b
 ·rw [b] at h0;cases h0
 rw [b] at h0;simp only [Bj,A4] at b;have hi:i.toNat<l.length:=by omega
 rcases Yy (Uo (rd l i.toNat).s (x1e k) != 0) with c | c
 ·rw [c] at h0;exact absurd h0 (BN.1 c)
 rw [c] at h0;obtain ⟨o1,o2⟩:=v3r (w9m c);have h0:slE .e (coO l i k) [bxP (rd l i.toNat)]=0:=h0;obtain ⟨s1,s2⟩:=u9m h0;have es:coS l i k=slJ .e (coO l i k) [bxP (rd l i.toNat)]:=by show y7f (slE .e (coO l i k) [bxP (rd l i.toNat)]) (slJ .e (coO l i k) [bxP (rd l i.toNat)])=_;rw [h0];rfl
 have pt: ∀x y z,inS (coS l i k) x y z↔inS (coO l i k) x y z∧w0b (bxP (rd l i.toNat)) x y z:=fun x y z=>by
  rw [es,Kt,s2,Kt];have e1:ptL z0j.inB [bxP (rd l i.toNat)] (z,x,y)↔w0b (bxP (rd l i.toNat)) x y z:=by rw [←Kt];unfold inS w0b;simp
  show (decide (ptL z0j.inB (coO l i k) (z,x,y))&&decide (ptL z0j.inB [bxP (rd l i.toNat)] (z,x,y)))=true↔_;rw [Ac,AS,AS,e1]
 have hl:(slJ .e (coO l i k) [bxP (rd l i.toNat)]).length ≤400:=by have hf:=(w2q h0).2.2;unfold slE at h0;rw [show Yx (coO l i k)=0 from o1,L.val _ hi,hf] at h0;exact y6d h0
 have bb:=We ((Vh (L.val _ hi)).2.1 (bxP (rd l i.toNat)) (by simp));have hS:Yx (coS l i k)=0:=x0p (by rw [es];exact hl) (v6l (by rw [es];exact s1) fun x y z p=>by
  have:=((pt x y z).1 p).2;unfold w0b at this;omega) (by rw [es];exact s1)
 refine ⟨by omega,e0,?_,hS,fun x y z p=>(pt x y z).2 ⟨o2 x y z p,L.ins _ hi x y z p⟩⟩;rw [e0];exact u9q h hi hS fun x y z p=>((pt x y z).1 p).2
theorem v9g {l:List Pa} (h:v0d l=true) (h5:l.length≤50): ∀x∈l,w7v x.s=true:=by unfold v0d at h;rw [Az (by omega),Aa,Ac] at h;intro x hx;have hx:=Ar.1 h.1 x hx;unfold nrX at hx;simp only [Ac,Bf,A4] at hx;obtain ⟨h6,h9,_⟩:=hx;unfold x9d at h9;rw [Az (by omega),Aa,Ac] at h9;unfold w7v;rw [Al (by omega),Ai];refine Ar.2 fun r hr=> ?_;have:=Ar.1 h9.1 r hr;unfold u0t at this;simp only [x1t,x1u,Ac,At,Bf,A4] at this ⊢;omega
theorem u2f (x:Pa):eqP x x=true:=by unfold eqP eqB;simp only [beq_self_eq_true,Ah,Ai];exact Al rfl
theorem x3o (l:List Pa): ∀k i,rlmF l l k i=true
 | 0,_=>rfl
 | k+1,i=>by unfold rlmF;rw [u2f,x3o l k (i+1)];rfl
theorem v2l (l:List Pa):rlmV l l=true:=by
 grind [rlmV,x3o]
theorem x1i {n s t:Int} (hn:1≤n) (hs:Mult n s) (ht:Mult n t) (h:s<t+n):s≤t:=by
 obtain ⟨k,rfl⟩:=hs;obtain ⟨j,rfl⟩:=ht;have e:j*n+n=(j+1)*n:=by rw [Int.add_mul,Int.one_mul]
 rw [e] at h;have:=Int.lt_of_mul_lt_mul_right h (by omega);exact Int.mul_le_mul_of_nonneg_right (by omega) (by omega)
theorem x1w {n x:Int} (hn:1≤n∧n≤1000) (hx: -2000000≤x∧x≤2000000):Vd x n=Wo x n:=by
 obtain ⟨m1,d1,d2⟩:=z0d hn hx;have h1:n*Int.tdiv x n+Int.tmod x n=x:=Int.mul_tdiv_add_tmod x n;have h3: -n<Int.tmod x n∧Int.tmod x n<n:=⟨Int.lt_tmod_of_pos x (by omega),Int.tmod_lt_of_pos x (by omega)⟩
 have f:Mult n (Vd x n)∧Vd x n≤x∧x<Vd x n+n:=by
  unfold Vd;by_cases g:Int.tmod x n<0
  ·rw [Al g,Ab,Zj (n:=Int.tmod x n+n) (by omega),Zj (n:=x - (Int.tmod x n+n)) (by omega)];refine ⟨⟨Int.tdiv x n - 1,?_⟩,by omega,by omega⟩;rw [Int.sub_mul,Int.one_mul,Int.mul_comm];omega
  ·rw [Az g,Aa,Zj (n:=x - Int.tmod x n) (by omega)];refine ⟨⟨Int.tdiv x n,?_⟩,by omega,by omega⟩;rw [Int.mul_comm];omega
 obtain ⟨m2,e1,e2⟩:=f;have:=x1i hn.1 m1 m2 (by omega);have:=x1i hn.1 m2 m1 (by omega);omega
theorem v5a {n d:Int} (hn:1≤n∧n≤1000) (hd: -1000000≤d∧d≤1000000):wrap .i64 (Vd (wrap .i64 (d - 1)) n+n)=upV d n:=by
 rw [Zj (n:=d - 1) (by omega),x1w hn (by omega)];obtain ⟨⟨i,m1⟩,h1,h2⟩:=z0d (x:=d - 1) hn (by omega);obtain ⟨m2,h3,h4⟩:=z6a (x:=d) hn (by omega);rw [Zj (n:=Wo (d - 1) n+n) (by omega)];have m3:Mult n (Wo (d - 1) n+n):=⟨i+1,by rw [Int.add_mul,Int.one_mul,←m1]⟩
 have:=x1i hn.1 m2 m3 (by omega);have:=x1i hn.1 m3 m2 (by omega);omega
theorem j2j {n:Int} (hn:1≤n∧n≤1000) {r:R6} (h:Kv r=true):rB n r=oB n r:=by have v:=We h;unfold rB oB;rw [x1w hn (by omega),x1w hn (by omega),x1w hn (by omega),v5a hn (by omega),v5a hn (by omega),v5a hn (by omega)]
theorem j5y {k:Int} (hk:0≤k∧k≤9):dbl k.toNat 1=x1e k∧1≤x1e k∧x1e k≤1000:=by
 have:k=0∨k=1∨k=2∨k=3∨k=4∨k=5∨k=6∨k=7∨k=8∨k=9:=by omega
 rcases this with rfl | rfl | rfl | rfl | rfl | rfl | rfl | rfl | rfl | rfl <;> decide
theorem u9v {M:List R6} (h6:M.length≤6) (hv: ∀r∈M,Kv r=true):Ku M=0∧Qp M=y7b M:=by
 obtain ⟨l4,sb⟩:=x0j h6 hv;have few: ∀z,Zm (D6.inn M z)=D4.out (D6.inn M z)∧Yo (D6.inn M z)=0:=fun z=>j3o (z0r hv z) (by have:=D6.inn_length M z;omega);have e:D6.out M=y7b M:=by rw [D6.out_eq Kj];show D6.ref (D6.sec M) (D6.cuts M) _ 0 [] [] 0=D6.ref (z0z 2 M []) (D6.cuts M) _ 0 [] [] 0;rw [show D6.sec M=z0z 2 M [] from funext fun z=>(few z).1.trans (sb z).2.symm]
 have ok: ∀k i,okF M k i=true:=fun k=>by
  induction k with
  | zero=>intro i;rfl
  | succ k ih=>intro i;unfold okF v0g;rw [(few _).2];exact ih (i+1)
 have e1:Ku M=0:=by unfold Ku;rw [Az (show ¬400<M.length by omega),Ar.2 hv,ok,e];show y7g _=0;unfold y7g;rw [Az (by omega)];rfl
 refine ⟨e1,?_⟩;unfold Qp;rw [e1,e];rfl
theorem six_js {M:List R6} (h6:M.length≤6) (hv: ∀r∈M,Kv r=true):z0p 2 [] M=true∧Jg 2 [] M=y7b M:=by
 obtain ⟨l4,sb⟩:=x0j h6 hv;have h:=js_ok (a:=[]) (b:=M) (fun z=>by
  have s:=(sb z).1;unfold z3l;rw [w2t];show (decide (400<(z0z 2 M [] z).length)||(decide (400<(joV 2 [] []).length)||decide (400<(z0z 2 M [] z).length)))=false;rw [Az (show ¬400<(z0z 2 M [] z).length by omega),u7s];rfl) l4
 exact ⟨h,(x1r h).1⟩
theorem rou_eq {L:List R6} (h:Yx L=0) (h6:L.length≤6) {n:Int} (hn:1≤n∧n≤1000):z5q L n=Uo L n∧Qn L n=Wg L n∧(Uo L n=0→Wg L n=y7b (L.map (oB n))∧ ∀r∈L.map (oB n),Kv r=true):=by
 have hv:=(Vh h).2.1;have e1:L.map (rB n)=L.map (oB n):=List.map_congr_left fun r hr=>j2j hn (hv r hr);have e2:(L.all fun r=>bOk (rB n r))=L.all (oOk n):=by rw [Bool.eq_iff_iff,Ar,Ar];exact ⟨fun k r hr=>by have:=k r hr;rw [j2j hn (hv r hr)] at this;exact this,fun k r hr=>by rw [j2j hn (hv r hr)];exact k r hr⟩
 have c1:decide (n<1)=false:=Az (by omega);have c2:decide (n>1000)=false:=Az (by omega);unfold z5q Qn u5c Uo Wg j2n;rw [←z0e,h,e1,e2,c1,c2];rcases Yy (L.all (oOk n)) with d | d
 ·have vM:=all_oB hn hv d;obtain ⟨s1,s0⟩:=u9v (M:=L.map (oB n)) (by rw [Bg];exact h6) vM;obtain ⟨j1,j0⟩:=six_js (M:=L.map (oB n)) (by rw [Bg];exact h6) vM;rw [d,s1,s0,j1,j0];exact ⟨rfl,rfl,fun _=>⟨rfl,vM⟩⟩
 ·rw [d];exact ⟨rfl,rfl,fun h=>by cases h⟩
theorem lev_eq {l:List Pa} (h:v0d l=true) (i k:Int):Wp l i k=Kk l i k∧Vx l i k=z3k l i k:=by
 have fin:Wp l i k=Kk l i k→(Kk l i k=0→Vx l i k=rloL l i k)→Wp l i k=Kk l i k∧Vx l i k=z3k l i k:=fun e1 e0=>by
  refine ⟨e1,?_⟩;unfold z3k y7f;rcases Yy (Kk l i k != 0) with q | q
  ·rw [q];unfold Vx;rw [e1,q];rfl
  ·rw [q];exact e0 (w9m q)
 rcases Yy (z9g l != 0) with a | a
 ·have e1:Wp l i k=z9g l:=by unfold Wp;rw [a];rfl
  have e2:Kk l i k=z9g l:=by unfold Kk;rw [←w5c,a];rfl
  exact fin (e1.trans e2.symm) fun z=>absurd (e2.symm.trans z) (BN.1 a)
 have hc:=w9m a;have L:=x1o hc;have hn:=v9g h L.len;rcases Yy (decide (i<0)||(decide (i≥(l.length:Int))||(decide (k<0)||decide (k>9)))) with b | b
 ·have e1:Wp l i k=2:=by unfold Wp;rw [a,b];rfl
  have e2:Kk l i k=2:=by unfold Kk;rw [←w5c,a,b];rfl
  exact fin (e1.trans e2.symm) fun z=>by rw [e2] at z;cases z
 have b':=b;simp only [Bj,A4] at b';have hi:i.toNat<l.length:=by omega
 have hS:=L.sck _ hi;have h6:=(nb_nr (hn (rd l i.toNat) (by grind [Xz]))).2;have hk:0≤k∧k≤9:=by omega
 obtain ⟨dk,d1⟩:=j5y hk;obtain ⟨r1,r0,r2⟩:=rou_eq hS h6 d1;have p1:z3i (rd l i.toNat).s k=Uo (rd l i.toNat).s (x1e k):=by unfold z3i;rw [←z0e,hS,Az (show ¬k<0 by omega),Az (show ¬k>9 by omega),dk];exact r1
 have p0:rcO l i k=coO l i k:=by unfold rcO Xn j0u;rw [←z0e,hS,Az (show ¬k<0 by omega),Az (show ¬k>9 by omega),dk];exact r0
 rcases Yy (Uo (rd l i.toNat).s (x1e k) != 0) with c | c
 ·have e1:Wp l i k=Uo (rd l i.toNat).s (x1e k):=by unfold Wp;rw [a,b,c];rfl
  have e2:Kk l i k=Uo (rd l i.toNat).s (x1e k):=by unfold Kk;rw [←w5c,a,b,p1,c];rfl
  exact fin (e1.trans e2.symm) fun z=>absurd (e2.symm.trans z) (BN.1 c)
 have hz:=w9m c;obtain ⟨o0,vM⟩:=r2 hz;have ho:=(v3r hz).1;have pa: ∀x y z,inS (coO l i k) x y z↔inS ((rd l i.toNat).s.map (oB (x1e k))) x y z:=fun x y z=>by show inS (Wg (rd l i.toNat).s (x1e k)) x y z↔_;rw [o0];exact (x0k vM).2 x y z
 obtain ⟨m1,m0⟩:=j2t (M:=(rd l i.toNat).s.map (oB (x1e k))) (by rw [Bg];exact h6) vM ho (L.val _ hi) pa;obtain ⟨n1,n0⟩:=v8z (M:=(rd l i.toNat).s.map (oB (x1e k))) (by rw [Bg];exact h6) vM ho (L.val _ hi) pa;have e1:Wp l i k=0:=by unfold Wp;rw [a,b,c];exact m1
 have e2:Kk l i k=0:=by unfold Kk;rw [←w5c,a,b,p1,c,p0];exact n1
 refine fin (e1.trans e2.symm) fun _=> ?_;unfold Vx rloL coS;rw [e1,p0,show z2i .e (coO l i k) [bxP (rd l i.toNat)]=_ from m0,show Wm 1 (coO l i k) [bxP (rd l i.toNat)]=_ from n0];rfl
-- h0: index into an array (choices [true, false, false, false, false, false, false])
theorem rln_sm {l:List Pa} (h:v0d l=true) (h6:l.length≤6):smP l=true:=by unfold v0d at h;rw [Az (by omega),Aa,Ac] at h;unfold smP;rw [Al (by omega),Ai];refine Ar.2 fun x hx=> ?_;have:=Ar.1 h.1 x hx;unfold nrX at this;simp only [Ac,Bf,A4] at this;exact Al (by omega)
theorem j0t (L:List R6) (k:Int):(Xn L k).length ≤400:=by
 unfold Xn;rcases Yy (j0u L k) with a | a
 ·rw [a,Ab];unfold Qn;rcases Yy (u5c L (dbl k.toNat 1)) with b | b
  ·rw [b,Ab];unfold u5c at b;simp only [Ac] at b;rw [(x1r b.2.2.2.2).1];exact (x1r b.2.2.2.2).2
  ·rw [b];exact AA _
 ·rw [a];exact AA _
theorem rln_q {l:List Pa} (h:v0d l=true):smQ l=true:=by
 by_cases g:50<l.length
 ·unfold smQ;rw [Al g];rfl
 ·refine smQ_of (rln_sm h ?_);unfold v0d at h;rw [Az (by omega),Aa,Ac] at h;have:=Av h.2;omega
theorem v1p {l:List Pa} (i k:Int):z4a (Vx l i k) (z3k l i k)=true:=by
 by_cases h0:Wp l i k=0
 ·have hc:z9g l=0:=by refine Bt fun n=> ?_;have b:(z9g l != 0)=true:=BN.2 n;unfold Wp at h0;rw [b] at h0;exact n h0
  obtain ⟨_,_,k0,_⟩:=v8b hc h0;have L:=x1o k0;have q: ∀x∈Vx l i k,x.s.length≤400:=fun x hx=>by obtain ⟨m,hm,rfl⟩:=BH.1 hx;have:=(v1m k0 hm).2;rwa [Xz hm] at this
  unfold z4a smP;rw [Ac,Ac,AS,Ar,Ar];exact ⟨⟨by have:=L.len;omega,fun x hx=>Al (by have:=q x hx;omega)⟩,fun x hx=>Al (by have:=q x hx;omega)⟩
 ·have e:Vx l i k=[]:=by unfold Vx;rw [show (Wp l i k != 0)=true from BN.2 h0];rfl
  rw [e];rfl
theorem llv_run (l:List Pa) (i k:Int): ∃N,Zr (x9k l i k) N (y3g l i k)=.ret [.bool true]:=by
 refine ⟨0,?_⟩;unfold y3g;simp only [Zb,show z7n l=true from rfl,Ab];rcases (Yy (v0d l)).symm with q | q
 ·rw [q];rfl
 have ow:z3y l i k=true:=by unfold z3y;rw [rln_q q,Ai];exact Yi ⟨y9i (by have:=j0t (rd l i.toNat).s k;unfold rcO;omega),y9i (by simp)⟩
 obtain ⟨e1,e0⟩:=lev_eq q i k;rw [q,show z7g l i k=true from rln_q q,ow,v1p,e1,e0,v2l];simp only [Aw,Ab,Aa,beq_self_eq_true];rfl
open Go.ChangeShapes Go.WideShapes Go.Deep
section
variable {P:Program}
def v5c (P:Program) (e:TypeId):List (TypeId×Nat):=match P.underlying e with
 | some (.struct fs)=>fs.toList.map fun f=>(f.type,f.offset)
 | _=>[]
def elsD {H:Type}:DataW H→List (DataW H)
 | .slice es _=>es
 | _=>[]
def w6u {H:Type} (n:Nat) (q:DataW H):Prop:=n=(elsD q).length ∧ ∀y∈elsD q,∃z r,y=.agg (z::r)
theorem w4w {e t0 t1:TypeId} {a b:Nat} (h:v5c P e=[(t0,a),(t1,b)]): ∃fs:Array Field,P.underlying e=some (.struct fs)∧fs.size=2∧(∃f0,fs[0]? =some f0∧f0.type=t0∧f0.offset=a)∧ ∃f1,fs[1]? =some f1∧f1.type=t1∧f1.offset=b:=by
 unfold v5c at h;split at h
 ·rename_i fs hu;refine ⟨fs,hu,?_⟩;obtain ⟨l⟩:=fs;simp only at h
  match l,h with
  | [f0,f1],h=>simp only [A2,By,List.cons.injEq,Ad,Bl] at h;exact ⟨rfl,⟨f0,rfl,h.1.1,h.1.2⟩,f1,rfl,h.2.1,h.2.2⟩
 ·cases h
abbrev ks6 :List IntKind:=[.i64,.i64,.i64,.i64,.i64,.i64]
variable {HH:Type} {enc:TypeId×Value→HH} {w:World} {base:Nat} {held:Bool}
theorem w7u {t e f0 f1:TypeId} {o0 o1:Nat} {ks:List IntKind} {cs:List Value} {x:DataW HH×List MemPlace} {fuel:Nat} (ht:P.underlying t=some (.slice e)) (hk:y5k P 30 e=some ks) (hks:1≤ks.length) (hfl:v5c P e=[(f0,o0),(f1,o1)])
  (h:DataW.trod enc P w base (fun _=>true) held fuel t cs=some x):
  ∃(v:Value) (n:Nat) (c:Nat→Nat→Int),cs=[v]∧Zt (z1k fun k=>w.heap[k]?) (.dat n (fun i=>x0w ks (c i))) v∧w6u n x.1:=by
 rcases open_slice ht h with ⟨h0,rfl⟩ | ⟨a,len,cap,m,fl,D,Pl,hcs,hb,hl,dM,hm,rfl,hi⟩
 ·exact ⟨_,0,fun _ _=>0,h0,.datn _,rfl,fun y hy=>by cases hy⟩
 ·simp only [if_true] at hm;subst hm;have hL:w6u len (DataW.slice ((List.range len).map D) ((List.range (m - len)).map fun j=>D (len+j))):=by
   refine ⟨by simp [elsD],fun y hy=> ?_⟩;obtain ⟨i,hi2,rfl⟩:=AP.1 hy;have hil:=A7.1 hi2;obtain ⟨cs',_,ht'⟩:=hi i (by omega);obtain ⟨fs,hu,hsz,_⟩:=w4w hfl;obtain ⟨xs,_,_,hx,_,hxl,_⟩:=DataW.trod_struct hu ht';have hx:=(Prod.mk.inj hx).1
   match xs,hxl with
   | [],hxl=>simp at hxl;omega
   | z::r,_=>exact ⟨_,_,hx⟩
  by_cases hc0:m=0
  ·subst hc0;obtain rfl:len=0:=by omega
   exact ⟨_,0,fun _ _=>0,hcs,.datz _ _ _,hL⟩
  ·have hspot:a.spot=none:=by
    obtain ⟨cs',hc',ht'⟩:=hi 0 (by omega);have I:=z2u 30 e ks hk _ _ _ ht';obtain ⟨_,dG,eH⟩:=World.cells?_some hc';have h1:=eH 0 (by rw [←dG,I.length];exact hks);obtain ⟨blk,off,spot⟩:=a;have h2:cs'[0]? =some (cs'[0]'(by rw [I.length];exact hks)):=(by simp);rw [h2] at h1
    simpa [Addr.add] using World.cell?_spot h1
   obtain ⟨blk,off,spot⟩:=a;simp only at hspot;subst hspot;obtain ⟨c,h1,h2⟩:=u2i (w:=w) hk hl hl hi;exact ⟨_,len,c,hcs,h1,hL⟩
theorem open_land {t e t0 t1 b f0 f1:TypeId} {o0 o1:Nat} {v:Value} {d:DataW HH} {p:List MemPlace} (ht:P.underlying t=some (.slice e)) (hs:v5c P e=[(t0,0),(t1,6)]) (ce:P.cellsOf e=7) (c0:P.cellsOf t0=6) (c1:P.cellsOf t1=1)
  (k0:y5k P 30 t0=some ks6) (u1:P.underlying t1=some (.slice b)) (kb:y5k P 30 b=some ks6) (fb:v5c P b=[(f0,o0),(f1,o1)]) {b0:Nat} (hv:Value.okWide P w .any b0 t v) (h:DataW.Trod enc P w base (fun _=>true) held t v d p):
  ∃X:List Pa,Zt (z1k fun k=>w.heap[k]?) (.dat X.length (Zz X)) v∧ ∀x∈X,∃es sp ps q,d=.slice es sp∧DataW.agg ps∈es∧q∈ps∧w6u x.s.length q:=by
 obtain ⟨fuel,h⟩:=h;have hvc:v.cells.toList=[v]:=by
  unfold Value.okWide at hv;rw [ht] at hv;unfold Cell.okWide at hv;rw [ht] at hv;cases v <;> first | rfl | (simp [Cell.ok,ht] at hv)
 rcases open_slice ht h with ⟨h0,_⟩ | ⟨a,len,cap,m,fl,D,Pl,hcs,hb,hl,dM,hm,hx,hi⟩
 ·rw [hvc] at h0;obtain rfl:v=.slice none 0 0:=by simpa using h0
  exact ⟨[],.datn _,fun x hx=>by cases hx⟩
 ·rw [hvc] at hcs;obtain rfl:v=.slice (some a) len cap:=by simpa using hcs
  have hspot:a.spot=none:=by unfold Value.okWide at hv;rw [ht] at hv;unfold Cell.okWide at hv;rw [ht] at hv;simp only [Cell.ok,ht] at hv;exact hv.2.2.2.1
  obtain ⟨blk,off,spot⟩:=a;simp only at hspot;subst hspot;simp only [if_true] at hm;subst hm;obtain ⟨fs,hu,hsz,⟨f0,hf0,rfl,o0⟩,f1,hf1,rfl,o1⟩:=w4w hs;have key: ∀i,i<len→ ∃q:Pa×(Nat→Value),(∀j,j<7→w.cell? ⟨blk,off+(i*7+j),none⟩=some (q.2 j))∧(∀j (hj:j<7),Zt (z1k fun k=>w.heap[k]?) ((Xk.cells q.1)[j]'hj) (q.2 j))∧ ∃ps z,D i=DataW.agg ps∧z∈ps∧w6u q.1.s.length z:=by
   intro i hil;obtain ⟨cs',hc',ht'⟩:=hi i (by omega);obtain ⟨xs,n,_,hx',hcl,hxl,hf⟩:=DataW.trod_struct hu ht';have dG:cs'.length=7:=hcl.trans ce;have eH:=(World.cells?_some hc').2.2;have g0:=hf 0 f0 hf0;have g1:=hf 1 f1 hf1;rw [o0,c0,AT] at g0;rw [o1,c1] at g1;have hx0:0<xs.length:=by omega
   have hx1:1<xs.length:=by omega
   rw [Au hx0] at g0;rw [Au hx1] at g1;obtain ⟨ns,n1,n2,_⟩:=z2u 30 _ _ k0 _ _ _ g0;obtain ⟨u,n',c,e1,e2,e3⟩:=w7u u1 kb (by decide) fb g1
   match ns,n1 with
   | [m0,m1,m2,m3,m4,m5],_=>
    have ecs:cs'=[.int .i64 m0,.int .i64 m1,.int .i64 m2,.int .i64 m3,.int .i64 m4,.int .i64 m5,u]:=by
     rw [←List.take_append_drop 6 cs',n2];have:cs'.drop 6=[u]:=by rw [←e1,AU (by rw [BT];omega)]
     rw [this];rfl
    refine ⟨(⟨m0,m1,m2,m3,m4,m5,lst R6 n' fun i=>x0w ks6 (c i)⟩,fun j=>cs'.getD j undef),fun j hj=> ?_,fun j hj=> ?_,xs.map (·.1),xs[1].1,(Prod.mk.inj hx').1,AP.2 ⟨xs[1],AY hx1,rfl⟩,?_⟩
    ·have:=eH j (by omega);rw [ce] at this;simp only [Xb] at this;rw [show off+(i*7+j)=off+i*7+j by omega,this];show cs'[j]? =some (cs'.getD j undef);rw [List.getD_eq_getElem?_getD,Au (by omega)];rfl
    ·have last:=(Yc (α:=R6) (v:=.dat n' fun i=>x0w ks6 (c i)) rfl (Yi fun i _=>rfl)).sound e2;rw [ecs]
     match j,hj with
     | 0,_=>exact .int _ _
     | 1,_=>exact .int _ _
     | 2,_=>exact .int _ _
     | 3,_=>exact .int _ _
     | 4,_=>exact .int _ _
     | 5,_=>exact .int _ _
     | 6,_=>exact last
    ·have:(lst R6 n' fun i=>x0w ks6 (c i)).length =n':=(by simp [lst]);show w6u (lst R6 n' _).length _;rw [this];exact e3
  let Q:Nat→Pa×(Nat→Value):=fun i=>if hil:i<len then (key i hil).choose else (Xk.d,fun _=>undef)
  have hQ: ∀i,i<len→(∀j,j<7→w.cell? ⟨blk,off+(i*7+j),none⟩=some ((Q i).2 j))∧(∀j (hj:j<7),Zt (z1k fun k=>w.heap[k]?) ((Xk.cells (Q i).1)[j]'hj) ((Q i).2 j))∧ ∃ps z,D i=DataW.agg ps∧z∈ps∧w6u (Q i).1.s.length z:=by intro i hil;have:=(key i hil).choose_spec;simp only [Q,hil,dif_pos];exact this
  have hXl:((List.range len).map fun i=>(Q i).1).length =len:=by simp
  have hrow: ∀i,i<len→Zz ((List.range len).map fun i=>(Q i).1) i=Xk.cells (Q i).1:=fun i hi=>by show Xk.cells (rd _ i)=_;rw [Xz (by rw [hXl];exact hi)];simp only [List.getElem_map,List.getElem_range]
  refine ⟨(List.range len).map fun i=>(Q i).1,?_,fun x hx2=> ?_⟩
  ·rw [hXl];refine .dat len _ blk off 7 m (fun i j=>(Q i).2 j) hl (fun i hil=>by rw [hrow i hil];rfl) (fun i j hil hj=> ?_) (fun i j hil hj=> ?_)
   ·have hj7:j<7:=by rw [hrow i hil] at hj;exact hj
    have:=(hQ i hil).2.1 j hj7;simp only [hrow i hil];exact this
   ·have e2:=(hQ i hil).1 j hj;unfold World.cell? at e2;split at e2
    ·rename_i cl el fz hb2;simp only [Option.isSome_none,Bool.false_eq_true,if_false] at e2;exact ⟨cl,el,fz,hb2,e2⟩
    ·cases e2
  ·obtain ⟨i,hi2,rfl⟩:=AP.1 hx2;have hil:=A7.1 hi2;obtain ⟨ps,z,h1,h2,h3⟩:=(hQ i hil).2.2;exact ⟨_,_,ps,z,(Prod.mk.inj hx).1,AP.2 ⟨i,hi2,h1⟩,h2,h3⟩
end
end Go.Am
end
