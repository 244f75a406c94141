/- A part of a proof: several texts in one. -/
import Derived.Test.YtmanggcjimaehaaGreatLg4
set_option maxRecDepth 1000000
set_option maxHeartbeats 8000000
set_option linter.unusedVariables false
set_option linter.unusedSimpArgs false
noncomputable section
namespace Go.Am
open IntKind (wrap)
open Go.Proofs.Tryz
open Go.Proofs
open Go.Sort Go.Shelf Go.RowKit Go.Lib
def x4x (E:Int→Int) (cs:List Int):Nat→Nat→Int
 | 0,_=>0
 | k+1,i=>bif E (rd cs i) != 0 then E (rd cs i) else x4x E cs k (i+1)
def eJ (e:Int) (n:Nat):Int:=bif e != 0 then e else y5c n
theorem v6d {α:Type} [Ys α] (L:List α):y3q (eJ 0 L.length) L=Qx L:=(z8h L).symm
theorem x1f {n:Nat} (h:y5c n=0):n≤400:=by
 unfold y5c at h;by_cases g:(n:Int)>400
 ·rw [Ah g] at h;cases h
 ·omega
theorem v2q {α:Type} {e:Int} (L:List α) (h:(e != 0)=false):x1a e L=L:=by unfold x1a;rw [h];rfl
def rgS (q:Op) (a b:List R4) (x:Int):List R2:=spJ q.k (D4.inn a x) (D4.inn b x)
def rgA (q:Op) (a b:List R4) (x:Int):Int:=spE q.k (D4.inn a x) (D4.inn b x)
theorem u6n (q:Op) (a b:List R4) (x:Int) (h:(rgA q a b x != 0)=false):(rgS q a b x).length ≤1000:=by
 have h:rgA q a b x=0:=by simpa using h
 unfold rgA spE at h;cases g1:(y6c (D4.inn a x) != 0) with
 | true=>rw [g1,Ab] at h;rw [h] at g1;cases g1
 | false=>
  cases g2:(y6c (D4.inn b x) != 0) with
  | true=>rw [g1,g2,Aa,Ab] at h;rw [h] at g2;cases g2
  | false=>rw [g1,g2,Aa,Aa] at h;exact AF (x1f h) (by omega)
section
variable (q:Op) (a b:List R4) (ha:a.length≤400) (hb:b.length≤400)
include ha hb
theorem u1l (i:Nat) (out:List R4) (last:List R2) (first fin x x':Int): ∀(k j:Nat) (acc:List R2),j+k=a.length→acc.length≤j→
  ∃n,∀N,Yj (Yi q a b) (N+n) (.to (.h3 (i:Int) (j:Int) out last first fin ((D4.cuts (a++b)).length) (Wf (Xv (D4.ends (a++b)))) x x' acc))=Yj (Yi q a b) N (.to (.h4 (i:Int) 0 out last first fin ((D4.cuts (a++b)).length) (Wf (Xv (D4.ends (a++b)))) x x' (acc++D4.inn (a.drop j) x) []))
 | 0,j,acc,h,h'=>by have _u:=ha;have _v:=hb;refine ⟨1,fun N=> ?_⟩;rw [Au (by omega),show D4.inn ([]:List R4) x=[] from rfl,AA,Zv];simp (disch:=omega) only [Yi,Yw,Aa]
 | k+1,j,acc,h,h'=>by
  have hj:j<a.length:=by omega
  obtain ⟨n,hn⟩:=u1l i out last first fin x x' k (j+1) (acc++D4.inn [rd a j] x) (by omega) (by have:=D4.inn_length [rd a j] x;simp only [Az,Br] at*;omega)
  refine ⟨n+1,fun N=> ?_⟩;have e:D4.inn (a.drop j) x=D4.inn [rd a j] x++D4.inn (a.drop (j+1)) x:=by rw [Ym hj,←D4.inn_append];rfl
  rw [e,←AD,Zv,←AL,←hn N];by_cases h1:D4.lo (rd a j)≤x
  ·by_cases h2:x<D4.hi (rd a j)
   ·rw [D4.inn_t _ _ h1 h2];simp only [D4] at h1 h2 ⊢;simp (disch:=omega) only [Yi,Wy,Za,Zq,Zs,Zt,Yc,Yk,Yp,Zf,Zp,Zx,Ya,Zk,Ag,Av,Ai,Al,Ab,Aa]
   ·rw [D4.inn_f2 _ _ h2,AA];simp only [D4] at h1 h2;simp (disch:=omega) only [Yi,Wy,Yw,Za,Zq,Zs,Zt,Yc,Yk,Yp,Zf,Zp,Zx,Ya,Zk,Ag,Av,Ai,Al,Ab,Aa]
  ·rw [D4.inn_f1 _ _ h1,AA];simp only [D4] at h1;simp (disch:=omega) only [Yi,x8u,Za,Zq,Zs,Zt,Yc,Yk,Yp,Zf,Zp,Zx,Ya,Zk,Ag,Av,Ai,Al,Ab,Aa]
theorem u1k (i:Nat) (out:List R4) (last:List R2) (first fin x x':Int) (o1:List R2): ∀(k j:Nat) (acc:List R2),j+k=b.length→acc.length≤j→
  ∃n,∀N,Yj (Yi q a b) (N+n) (.to (.h4 (i:Int) (j:Int) out last first fin ((D4.cuts (a++b)).length) (Wf (Xv (D4.ends (a++b)))) x x' o1 acc))=Yj (Yi q a b) N (.to (.h4 (i:Int) (b.length:Int) out last first fin ((D4.cuts (a++b)).length) (Wf (Xv (D4.ends (a++b)))) x x' o1 (acc++D4.inn (b.drop j) x)))
 | 0,j,acc,h,h'=>by have _u:=ha;have _v:=hb;refine ⟨0,fun N=> ?_⟩;rw [Au (by omega),show D4.inn ([]:List R4) x=[] from rfl,AA,A4,show j=b.length by omega]
 | k+1,j,acc,h,h'=>by
  have hj:j<b.length:=by omega
  obtain ⟨n,hn⟩:=u1k i out last first fin x x' o1 k (j+1) (acc++D4.inn [rd b j] x) (by omega) (by have:=D4.inn_length [rd b j] x;simp only [Az,Br] at*;omega)
  refine ⟨n+1,fun N=> ?_⟩;have e:D4.inn (b.drop j) x=D4.inn [rd b j] x++D4.inn (b.drop (j+1)) x:=by rw [Ym hj,←D4.inn_append];rfl
  rw [e,←AD,Zv,←AL,←hn N];by_cases h1:D4.lo (rd b j)≤x
  ·by_cases h2:x<D4.hi (rd b j)
   ·rw [D4.inn_t _ _ h1 h2];simp only [D4] at h1 h2 ⊢;simp (disch:=omega) only [Yi,Wy,Za,Zq,Zs,Zt,Yc,Yk,Yp,Zf,Zp,Zx,Ya,Zk,Ag,Av,Ai,Al,Ab,Aa]
   ·rw [D4.inn_f2 _ _ h2,AA];simp only [D4] at h1 h2;simp (disch:=omega) only [Yi,Wy,Yw,Za,Zq,Zs,Zt,Yc,Yk,Yp,Zf,Zp,Zx,Ya,Zk,Ag,Av,Ai,Al,Ab,Aa]
  ·rw [D4.inn_f1 _ _ h1,AA];simp only [D4] at h1;simp (disch:=omega) only [Yi,x8u,Za,Zq,Zs,Zt,Yc,Yk,Yp,Zf,Zp,Zx,Ya,Zk,Ag,Av,Ai,Al,Ab,Aa]
theorem u1j (i:Nat) (hi:i≤2000) (x x':Int) (s:List R2) (first:Int) (o1 o2:List R2) (hs:s.length≤1000): ∀(k j:Nat) (out:List R4),j+k=s.length→out.length≤10000000+j→
  ∃n,∀N,Yj (Yi q a b) (N+n) (.to (.h5 x x' s (s.length:Int) (j:Int) (i:Int) out first ((D4.cuts (a++b)).length) (Wf (Xv (D4.ends (a++b)))) o1 o2))=Yj (Yi q a b) N (.to (.h2 ((i+1:Nat):Int) (out++(s.drop j).map (D4.put x x')) s first x' ((D4.cuts (a++b)).length) (Wf (Xv (D4.ends (a++b))))))
 | 0,j,out,h,ho=>by have _u:=ha;have _v:=hb;refine ⟨1,fun N=> ?_⟩;rw [Au (by omega),Zv];simp (disch:=omega) only [Yi,Yw,Zp,Zx,Aa,Bg,AA]
 | k+1,j,out,h,ho=>by
  obtain ⟨n,hn⟩:=u1j i hi x x' s first o1 o2 hs k (j+1) (out++[D4.put x x' (rd s j)]) (by omega) (by simp;omega)
  refine ⟨n+1,fun N=> ?_⟩;have:=hn N;rw [Ym (show j<s.length by omega),AW,←AD,Zv];simp (disch:=omega) only [Yi,Za,Zq,Zs,Zt,Yc,Yk,Yp,Zf,Zp,Zx,Ya,Zk,Ag,Av,Ai,Al,Ab,Aa];rw [AL] at this;exact this
theorem u1i (i:Nat) (hi:i≤2000) (x x' fin:Int) (s last:List R2) (first:Int) (o1 o2:List R2): ∀(k j:Nat) (out:List R4),j+k=out.length→out.length≤10000000→
  ∃n,∀N,Yj (Yi q a b) (N+n) (.to (.h6 x' (j:Int) x s (i:Int) out last first fin ((D4.cuts (a++b)).length) (Wf (Xv (D4.ends (a++b)))) o1 o2))=Yj (Yi q a b) N (.to (.h2 ((i+1:Nat):Int) (D4.grow out j x') last first x' ((D4.cuts (a++b)).length) (Wf (Xv (D4.ends (a++b))))))
 | 0,j,out,h,ho=>by have _u:=ha;have _v:=hb;refine ⟨1,fun N=> ?_⟩;rw [D4.grow_nil _ _ _ (by omega),Zv];simp (disch:=omega) only [Yi,Yw,Zp,Zx,Aa]
 | k+1,j,out,h,ho=>by
  obtain ⟨n,hn⟩:=u1i i hi x x' fin s last first o1 o2 k (j+1) (out.set j (D4.ext x' (rd out j))) (by simp;omega) (by simpa using ho)
  refine ⟨n+1,fun N=> ?_⟩;have:=hn N;rw [D4.grow_set out j _ (by omega)] at this;rw [←AD,Zv];simp (disch:=omega) only [Yi,Za,Zq,Zs,Zt,Yc,Yk,Yp,Zf,Zp,Zx,Ya,Zk,Ag,Av,Ai,Al,Ab,Aa];exact this
theorem w9e : ∀(k i:Nat) (s:Sw R4 R2),k=(D4.cuts (a++b)).length - 1 - i→i≤(D4.cuts (a++b)).length →s.out.length≤i*1000→s.last.length≤1000→s.first≤s.out.length→
  ∃n,Yj (Yi q a b) n (.to (.h2 ((i+1:Nat):Int) s.out s.last (s.first:Int) s.fin ((D4.cuts (a++b)).length) (Wf (Xv (D4.ends (a++b))))))=.ret (y3q (eJ (x4x (rgA q a b) (D4.cuts (a++b)) k i) (D4.goS (rgS q a b) (D4.cuts (a++b)) k i s).out.length) (D4.goS (rgS q a b) (D4.cuts (a++b)) k i s).out)
 | 0,i,s,h,hi,ho,hla,hf=>by
  have _u:=ha;have _v:=hb;have hc:=D4.cuts_length (a++b);refine ⟨1,?_⟩;rw [Zv,show D4.goS (rgS q a b) (D4.cuts (a++b)) 0 i s=s from rfl,show x4x (rgA q a b) (D4.cuts (a++b)) 0 i=0 from rfl,v6d];unfold Qx;by_cases g:(s.out.length:Int)>400
  ·simp (disch:=omega) only [Yi,Yw,Yo,Ab,Aa,Zg]
  ·simp (disch:=omega) only [Yi,Yw,Xb,Ab,Aa,Zg]
 | k +1,i,s,h,hi,ho,hla,hf=>by
  have hc:=D4.cuts_length (a++b);rw [Az] at hc;have hi1:i+1<(D4.cuts (a++b)).length :=by omega
  have hpl:(Wf (Xv (D4.ends (a++b)))).length =2*(a.length+b.length):=by rw [Ur,Xo,D4.ends_length,Az]
  have r0:rd (Wf (Xv (D4.ends (a++b)))) i=rd (D4.cuts (a++b)) i:=z4b _ _ (by show i<(D4.cuts (a++b)).length;omega);have r1:rd (Wf (Xv (D4.ends (a++b)))) (i+1)=rd (D4.cuts (a++b)) (i+1):=z4b _ _ (by show i+1<(D4.cuts (a++b)).length;omega);have hbig:i*1000≤2000*1000:=AI _ (by omega);have hgo:D4.goS (rgS q a b) (D4.cuts (a++b)) (k+1) i s=D4.goS (rgS q a b) (D4.cuts (a++b)) k (i+1) (D4.oneS (rgS q a b (rd (D4.cuts (a++b)) i)) (rd (D4.cuts (a++b)) i) (rd (D4.cuts (a++b)) (i+1)) s):=rfl;have hfe: ∀x,x=rd (D4.cuts (a++b)) i→(rgA q a b x != 0)=false→x4x (rgA q a b) (D4.cuts (a++b)) (k+1) i=x4x (rgA q a b) (D4.cuts (a++b)) k (i+1):=fun x hx z=>by show (bif rgA q a b (rd (D4.cuts (a++b)) i) != 0 then _ else _)=_;rw [←hx,z];rfl
  revert hgo hfe r0;generalize hx:rd (D4.cuts (a++b)) i=x;generalize hx':rd (D4.cuts (a++b)) (i+1)=x' at r1;intro r0 hgo hfe;obtain ⟨n3,h3⟩:=u1l q a b ha hb (i+1) s.out s.last (s.first:Int) s.fin x x' a.length 0 [] (Ag _) (An _);simp only [A2,Bk,z2z] at h3;obtain ⟨n4,h4⟩:=u1k q a b ha hb (i+1) s.out s.last (s.first:Int) s.fin x x' (D4.inn a x) b.length 0 [] (Ag _) (An _);simp only [A2,Bk,z2z] at h4;have st0: ∀N,Yj (Yi q a b) (N+n4+n3+1) (.to (.h2 ((i+1:Nat):Int) s.out s.last (s.first:Int) s.fin ((D4.cuts (a++b)).length) (Wf (Xv (D4.ends (a++b))))))=Yj (Yi q a b) N (.to (.h4 ((i+1:Nat):Int) (b.length:Int) s.out s.last (s.first:Int) s.fin ((D4.cuts (a++b)).length) (Wf (Xv (D4.ends (a++b)))) x x' (D4.inn a x) (D4.inn b x))):=fun N=>by
   rw [←h4 N,←h3 (N+n4),Zv];have e1:wrap .i64 (((i+1:Nat):Int) - 1)=(i:Int):=by rw [Zo];exact Zp (by omega)
   simp (disch:=omega) only [Yi,e1,r0,r1,Za,Zq,Zs,Zt,Yc,Yk,Yp,Zf,Zp,Zx,Ya,Zk,Ag,Av,Ai,Al,Ab,Aa]
  have w1:y9o q (D4.inn a x) (D4.inn b x)=true:=rfl;have f1:Ka (Zz (D4.inn a x))=true:=Xw _;have f2:Ka (Zz (D4.inn b x))=true:=Xw _;rcases Ye (rgA q a b x != 0) with z | z
  ·have z':(w3l q (D4.inn a x) (D4.inn b x) != 0)=true:=z;refine ⟨1+n4+n3+1,?_⟩;rw [st0 1,Zv];have e:x4x (rgA q a b) (D4.cuts (a++b)) (k+1) i=rgA q a b x:=by show (bif rgA q a b (rd (D4.cuts (a++b)) i) != 0 then rgA q a b (rd (D4.cuts (a++b)) i) else _)=_;rw [hx,z];rfl
   simp (disch:=omega) only [Yi,Yw,z',w1,f1,f2,Za,Zq,Zs,Zt,Yc,Yk,Yp,Zf,Zp,Zx,Ya,Zk,Ag,Av,Ai,Al,Ab,Aa,Zg];rw [e,show eJ (rgA q a b x) _=rgA q a b x by unfold eJ;rw [z];rfl,z2k _ z];rfl
  have z':(w3l q (D4.inn a x) (D4.inn b x) != 0)=false:=z;have v:z3t q (D4.inn a x) (D4.inn b x)=rgS q a b x:=v2q _ z;have hsl:=u6n q a b x z;have w2:Vn s.last (rgS q a b x)=true:=Ah (by omega);rw [hgo,hfe x rfl z];have ol:(D4.oneS (rgS q a b x) x x' s).out.length ≤s.out.length+(rgS q a b x).length :=by
   unfold Dim.oneS;cases decide (0<(rgS q a b x).length)&&((s.fin == x)&&D4.same s.last (rgS q a b x))
   ·simp
   ·simp [Dim.grow_length]
  rcases Ye (decide (0<(rgS q a b x).length)&&((s.fin == x)&&D4.same s.last (rgS q a b x))) with g | g
  ·obtain ⟨n6,h6⟩:=u1i q a b ha hb (i+1) (by omega) x x' s.fin (rgS q a b x) s.last (s.first:Int) (D4.inn a x) (D4.inn b x) (s.out.length - s.first) s.first s.out (by omega) (by omega)
   have e:D4.oneS (rgS q a b x) x x' s=⟨D4.grow s.out s.first x',s.last,s.first,x'⟩:=by unfold Dim.oneS;rw [g];rfl
   obtain ⟨n0,h0⟩:=w9e k (i+1) (D4.oneS (rgS q a b x) x x' s) (by omega) (by omega) (by omega) (by rw [e];exact hla) (by rw [e];simpa [Dim.grow_length] using hf);refine ⟨n0+n6+1+n4+n3+1,?_⟩;rw [st0 (n0+n6+1),Zv];simp only [Ac,Aq] at g;obtain ⟨g1,g2,g3⟩:=g;have g3':Ko s.last (rgS q a b x)=true:=g3;simp (disch:=omega) only [Yi,Yw,Yo,z',v,g2,g3',w1,f1,f2,w2,Za,Zq,Zs,Zt,Yc,Yk,Yp,Zf,Zp,Zx,Ya,Zk,Ag,Av,Ai,Al,Ab,Aa];rw [h6 n0];rw [e] at h0 ⊢;exact h0
  ·obtain ⟨n5,h5⟩:=u1j q a b ha hb (i+1) (by omega) x x' (rgS q a b x) (s.out.length:Int) (D4.inn a x) (D4.inn b x) hsl (rgS q a b x).length 0 s.out (Ag _) (by omega);simp only [A2,z2z] at h5;have e:D4.oneS (rgS q a b x) x x' s=⟨s.out++(rgS q a b x).map (D4.put x x'),rgS q a b x,s.out.length,x'⟩:=by unfold Dim.oneS;rw [g];rfl
   obtain ⟨n0,h0⟩:=w9e k (i+1) (D4.oneS (rgS q a b x) x x' s) (by omega) (by omega) (by omega) (by rw [e];exact hsl) (by rw [e];simp);have hg:Yj (Yi q a b) 1 (.to (.h4 ((i+1:Nat):Int) (b.length:Int) s.out s.last (s.first:Int) s.fin ((D4.cuts (a++b)).length) (Wf (Xv (D4.ends (a++b)))) x x' (D4.inn a x) (D4.inn b x)))=.to (.h5 x x' (rgS q a b x) ((rgS q a b x).length :Int) 0 ((i+1:Nat):Int) s.out (s.out.length:Int) ((D4.cuts (a++b)).length) (Wf (Xv (D4.ends (a++b)))) (D4.inn a x) (D4.inn b x)):=by
    rw [show (1:Nat)=0+1 from rfl,Zv];have e3:D4.same s.last (rgS q a b x)=Ko s.last (rgS q a b x):=rfl;rw [e3] at g;by_cases g1:0<(rgS q a b x).length
    ·rw [Ah g1,Al] at g;rcases Ye (s.fin == x) with g2 | g2
     ·rw [g2,Al] at g;simp (disch:=omega) only [Yi,Yw,Yo,z',v,g2,g,w1,f1,f2,w2,Za,Zq,Zs,Zt,Yc,Yk,Yp,Zf,Zp,Zx,Ya,Zk,Ag,Av,Ai,Al,Ab,Aa];rfl
     ·simp (disch:=omega) only [Yi,Yw,Yo,z',v,g2,w1,f1,f2,w2,Za,Zq,Zs,Zt,Yc,Yk,Yp,Zf,Zp,Zx,Ya,Zk,Ag,Av,Ai,Al,Ab,Aa];rfl
    ·simp (disch:=omega) only [Yi,Yw,Xb,z',v,w1,f1,f2,w2,Za,Zq,Zs,Zt,Yc,Yk,Yp,Zf,Zp,Zx,Ya,Zk,Ag,Av,Ai,Al,Ab,Aa];rfl
   refine ⟨n0+n5+1+n4+n3+1,?_⟩;rw [st0 (n0+n5+1),z7v _ (n0+n5) 1,hg,h5 n0];rw [e] at h0 ⊢;exact h0
theorem u1m : ∀(k i:Nat) (acc:List Int),i+k=b.length→acc=D4.ends (a++b.take i)→ ∃n,Yj (Yi q a b) n (.to (.h1 (i:Int) acc))=.ret (y3q (eJ (x4x (rgA q a b) (D4.cuts (a++b)) ((D4.cuts (a++b)).length - 1) 0) (D4.goS (rgS q a b) (D4.cuts (a++b)) ((D4.cuts (a++b)).length - 1) 0 ⟨[],[],0,0⟩).out.length) (D4.goS (rgS q a b) (D4.cuts (a++b)) ((D4.cuts (a++b)).length - 1) 0 ⟨[],[],0,0⟩).out)
 | 0,i,acc,h,h'=>by
  have _u:=ha;have _v:=hb;have e:acc=D4.ends (a++b):=by rw [h',AU (by omega)]
  subst e;have hle:=D4.ends_length (a++b);rw [Az] at hle;obtain ⟨n,hn⟩:=w9e q a b ha hb ((D4.cuts (a++b)).length - 1) 0 ⟨[],[],0,0⟩ (by omega) (AJ _) (AJ _) (AJ _) (AJ _);refine ⟨n+1,?_⟩;rw [Zv];simp (disch:=omega) only [Yi,Wv,z0a,cmpN_eq,Yw,Yk,Yp,Av,Ab,Aa];exact hn
 | k+1,i,acc,h,h'=>by
  have hle:acc.length≤2*(400+i):=by rw [h',D4.ends_length];simp only [Az,Bl];omega
  obtain ⟨n,hn⟩:=u1m k (i+1) (acc++D4.ends [rd b i]) (by omega) (by
   rw [h',Bn];have:b[i]? =some (rd b i):=by rw [Xp (show i<b.length by omega)];exact Ar _
   rw [this];simp [Dim.ends])
  refine ⟨n+1,?_⟩;rw [Zv];simp (disch:=omega) only [Yi,Za,Zq,Zs,Zt,Yc,Yk,Yp,Zf,Zp,Zx,Ya,Zk,Ag,Av,Ai,Al,Ab,Aa];exact hn
theorem u1n : ∀(k i:Nat) (acc:List Int),i+k=a.length→acc=D4.ends (a.take i)→ ∃n,Yj (Yi q a b) n (.to (.h0 (i:Int) acc))=.ret (y3q (eJ (x4x (rgA q a b) (D4.cuts (a++b)) ((D4.cuts (a++b)).length - 1) 0) (D4.goS (rgS q a b) (D4.cuts (a++b)) ((D4.cuts (a++b)).length - 1) 0 ⟨[],[],0,0⟩).out.length) (D4.goS (rgS q a b) (D4.cuts (a++b)) ((D4.cuts (a++b)).length - 1) 0 ⟨[],[],0,0⟩).out)
 | 0,i,acc,h,h'=>by have _u:=ha;have _v:=hb;obtain ⟨n,hn⟩:=u1m q a b ha hb b.length 0 acc (Ag _) (by rw [h',AU (by omega),List.take_zero,AA]);refine ⟨n+1,?_⟩;rw [Zv];simp (disch:=omega) only [Yi,Yw,Aa];exact hn
 | k+1,i,acc,h,h'=>by
  have hle:acc.length≤2*(400+i):=by rw [h',D4.ends_length];simp only [Az,Bl];omega
  obtain ⟨n,hn⟩:=u1n k (i+1) (acc++D4.ends [rd a i]) (by omega) (by
   rw [h',Bn];have:a[i]? =some (rd a i):=by rw [Xp (show i<a.length by omega)];exact Ar _
   rw [this];simp [Dim.ends])
  refine ⟨n+1,?_⟩;rw [Zv];simp (disch:=omega) only [Yi,Za,Zq,Zs,Zt,Yc,Yk,Yp,Zf,Zp,Zx,Ya,Zk,Ag,Av,Ai,Al,Ab,Aa];exact hn
end
def rgE (q:Op) (a b:List R4):Int:=bif y5x a != 0 then y5x a else bif y5x b != 0 then y5x b else eJ (x4x (rgA q a b) (D4.cuts (a++b)) ((D4.cuts (a++b)).length - 1) 0) (rgJ q.k a b).length
def Wo (q:Op) (a b:List R4):List R4:=x1a (rgE q a b) (rgJ q.k a b)
def x2n (q:Op) (a b:List R4):Int:=rgE q a b
def Qd (q:Op) (a b:List R4):Bool:=true
theorem w0r {l:List R4} (h:(y5x l != 0)=false):l.length≤400:=by
 refine AP fun g=> ?_;have h:y5x l=0:=by simpa using h
 unfold y5x at h;rw [Ah (by omega)] at h;cases h
theorem rg_run (q:Op) (a b:List R4) (h:Qd q a b=true): ∃n,Yj (Yi q a b) n (y1w q a b)=.ret (y3q (rgE q a b) (rgJ q.k a b)):=by
 unfold y1w;have o: ∀l,z3z l=true:=fun _=>rfl;simp only [Za,o,Ab];rcases Ye (y5x a != 0) with q1 | q1
 ·exact ⟨0,by simp only [rgE,q1,Ab,z2k _ q1];rfl⟩
 rcases Ye (y5x b != 0) with q2 | q2
 ·exact ⟨0,by simp only [rgE,q1,q2,Ab,Aa,z2k _ q2];rfl⟩
 obtain ⟨n,hn⟩:=u1n q a b (w0r q1) (w0r q2) a.length 0 [] (Ag _) rfl;refine ⟨n,?_⟩;simp only [rgE,q1,q2,Aa];exact hn
def fRg (q:Op):List AVal→Option (AVal×Bool)
 | [a0,a1]=>match asL R4 a0,asL R4 a1 with
  | some (L0,g0,n0),some (L1,g1,n1)=>some (.tup [.dat (Wo q L0 L1).length (Zz (Wo q L0 L1)),.int .i64 (x2n q L0 L1)],isT R4 n0 g0&&(isT R4 n1 g1&&(Qd q L0 L1)))
  | _,_=>none
 | _=>none
theorem v2n (q:Op) {S:Specs} (hS:Zj prog S):Zj prog (S.with (nRg q) (fRg q)):=by
 refine w7a hS (by cases q <;> kernel_rfl) fun args v h=> ?_;unfold fRg at h;split at h
 ·rename_i a0 a1;split at h
  ·rename_i L0 g0 n0 L1 g1 n1 e0 e1;simp only [Ae,Ad,Ac] at h;obtain ⟨rfl,ho0,ho1,hw⟩:=h;obtain ⟨N,hN⟩:=rg_run q L0 L1 hw;exact ⟨_,_,(.cons (Yr e0 ho0) (.cons (Yr e1 ho1) .nil)),z0r _ _,v5t q L0 L1 N _ hN,3,z6d _ _⟩
  ·cases h
 ·cases h
def Ud :Specs:=((Uc.with (nRg .u) (fRg .u)).with (nRg .e) (fRg .e)).with (nRg .d) (fRg .d)
theorem Ud_ok :Zj prog Ud:=v2n .d (v2n .e (v2n .u Kj))
structure R7 where
 (a b c d e f g:Int)
instance : Ys R7 where
 w:=7
 d:=⟨0,0,0,0,0,0,0⟩
 cells x:=[.int .u8 x.a,.int .i64 x.b,.int .i64 x.c,.int .i64 x.d,.int .i64 x.e,.int .i64 x.f,.int .i64 x.g]
 of l:=⟨iOf (l.getD 0 .undef),iOf (l.getD 1 .undef),iOf (l.getD 2 .undef),iOf (l.getD 3 .undef),iOf (l.getD 4 .undef),iOf (l.getD 5 .undef),iOf (l.getD 6 .undef)⟩
 len _:=rfl
 pos:=by decide
 flat _:=rfl
 sc _:=rfl
 back _:=rfl
inductive Ax where
 | x | y | z
def Ax.lo (q:Ax) (r:R6):Int:=match q with
 | .x =>r.a
 | .y =>r.b
 | .z =>r.c
def Ax.hi (q:Ax) (r:R6):Int:=match q with
 | .x =>r.d
 | .y =>r.e
 | .z =>r.f
def Ax.rc (q:Ax) (r:R6):R4:=match q with
 | .x =>⟨r.b,r.c,r.e,r.f⟩
 | .y =>⟨r.a,r.c,r.d,r.f⟩
 | .z =>⟨r.a,r.b,r.d,r.e⟩
def Ax.ix (q:Ax):Int:=match q with
 | .x =>0
 | .y =>1
 | .z =>2
def sdI (s:Bool):Int:=match s with
 | true=>0
 | false=>1
def qd (q:Ax) (s:Bool) (p:Int) (t:R4):R7:=match q,s with
 | .x,true=>⟨0,p,t.a,t.b,p,t.c,t.d⟩
 | .x,false=>⟨1,p,t.a,t.b,p,t.c,t.d⟩
 | .y,true=>⟨2,t.a,p,t.b,t.c,p,t.d⟩
 | .y,false=>⟨3,t.a,p,t.b,t.c,p,t.d⟩
 | .z,true=>⟨4,t.a,t.b,p,t.c,t.d,p⟩
 | .z,false=>⟨5,t.a,t.b,p,t.c,t.d,p⟩
def z1k (q:Ax) (L:List R6) (p:Int):List R4:=(L.filter fun r=>decide (q.lo r≤p)&&decide (p<q.hi r)).map q.rc
abbrev nV1 :Ax→Nat
 | .x =>nMv1
 | .y =>nMv4
 | .z =>nMv7
abbrev nV2 :Ax→Nat
 | .x =>nMv2
 | .y =>nMv5
 | .z =>nMv8
abbrev nV3 :Ax→Nat
 | .x =>nMv3
 | .y =>nMv6
 | .z =>nMv9
def isV (q:Ax) (a b c:Nat):Bool:=Nat.beq a (nV1 q)&&(Nat.beq b (nV2 q)&&Nat.beq c (nV3 q))
theorem v1m {q:Ax} {a b c:Nat} (h:isV q a b c=true):a=nV1 q∧b=nV2 q∧c=nV3 q:=by simp only [isV,Ac] at h;exact ⟨Aj h.1,Aj h.2.1,Aj h.2.2⟩
def axOf (a b c:Nat):Option Ax:=bif isV .x a b c then some .x else bif isV .y a b c then some .y else bif isV .z a b c then some .z else none
theorem x9k {a b c:Nat} {q:Ax} (h:axOf a b c=some q):a=nV1 q∧b=nV2 q∧c=nV3 q:=by
 unfold axOf at h;cases hx:isV .x a b c with
 | true=>rw [hx,Ab] at h;obtain rfl:=Af h;exact v1m hx
 | false=>
  rw [hx,Aa] at h;cases hy:isV .y a b c with
  | true=>rw [hy,Ab] at h;obtain rfl:=Af h;exact v1m hy
  | false=>
   rw [hy,Aa] at h;cases hz:isV .z a b c with
   | true=>rw [hz,Ab] at h;obtain rfl:=Af h;exact v1m hz
   | false=>rw [hz,Aa] at h;cases h
abbrev Ma :Specs:=Ud
theorem x9z :Zj prog Ma:=Ud_ok
inductive mctS where
 | h0 (v8:List R4) (v13:Int)
def mctC (q:Ax) (l1:List R6) (x2:Int):mctS→Cfg
 | .h0 v8 v13=>⟨⟨47,0,true⟩,none,(Zd prog 141 [1,1,0,1,0,0] 0),none,(Zy prog 32),⟨Yd [(2,(ii x2)),(3,(.ptr 0 0)),(8,(.sla 1 4 0 v8.length (.un 4))),(11,(.dat l1.length (Zz l1))),(12,(ii (l1.length:Int))),(13,(ii v13))],Uy [⟨[(.fn (nV1 q) []),(.fn (nV2 q) []),(.fn (nV3 q) [])],84,none⟩,⟨rows v8.length (Zz v8),88,some ⟨4,v8.length,(Zz v8)⟩⟩] 0,2,[],true⟩,[],.leaf⟩
def v7j :List (Option (List Nat)):=[some [2,3,8,11,12,13]]
def v7k :List (Option (List Nat)):=[]
def z2s (q:Ax) (l1:List R6) (x2:Int):mctS→Xf mctS
 | .h0 v8 v13=>(bif (decide (v13<(l1.length:Int))) then (bif ((decide (0≤v13∧v13<(l1.length:Int)))&&true) then (bif (decide ((q.lo (rd l1 v13.toNat))≤x2)) then (bif (decide (x2<(q.hi (rd l1 v13.toNat)))) then (bif (Nat.beq 4 4&&((decide (0+v8.length=v8.length))&&decide ((v8.length+1+1)*(32+1)≤Ju))) then (.to (.h0 (v8++[(q.rc (rd l1 v13.toNat))]) (wrap .i64 (v13+1)))) else .stuck) else (.to (.h0 v8 (wrap .i64 (v13+1))))) else (.to (.h0 v8 (wrap .i64 (v13+1))))) else .stuck) else (bif (Ui (cvT v8)) then (.ret [(.dat (Zb (cvT v8)).length (Zz (Zb (cvT v8)))),(.int .i64 (Xm (cvT v8)))]) else .stuck))
def x0o (q:Ax) (l1:List R6) (x2:Int):Xf mctS:=(.to (.h0 ([]:List R4) 0))
theorem w4w (q:Ax) (l1:List R6) (x2:Int): ∀s,Xq prog (Zy prog 141) (mctC q l1 x2) (mctC q l1 x2 s) (z2s q l1 x2 s):=by cases q <;> refine (?f: ∀q:Ax,∀s,Xq prog (Zy prog 141) (mctC q l1 x2) (mctC q l1 x2 s) (z2s q l1 x2 s)) _ <;> exact fun q=>fun
 | .h0 v8 v13=>(lb (fun k0=>(lo fun aG=>(lb (fun k1=>(lb (fun k2=>(lo fun o0=>(sl x9z 137 [] ⟨[0,12],[],v7j,v7k⟩ ⟨[(8,.len (v8++[(q.rc (rd l1 (tn v13)))]).length)],[.keep,.rowed 4 (v8++[(q.rc (rd l1 (tn v13)))]).length (Zz (v8++[(q.rc (rd l1 (tn v13)))]))],[]⟩ (trs 9 []) (pp (xL (v8.length+1) (v8++[(q.rc (rd l1 (tn v13)))]).length) (pp (xL (v8.length+1) (v8++[(q.rc (rd l1 (tn v13)))]).length) (pp (xS (v8.length+1) (Zi (Zz v8) 0 v8.length 4 (Ys.cells (q.rc (rd l1 (tn v13))))) (Zz (v8++[(q.rc (rd l1 (tn v13)))]))) (pp (pp (xF (Zi (Zz v8) 0 v8.length 4 (Ys.cells (q.rc (rd l1 (tn v13)))))) nn) (ww o0 (tt k2 (tt k1 (ww aG (tt k0 nn)))))))))))) (fun k2=>(sl x9z 67 [] ⟨[0,1],[],v7j,v7k⟩ ⟨[],[],[]⟩ (trs 8 [false]) (pp (fl v8 nn) (tt k2 (tt k1 (ww aG (tt k0 nn))))))))) (fun k1=>(sl x9z 55 [] ⟨[0,1],[],v7j,v7k⟩ ⟨[],[],[]⟩ (bl 9 1) (pp (fl v8 nn) (tt k1 (ww aG (tt k0 nn))))))))) (fun k0=>(Xa (sl x9z (C':=⟨⟨47,0,true⟩,(Up prog 141 [1,1,1,0] 1),(Zd prog 141 [1,1,1,0] 1),none,(Zy prog 32),⟨Yd [(43,(.dat v8.length (Zz v8)))],Uy [] 0,0,[],true⟩,[],.leaf⟩) 10 [] ⟨[],[1],[some [43]],[]⟩ ⟨[(43,.frz v8.length v8.length (Zz v8) (Zz v8))],[],[]⟩ [false] (pp (xZ (z6i 4 4 0 v8.length v8.length (Zz v8)) v8.length (Zz v8)) (pp (xL v8.length v8.length) (pp (xS v8.length (Zz v8) (Zz v8)) (pp (fl v8 nn) (tt k0 nn)))))) (lo fun o0=>(lr 47 3 [1,1,1,1,1,1,1,0] 1 32 [(6,(.dat (Zb (cvT v8)).length (Zz (Zb (cvT v8))))),(7,(ii (Xm (cvT v8))))] (sl x9z 6 [] ⟨[],[],[some [6,7]],[]⟩ ⟨[],[],[]⟩ [] (pp (pp (xr v8) (xw o0)) nn)))))))
theorem x7k (q:Ax) (l1:List R6) (x2:Int):Xq prog (Zy prog 141) (mctC q l1 x2) (Zc prog 141 [(.agg [(.fn (nV1 q) []),(.fn (nV2 q) []),(.fn (nV3 q) [])]),(.dat l1.length (Zz l1)),(.int .i64 x2)] true []) (x0o q l1 x2):=by cases q <;> exact (sl x9z 19 [(88,4,Zz ([]:List R4))] ⟨[0,1],[],v7j,v7k⟩ ⟨[(8,.grow 1 4)],[],[]⟩ [] (pp (fl ([]:List R4) nn) nn))
theorem v7i (q:Ax) (l1:List R6) (x2:Int) (n:Nat) (vs:List AVal) (h:Yj (z2s q l1 x2) n (x0o q l1 x2)=.ret vs):Kv prog (Zy prog 141) (Zc prog 141 [(.agg [(.fn (nV1 q) []),(.fn (nV2 q) []),(.fn (nV3 q) [])]),(.dat l1.length (Zz l1)),(.int .i64 x2)] true []) vs:=by have:=Zn (w4w q l1 x2) n _ (x7k q l1 x2);rwa [h] at this
theorem x9a (q:Ax) (L M:List R6) (p:Int):z1k q (L++M) p=z1k q L p++z1k q M p:=by unfold z1k;rw [List.filter_append,Bq]
theorem cutL_t (q:Ax) {r:R6} {p:Int} (h1:q.lo r≤p) (h2:p<q.hi r):z1k q [r] p=[q.rc r]:=by unfold z1k;rw [A9,Aw (by simp [h1,h2])];rfl
theorem j0c (q:Ax) {r:R6} {p:Int} (h1: ¬q.lo r≤p):z1k q [r] p=[]:=by unfold z1k;rw [A9,At (by simp [h1])];rfl
theorem j0b (q:Ax) {r:R6} {p:Int} (h2: ¬p<q.hi r):z1k q [r] p=[]:=by unfold z1k;rw [A9,At (by simp [h2])];rfl
def Yg (q:Ax) (L:List R6) (p:Int):List R4:=Zb (z1k q L p)
def Ug (q:Ax) (L:List R6) (p:Int):Int:=Xm (z1k q L p)
def z1v (q:Ax) (L:List R6) (p:Int):Bool:=decide (L.length≤400)
theorem u3i (q:Ax) (L:List R6) (p:Int) (hl:L.length≤400): ∀(k i:Nat) (acc:List R4),i+k=L.length→acc.length≤i→z1k q L p=acc++z1k q (L.drop i) p→
  ∃n,Yj (z2s q L p) n (.to (.h0 acc (i:Int)))=.ret [.dat (Yg q L p).length (Zz (Yg q L p)),.int .i64 (Ug q L p)]
 | 0,i,acc,h,h',e=>by rw [Au (by omega),show z1k q [] p=[] from rfl,AA] at e;refine ⟨1,?_⟩;unfold Yg Ug;rw [Zv,e];simp (disch:=omega) only [z2s,Za,show∀l,Ui l=true from fun _=>rfl,Yw,Ab,Aa,Zg]
 | k+1,i,acc,h,h',e=>by
  have hi:i<L.length:=by omega
  have e2:z1k q L p=(acc++z1k q [rd L i] p)++z1k q (L.drop (i+1)) p:=by rw [AL,←x9a,e,Ym hi];rfl
  obtain ⟨n,hn⟩:=u3i q L p hl k (i+1) (acc++z1k q [rd L i] p) (by omega) (by
   have:(z1k q [rd L i] p).length ≤1:=by unfold z1k;rw [A3];exact BN _ _
   rw [Az];omega) e2
  refine ⟨n+1,?_⟩;rw [Zv];by_cases h1:q.lo (rd L i)≤p
  ·by_cases h2:p<q.hi (rd L i)
   ·rw [cutL_t q h1 h2] at hn;simp (disch:=omega) only [z2s,Wy,Za,Zq,Zs,Zt,Yc,Yk,Yp,Zf,Zp,Zx,Ya,Zk,Ag,Av,Ai,Al,Ab,Aa];exact hn
   ·rw [j0b q h2,AA] at hn;simp (disch:=omega) only [z2s,Wy,Yw,Za,Zq,Zs,Zt,Zp,Zx,Zk,Ai,Ab,Aa];exact hn
  ·rw [j0c q h1,AA] at hn;simp (disch:=omega) only [z2s,x8u,Za,Zq,Zs,Zt,Zp,Zx,Zk,Ai,Ab,Aa];exact hn
theorem u7n (q:Ax) (L:List R6) (p:Int) (h:z1v q L p=true): ∃n,Yj (z2s q L p) n (x0o q L p)=.ret [.dat (Yg q L p).length (Zz (Yg q L p)),.int .i64 (Ug q L p)]:=
 u3i q L p (AE h) L.length 0 [] (Ag _) (An _) rfl
def fMct :List AVal→Option (AVal×Bool)
 | [.agg [.fn a [],.fn b [],.fn c []],a1,.int .i64 x2]=>match axOf a b c,asL R6 a1 with
  | some q,some (L1,g1,n1)=>some (.tup [.dat (Yg q L1 x2).length (Zz (Yg q L1 x2)),.int .i64 (Ug q L1 x2)],isT R6 n1 g1&&(z1v q L1 x2))
  | _,_=>none
 | _=>none
theorem u9f {S:Specs} (hS:Zj prog S):Zj prog (S.with nMCut fMct):=by
 refine z3m hS (by kernel_rfl) fun args v h=> ?_;unfold fMct at h;split at h
 ·rename_i a b c a1 x2;split at h
  ·rename_i q L1 g1 n1 eq e1;simp only [Ae,Ad,Ac] at h;obtain ⟨rfl,ho1,hw⟩:=h;obtain ⟨rfl,rfl,rfl⟩:=x9k eq;obtain ⟨N,hN⟩:=u7n q L1 x2 hw;exact ⟨_,_,(.cons (.refl _) (.cons (Yr e1 ho1) (.cons (.refl _) .nil))),rfl,v7i q L1 x2 N _ hN,3,rfl⟩
  ·cases h
 ·cases h
def Mb :Specs:=Ma.with nMCut fMct
theorem v4b :Zj prog Mb:=u9f x9z
inductive mfcS where
def mfcC (q:Ax) (l1:List R6) (x2:Int) (x3:Bool):mfcS→Cfg
 :=nofun
def x0m (q:Ax) (l1:List R6) (x2:Int) (x3:Bool):mfcS→Xf mfcS
 :=nofun
def z2r (q:Ax) (l1:List R6) (x2:Int) (x3:Bool):Xf mfcS:=(bif (z1v q (cvT l1) (wrap .i64 (x2 - 1))) then (bif (z1v q (cvT l1) x2) then (bif ((Ug q (cvT l1) (wrap .i64 (x2 - 1))) != 0) then (.ret [.nils,(.int .i64 (Ug q (cvT l1) (wrap .i64 (x2 - 1))))]) else (bif ((Ug q (cvT l1) x2) != 0) then (.ret [.nils,(.int .i64 (Ug q (cvT l1) x2))]) else (bif x3 then (bif (Qd .d (cvT (Yg q (cvT l1) (wrap .i64 (x2 - 1)))) (cvT (Yg q (cvT l1) x2))) then (.ret [(.dat (Wo .d (cvT (Yg q (cvT l1) (wrap .i64 (x2 - 1)))) (cvT (Yg q (cvT l1) x2))).length (Zz (Wo .d (cvT (Yg q (cvT l1) (wrap .i64 (x2 - 1)))) (cvT (Yg q (cvT l1) x2))))),(.int .i64 (x2n .d (cvT (Yg q (cvT l1) (wrap .i64 (x2 - 1)))) (cvT (Yg q (cvT l1) x2))))]) else .stuck) else (bif (Qd .d (cvT (Yg q (cvT l1) x2)) (cvT (Yg q (cvT l1) (wrap .i64 (x2 - 1))))) then (.ret [(.dat (Wo .d (cvT (Yg q (cvT l1) x2)) (cvT (Yg q (cvT l1) (wrap .i64 (x2 - 1))))).length (Zz (Wo .d (cvT (Yg q (cvT l1) x2)) (cvT (Yg q (cvT l1) (wrap .i64 (x2 - 1))))))),(.int .i64 (x2n .d (cvT (Yg q (cvT l1) x2)) (cvT (Yg q (cvT l1) (wrap .i64 (x2 - 1))))))]) else .stuck)))) else .stuck) else .stuck)
theorem w4v (q:Ax) (l1:List R6) (x2:Int) (x3:Bool): ∀s,Xq prog (Zy prog 101) (mfcC q l1 x2 x3) (mfcC q l1 x2 x3 s) (x0m q l1 x2 x3 s)
 :=nofun
theorem x7i (q:Ax) (l1:List R6) (x2:Int) (x3:Bool):Xq prog (Zy prog 101) (mfcC q l1 x2 x3) (Zc prog 101 [(.agg [(.fn (nV1 q) []),(.fn (nV2 q) []),(.fn (nV3 q) [])]),(.dat l1.length (Zz l1)),(.int .i64 x2),(.bool x3)] true []) (z2r q l1 x2 x3):=by cases q <;> refine (?f: ∀q:Ax,Xq prog (Zy prog 101) (mfcC q l1 x2 x3) (Zc prog 101 [(.agg [(.fn (nV1 q) []),(.fn (nV2 q) []),(.fn (nV3 q) [])]),(.dat l1.length (Zz l1)),(.int .i64 x2),(.bool x3)] true []) (z2r q l1 x2 x3)) _ <;> exact fun q=>(lo fun bU=>(lo fun cR=>(lb (fun k0=>(lr 50 101 [1,1,1,0,1,0,0] 1 101 [(8,.nils),(9,(ii (Ug q (cvT l1) (wr (x2 - 1)))))] (sl v4b 96 [] ⟨[],[],[some [8,9]],[]⟩ ⟨[],[],[]⟩ (trs 5 []) (tt k0 (tt k0 (pp (pp (pp nn (pp nn (pp nn nn))) (pp (xr l1) (xw cR))) (pp (pp (pp nn (pp nn (pp nn nn))) (pp (xr l1) (xw bU))) nn))))))) (fun k0=>(lb (fun k1=>(lr 50 101 [1,1,1,0,1,0,0] 1 101 [(8,.nils),(9,(ii (Ug q (cvT l1) x2)))] (sl v4b 125 [] ⟨[],[],[some [8,9]],[]⟩ ⟨[],[],[]⟩ [false,false,true,true,false,true,true] (tt k1 (tt k0 (tt k1 (tt k0 (pp (pp (pp nn (pp nn (pp nn nn))) (pp (xr l1) (xw cR))) (pp (pp (pp nn (pp nn (pp nn nn))) (pp (xr l1) (xw bU))) nn))))))))) (fun k1=>(lb (fun k2=>(lo fun o0=>(lr 50 101 [1,1,1,1,0,1,0,0] 1 101 [(8,(.dat (Wo .d (cvT (Yg q (cvT l1) (wr (x2 - 1)))) (cvT (Yg q (cvT l1) x2))).length (Zz (Wo .d (cvT (Yg q (cvT l1) (wr (x2 - 1)))) (cvT (Yg q (cvT l1) x2)))))),(9,(ii (x2n .d (cvT (Yg q (cvT l1) (wr (x2 - 1)))) (cvT (Yg q (cvT l1) x2)))))] (sl v4b 59 [] ⟨[],[],[some [8,9]],[]⟩ ⟨[],[],[]⟩ [false,false,false,true] (pp (pp (xI R4 (Yg q (cvT l1) (wr (x2 - 1))).length (Zz (Yg q (cvT l1) (wr (x2 - 1))))) (pp (xI R4 (Yg q (cvT l1) x2).length (Zz (Yg q (cvT l1) x2))) (xw o0))) (tt k2 (tt k1 (tt k0 (pp (pp (pp nn (pp nn (pp nn nn))) (pp (xr l1) (xw cR))) (pp (pp (pp nn (pp nn (pp nn nn))) (pp (xr l1) (xw bU))) nn)))))))))) (fun k2=>(lo fun o0=>(lr 50 3 [1,1,1,1,1,1,1,0] 1 101 [(8,(.dat (Wo .d (cvT (Yg q (cvT l1) x2)) (cvT (Yg q (cvT l1) (wr (x2 - 1))))).length (Zz (Wo .d (cvT (Yg q (cvT l1) x2)) (cvT (Yg q (cvT l1) (wr (x2 - 1)))))))),(9,(ii (x2n .d (cvT (Yg q (cvT l1) x2)) (cvT (Yg q (cvT l1) (wr (x2 - 1)))))))] (sl v4b 60 [] ⟨[],[],[some [8,9]],[]⟩ ⟨[],[],[]⟩ [false,false,false,false] (pp (pp (xI R4 (Yg q (cvT l1) x2).length (Zz (Yg q (cvT l1) x2))) (pp (xI R4 (Yg q (cvT l1) (wr (x2 - 1))).length (Zz (Yg q (cvT l1) (wr (x2 - 1))))) (xw o0))) (tt k2 (tt k1 (tt k0 (pp (pp (pp nn (pp nn (pp nn nn))) (pp (xr l1) (xw cR))) (pp (pp (pp nn (pp nn (pp nn nn))) (pp (xr l1) (xw bU))) nn)))))))))))))))))
theorem v7f (q:Ax) (l1:List R6) (x2:Int) (x3:Bool) (n:Nat) (vs:List AVal) (h:Yj (x0m q l1 x2 x3) n (z2r q l1 x2 x3)=.ret vs):Kv prog (Zy prog 101) (Zc prog 101 [(.agg [(.fn (nV1 q) []),(.fn (nV2 q) []),(.fn (nV3 q) [])]),(.dat l1.length (Zz l1)),(.int .i64 x2),(.bool x3)] true []) vs:=by have:=Zn (w4v q l1 x2 x3) n _ (x7i q l1 x2 x3);rwa [h] at this
def w1r (q:Ax) (L:List R6) (p:Int):Int:=bif Ug q L (wrap .i64 (p - 1)) != 0 then Ug q L (wrap .i64 (p - 1)) else Ug q L p
def Vb (q:Ax) (L:List R6) (p:Int) (s:Bool):Int:=bif w1r q L p != 0 then w1r q L p else
 bif s then rgE .d (Yg q L (wrap .i64 (p - 1))) (Yg q L p) else rgE .d (Yg q L p) (Yg q L (wrap .i64 (p - 1)))
def Vw (q:Ax) (L:List R6) (p:Int) (s:Bool):List R4:=bif w1r q L p != 0 then [] else
 bif s then Wo .d (Yg q L (wrap .i64 (p - 1))) (Yg q L p) else Wo .d (Yg q L p) (Yg q L (wrap .i64 (p - 1)))
def z4g (q:Ax) (L:List R6) (p:Int) (s:Bool):Bool:=decide (L.length≤400)
theorem u7m (q:Ax) (L:List R6) (p:Int) (s:Bool) (h:z4g q L p s=true): ∃n vs,Yj (x0m q L p s) n (z2r q L p s)=.ret vs∧
  ∀(ρ:Rho) (u:Value),Yy ρ (Jt vs) u→Yy ρ (.tup [.dat (Vw q L p s).length (Zz (Vw q L p s)),.int .i64 (Vb q L p s)]) u:=by
 have o: ∀x,z1v q L x=true:=fun _=>h;unfold z2r;simp only [Za,o,show∀a b,Qd .d a b=true from fun _ _=>rfl,Ab];rcases Ye (Ug q L (wrap .i64 (p - 1)) != 0) with q1 | q1
 ·refine ⟨0,_,by rw [q1,Ab];rfl,?_⟩;have e:w1r q L p=Ug q L (wrap .i64 (p - 1)):=by unfold w1r;rw [q1];rfl
  unfold Vw Vb;rw [e,q1,Ab,Ab];exact fun ρ u hu=>z3s (.cons (.nild _) (.cons (.refl _) .nil)) ρ u hu
 rcases Ye (Ug q L p != 0) with q2 | q2
 ·refine ⟨0,_,by rw [q1,q2,Aa,Ab];rfl,?_⟩;have e:w1r q L p=Ug q L p:=by unfold w1r;rw [q1];rfl
  unfold Vw Vb;rw [e,q2,Ab,Ab];exact fun ρ u hu=>z3s (.cons (.nild _) (.cons (.refl _) .nil)) ρ u hu
 have e:(w1r q L p != 0)=false:=by unfold w1r;rw [q1,Aa];exact q2
 cases s with
 | true=>refine ⟨0,_,by rw [q1,q2,Aa,Aa,Ab];rfl,?_⟩;unfold Vw Vb;rw [e];exact fun ρ u hu=>hu
 | false=>refine ⟨0,_,by rw [q1,q2,Aa,Aa,Aa];rfl,?_⟩;unfold Vw Vb;rw [e];exact fun ρ u hu=>hu
def fMfc :List AVal→Option (AVal×Bool)
 | [.agg [.fn a [],.fn b [],.fn c []],a1,.int .i64 x2,.bool s]=>match axOf a b c,asL R6 a1 with
  | some q,some (L1,g1,n1)=>some (.tup [.dat (Vw q L1 x2 s).length (Zz (Vw q L1 x2 s)),.int .i64 (Vb q L1 x2 s)],isT R6 n1 g1&&(z4g q L1 x2 s))
  | _,_=>none
 | _=>none
theorem mfc_pf (q:Ax) (L:List R6) (p:Int) (s:Bool) (n:Nat) (vs:List AVal) (h:Yj (x0m q L p s) n (z2r q L p s)=.ret vs) (ho:z4g q L p s=true): ∃d,pf d (Jt vs)=true:=by
 have o: ∀x,z1v q L x=true:=fun _=>ho;unfold z2r at h;simp only [Za,o,show∀a b,Qd .d a b=true from fun _ _=>rfl,Ab] at h;cases h1:(Ug q L (wrap .i64 (p - 1)) != 0) <;> rw [h1] at h <;> simp only [Ab,Aa] at h
 ·cases h2:(Ug q L p != 0) <;> rw [h2] at h <;> simp only [Ab,Aa] at h
  ·cases s <;> simp only [Ab,Aa,Zg] at h <;> obtain rfl:=Xf.ret.inj h <;> exact ⟨3,rfl⟩
  ·rw [Zg] at h;obtain rfl:=Xf.ret.inj h;exact ⟨3,rfl⟩
 ·rw [Zg] at h;obtain rfl:=Xf.ret.inj h;exact ⟨3,rfl⟩
theorem u9e {S:Specs} (hS:Zj prog S):Zj prog (S.with v0p fMfc):=by
 refine w7a hS (by kernel_rfl) fun args v h=> ?_;unfold fMfc at h;split at h
 ·rename_i a b c a1 x2 s;split at h
  ·rename_i q L1 g1 n1 eq e1;simp only [Ae,Ad,Ac] at h;obtain ⟨rfl,ho1,hw⟩:=h;obtain ⟨rfl,rfl,rfl⟩:=x9k eq;obtain ⟨N,vs,hN,hv⟩:=u7m q L1 x2 s hw;exact ⟨_,vs,(.cons (.refl _) (.cons (Yr e1 ho1) (.cons (.refl _) (.cons (.refl _) .nil)))),hv,v7f q L1 x2 s N _ hN,mfc_pf q L1 x2 s N vs hN hw⟩
  ·cases h
 ·cases h
def Mc :Specs:=Mb.with v0p fMfc
theorem z9y :Zj prog Mc:=u9e v4b
inductive mmdS where
 | h0 (q:Ax) (s:Bool) (v5:List Int) (v10:Int) (aA:List R7) (aJ:List R7)
 | h1 (q:Ax) (s:Bool) (bM:Nat) (v6:Int) (v7:Int) (aA:List R7) (aJ:List R7) (aT:List Int)
 | h2 (q:Ax) (s:Bool) (v8:Int) (v37:List R4) (v38:Int) (v39:Int) (bQ:Nat) (cA:Int) (cB:Int) (aA:List R7) (aJ:List R7) (aT:List Int)
def u3h (q:Ax) (s:Bool):AFr:=⟨⟨75,0,true⟩,none,(.inRangeFunc 0::(Zd prog 52 [1,1,0,1,0,0,1,1,0,0,1,1,0,0,1,1,0,0,1,1,0] 1)),none,(Zy prog 52),Yd [(1,(.ptr 1 0)),(2,(.ptr 2 0)),(3,(.ptr 4 0)),(4,(.ptr 5 0)),(5,(.ptr 7 0)),(6,(.ptr 8 0)),(13,(.agg [(.fn 105 []),(.fn 106 []),(.fn 107 []),(.fn 108 []),(.fn 109 []),(.fn 110 []),(.fn 111 []),(.fn 112 []),(.fn 113 [])])),(14,(ii q.ix)),(18,(ii (sdI s)))]⟩
def w1p (q:Ax):ABlk:=⟨[(.fn (nV1 q) []),(.fn (nV2 q) []),(.fn (nV3 q) [])],84,none⟩
def u3g :=(Vr prog 52 [1,1,0,1,0,0,1,1,0,0,1,1,0,0,1,1,0,0,1,1,0,0])
def u3f :=(Vr prog 52 [1,1,0,1,0,0,1,1,0,0,1,1,0,0,1,1,0,0,1,1,0,1])
def z9b (l0:List R6):mmdS→Cfg
 | .h0 q s v5 v10 aA aJ=>⟨⟨33,0,true⟩,none,(Zd prog 100 [1,1,0,1,0,0] 0),none,(Zy prog 5),⟨Yd [(2,(.ptr 0 0)),(5,(.sla 10 1 0 v5.length (.un 1))),(8,(.dat l0.length (Zz l0))),(9,(ii (l0.length:Int))),(10,(ii v10))],Uy [(w1p q),⟨[(.dat l0.length (Zz l0))],38,none⟩,⟨[(.sla 3 7 0 aA.length (.un 7))],25,none⟩,⟨rows aA.length (Zz aA),62,some ⟨7,aA.length,(Zz aA)⟩⟩,⟨[(ii 0)],26,none⟩,⟨[(.sla 6 7 0 aJ.length (.un 7))],25,none⟩,⟨rows aJ.length (Zz aJ),62,some ⟨7,aJ.length,(Zz aJ)⟩⟩,⟨[(ii q.ix)],3,none⟩,(w1p q),⟨[(ii (sdI s))],3,none⟩,⟨rows v5.length (Zz v5),3,some ⟨1,v5.length,(Zz v5)⟩⟩] 0,11,[],true⟩,[⟨⟨75,0,true⟩,(Up prog 52 [1,1,0,1,0,0,1,1,0,0,1,1,0,0,1,1,0,0,1,0] 2),(Zd prog 52 [1,1,0,1,0,0,1,1,0,0,1,1,0,0,1,1,0,0,1,0] 1),none,(Zy prog 52),Yd [(1,(.ptr 1 0)),(2,(.ptr 2 0)),(3,(.ptr 4 0)),(4,(.ptr 5 0)),(5,(.ptr 7 0)),(6,(.ptr 8 0)),(7,(.ptr 9 0)),(13,(.agg [(.fn 105 []),(.fn 106 []),(.fn 107 []),(.fn 108 []),(.fn 109 []),(.fn 110 []),(.fn 111 []),(.fn 112 []),(.fn 113 [])])),(14,(ii q.ix)),(18,(ii (sdI s))),(21,(.agg [(.fn (nV1 q) []),(.fn (nV2 q) []),(.fn (nV3 q) [])])),(22,(.dat l0.length (Zz l0)))]⟩],.leaf⟩
 | .h1 q s bM v6 v7 aA aJ aT=>⟨⟨16,0,true⟩,none,(Zd prog 175 [1,0,0] 0),none,[],⟨Yd [(0,(.yld 0)),(5,(.sla 10 1 0 bM (.un 1))),(6,(ii v6)),(7,(ii v7))],y0k [(1,⟨[(.dat l0.length (Zz l0))],38,none⟩),(2,⟨[(.sla 3 7 0 aA.length (.un 7))],25,none⟩),(3,⟨rows aA.length (Zz aA),62,some ⟨7,aA.length,(Zz aA)⟩⟩),(4,⟨[(ii 0)],26,none⟩),(5,⟨[(.sla 6 7 0 aJ.length (.un 7))],25,none⟩),(6,⟨rows aJ.length (Zz aJ),62,some ⟨7,aJ.length,(Zz aJ)⟩⟩),(7,⟨[(ii q.ix)],3,none⟩),(8,(w1p q)),(9,⟨[(ii (sdI s))],3,none⟩),(10,⟨rows aT.length (Zz aT),3,some ⟨1,aT.length,(Zz aT)⟩⟩)],11,[],true⟩,[(u3h q s)],(y6j [(0,⟨.ready,none,75,Yd [(1,(.ptr 1 0)),(2,(.ptr 2 0)),(3,(.ptr 4 0)),(4,(.ptr 5 0)),(5,(.ptr 7 0)),(6,(.ptr 8 0)),(7,(.ptr 9 0))],[24],u3g,u3f⟩)])⟩
 | .h2 q s v8 v37 v38 v39 bQ cA cB aA aJ aT=>⟨⟨75,0,true⟩,none,(Zd prog 52 [1,1,0,1,0,0,1,1,0,0,1,1,0,0,1,1,0,0,1,1,0,1,0,1,1,1,0,0] 0),(some 0),[],⟨Yd [(4,(.ptr 5 0)),(5,(.ptr 7 0)),(6,(.ptr 8 0)),(7,(.ptr 9 0)),(8,(ii v8)),(37,(.dat v37.length (Zz v37))),(38,(ii v38)),(39,(ii v39))],y0k [(1,⟨[(.dat l0.length (Zz l0))],38,none⟩),(2,⟨[(.sla 3 7 0 aA.length (.un 7))],25,none⟩),(3,⟨rows aA.length (Zz aA),62,some ⟨7,aA.length,(Zz aA)⟩⟩),(4,⟨[(ii 0)],26,none⟩),(5,⟨[(.sla 6 7 0 aJ.length (.un 7))],25,none⟩),(6,⟨rows aJ.length (Zz aJ),62,some ⟨7,aJ.length,(Zz aJ)⟩⟩),(7,⟨[(ii q.ix)],3,none⟩),(8,(w1p q)),(9,⟨[(ii (sdI s))],3,none⟩),(10,⟨rows aT.length (Zz aT),3,some ⟨1,aT.length,(Zz aT)⟩⟩)],11,[],true⟩,[⟨⟨16,0,true⟩,(Up prog 175 [1,0,0,1,1,0,0,1,0] 2),(Zd prog 175 [1,0,0,1,1,0,0,1,0] 1),none,[],Yd [(0,(.yld 0)),(5,(.sla 10 1 0 bQ (.un 1))),(6,(ii cA)),(7,(ii cB)),(11,(.yld 0)),(12,(ii v8))]⟩,(u3h q s)],(y6j [(0,⟨.busy,none,75,Yd [(1,(.ptr 1 0)),(2,(.ptr 2 0)),(3,(.ptr 4 0)),(4,(.ptr 5 0)),(5,(.ptr 7 0)),(6,(.ptr 8 0)),(7,(.ptr 9 0))],[24],u3g,u3f⟩)])⟩
def v0y :List (Option (List Nat)):=[some [2,5,8,9,10],some [1,2,3,4,5,6,7,13,14,18,21,22]]
def v0z :List (Option (List Nat)):=[]
def mmdN1 :List (Option (List Nat)):=[some [0,5,6,7],some [1,2,3,4,5,6,13,14,18]]
def mmdM1 :List (Option (List Nat)):=[some [1,2,3,4,5,6,7],none,none,none,none,none,none,none,none,none,none]
def mmdN2 :List (Option (List Nat)):=[some [4,5,6,7,8,37,38,39],some [0,5,6,7,11,12],some [1,2,3,4,5,6,13,14,18]]
def mmdM2 :List (Option (List Nat)):=[some [1,2,3,4,5,6,7],none,none,none,none,none,none,none,none,none,none]
def v1a (q:Ax) (s:Bool) (aA:List R7) (aJ:List R7):Xf mmdS:=match q,s with
 | q,true=>(.to (.h0 q false ([]:List Int) 0 aA aJ))
 | .x,false=>(.to (.h0 .y true ([]:List Int) 0 aA aJ))
 | .y,false=>(.to (.h0 .z true ([]:List Int) 0 aA aJ))
 | .z,false=>(bif (decide ((aJ.length:Int)>3000)) then (.ret [.nils,(.int .i64 4)]) else (.ret [(.dat aJ.length (Zz aJ)),(.int .i64 0)]))
def Xg (l0:List R6):mmdS→Xf mmdS
 | .h0 q s v5 v10 aA aJ=>(bif (decide (v10<(l0.length:Int))) then (bif ((decide (0≤v10∧v10<(l0.length:Int)))&&true) then (bif (Nat.beq 1 1&&((decide (0+v5.length=v5.length))&&decide ((v5.length+2+1)*(8+1)≤Ju))) then (.to (.h0 q s (v5++[(q.lo (rd l0 v10.toNat)),(q.hi (rd l0 v10.toNat))]) (wrap .i64 (v10+1)) aA aJ)) else .stuck) else .stuck) else (bif (decide (v5.length<4611686018427387904)) then (bif (decide (v5.length=v5.length)) then (.to (.h1 q s (v3e (Yx v5.length (cOf (Zz (Xv (Yx v5.length (cOf (Zz v5)))))))) (((v3e (Yx v5.length (cOf (Zz (Xv (Yx v5.length (cOf (Zz v5)))))))):Nat):Int) 0 aA aJ (Wf (Yx v5.length (cOf (Zz (Xv (Yx v5.length (cOf (Zz v5)))))))))) else .stuck) else .stuck))
 | .h2 q s v8 v37 v38 v39 bQ cA cB aA aJ aT=>(bif (decide (v39<v38)) then (bif ((decide (0≤v39∧v39<(v37.length:Int)))&&true) then (bif (Nat.beq 7 7&&((decide (0+aJ.length=aJ.length))&&decide ((aJ.length+1+1)*(56+1)≤Ju))) then (.to (.h2 q s v8 v37 v38 (wrap .i64 (v39+1)) bQ cA cB aA (aJ++[(qd q s v8 (rd v37 v39.toNat))]) aT)) else .stuck) else .stuck) else (.to (.h1 q s bQ cA (wrap .i64 (cB+1)) aA aJ aT)))
 | .h1 q s bM v6 v7 aA aJ aT=>(bif (decide (v7<v6)) then (bif ((decide (0≤v7∧v7<((bM:Nat):Int)))&&true) then (bif (decide ((0+v7.toNat)<aT.length)) then (bif (z4g q (cvT l0) (rd aT (0+v7.toNat)) s) then (bif ((Vb q (cvT l0) (rd aT (0+v7.toNat)) s) != 0) then (.ret [.nils,(.int .i64 (Vb q (cvT l0) (rd aT (0+v7.toNat)) s))]) else (.to (.h2 q s (rd aT (0+v7.toNat)) (Vw q (cvT l0) (rd aT (0+v7.toNat)) s) (((Vw q (cvT l0) (rd aT (0+v7.toNat)) s).length :Nat):Int) 0 bM v6 v7 aA aJ aT))) else .stuck) else .stuck) else .stuck) else (v1a q s aA aJ))
def x0l (l0:List R6):Xf mmdS:=(.to (.h0 .x true ([]:List Int) 0 ([]:List R7) ([]:List R7)))
theorem u7l (l0:List R6) (q:Ax) (bM:Nat) (v6:Int) (v7:Int) (aA:List R7) (aJ:List R7) (aT:List Int) (k0:(decide (v7<v6))=false):Xq prog (Zy prog 52) (z9b l0) (z9b l0 (.h1 q true bM v6 v7 aA aJ aT)) (v1a q true aA aJ):=by cases q <;> refine (?f: ∀q:Ax,Xq prog (Zy prog 52) (z9b l0) (z9b l0 (.h1 q true bM v6 v7 aA aJ aT)) (v1a q true aA aJ)) _ <;> exact fun q=>(sl z9y 54 [(3,1,Zz ([]:List Int))] ⟨[12,1,2,3,4,5,6,7,8,11,13],[],v0y,v0z⟩ ⟨[(5,.grow 10 1)],[],[]⟩ [false,true] (pp (fl aA (fl aJ (fl ([]:List Int) nn))) (tt k0 nn)))
theorem u7k (l0:List R6) (bM:Nat) (v6:Int) (v7:Int) (aA:List R7) (aJ:List R7) (aT:List Int) (k0:(decide (v7<v6))=false):Xq prog (Zy prog 52) (z9b l0) (z9b l0 (.h1 .x false bM v6 v7 aA aJ aT)) (v1a .x false aA aJ):=(sl z9y 91 [(3,1,Zz ([]:List Int))] ⟨[14,1,2,3,4,5,6,11,12,13,15],[],v0y,v0z⟩ ⟨[(5,.grow 10 1)],[],[]⟩ [false,false,true,true,false,true] (pp (fl aA (fl aJ (fl ([]:List Int) nn))) (tt k0 nn)))
theorem u7j (l0:List R6) (bM:Nat) (v6:Int) (v7:Int) (aA:List R7) (aJ:List R7) (aT:List Int) (k0:(decide (v7<v6))=false):Xq prog (Zy prog 52) (z9b l0) (z9b l0 (.h1 .y false bM v6 v7 aA aJ aT)) (v1a .y false aA aJ):=(sl z9y 91 [(3,1,Zz ([]:List Int))] ⟨[14,1,2,3,4,5,6,11,12,13,15],[],v0y,v0z⟩ ⟨[(5,.grow 10 1)],[],[]⟩ [false,false,true,true,true,false,true] (pp (fl aA (fl aJ (fl ([]:List Int) nn))) (tt k0 nn)))
theorem u7i (l0:List R6) (bM:Nat) (v6:Int) (v7:Int) (aA:List R7) (aJ:List R7) (aT:List Int) (k0:(decide (v7<v6))=false):Xq prog (Zy prog 52) (z9b l0) (z9b l0 (.h1 .z false bM v6 v7 aA aJ aT)) (v1a .z false aA aJ):=(lb (fun k1=>(y2k ⟨⟨75,0,true⟩,none,(Zd prog 52 [1,1,1,0,1,0,0] 1),none,(Zy prog 52),⟨Yd [(2,(.ptr 0 0)),(3,(.ptr 1 0))],Uy [⟨[.nils],25,none⟩,⟨[(ii 4)],26,none⟩] 0,2,[],true⟩,[],.leaf⟩ (sl z9y 49 [] ⟨[2,4],[],[some [2,3]],[]⟩ ⟨[],[],[]⟩ [false,false,false,true] (tt k1 (tt k0 nn))) rfl (by kernel_rfl))) (fun k1=>(y2k ⟨⟨75,0,true⟩,none,(Zd prog 3 [1,1,1,1,1,1,1,0] 1),none,(Zy prog 52),⟨Yd [(2,(.ptr 0 0)),(3,(.ptr 1 0))],Uy [⟨[(.dat aJ.length (Zz aJ))],25,none⟩,⟨[(ii 0)],26,none⟩] 0,2,[],true⟩,[],.leaf⟩ (sl z9y 51 [] ⟨[2,4],[6],[some [2,3]],[]⟩ ⟨[],[.cells [.frz aJ.length aJ.length (Zz aJ) (Zz aJ)],.keep],[]⟩ [false,false,false,false] (pp (xZ (z6i 7 7 0 aJ.length aJ.length (Zz aJ)) aJ.length (Zz aJ)) (pp (xL aJ.length aJ.length) (pp (xS aJ.length (Zz aJ) (Zz aJ)) (pp (fl aJ nn) (tt k1 (tt k0 nn))))))) rfl (by kernel_rfl))))
theorem mmd_ex (l0:List R6) (q:Ax) (s:Bool) (bM:Nat) (v6:Int) (v7:Int) (aA:List R7) (aJ:List R7) (aT:List Int) (k0:(decide (v7<v6))=false):Xq prog (Zy prog 52) (z9b l0) (z9b l0 (.h1 q s bM v6 v7 aA aJ aT)) (v1a q s aA aJ):=match q,s with
 | q,true=>u7l l0 q bM v6 v7 aA aJ aT k0
 | .x,false=>u7k l0 bM v6 v7 aA aJ aT k0
 | .y,false=>u7j l0 bM v6 v7 aA aJ aT k0
 | .z,false=>u7i l0 bM v6 v7 aA aJ aT k0
theorem mmd_s0 (q:Ax) (s:Bool) (l0:List R6) (v5:List Int) (v10:Int) (aA:List R7) (aJ:List R7):Xq prog (Zy prog 52) (z9b l0) (z9b l0 (.h0 q s v5 v10 aA aJ)) (Xg l0 (.h0 q s v5 v10 aA aJ)):=by cases q <;> cases s <;> refine (?f: ∀(q:Ax) (s:Bool),Xq prog (Zy prog 52) (z9b l0) (z9b l0 (.h0 q s v5 v10 aA aJ)) (Xg l0 (.h0 q s v5 v10 aA aJ))) _ _ <;> exact fun q s=>(lb (fun k0=>(lo fun o0=>(lo fun o1=>(sl z9y 23 [] ⟨[0,1,2,3,4,5,6,7,8,9,15],[],v0y,v0z⟩ ⟨[(5,.len (v5++[(q.lo (rd l0 (tn v10))),(q.hi (rd l0 (tn v10)))]).length)],(kpB 10 [.rowed 1 (v5++[(q.lo (rd l0 (tn v10))),(q.hi (rd l0 (tn v10)))]).length (Zz (v5++[(q.lo (rd l0 (tn v10))),(q.hi (rd l0 (tn v10)))]))]),[]⟩ [true] (pp (xL (v5.length+2) (v5++[(q.lo (rd l0 (tn v10))),(q.hi (rd l0 (tn v10)))]).length) (pp (xL (v5.length+2) (v5++[(q.lo (rd l0 (tn v10))),(q.hi (rd l0 (tn v10)))]).length) (pp (xS (v5.length+2) (Zi (Zz v5) 0 v5.length 1 [(ii (q.lo (rd l0 (tn v10)))),(ii (q.hi (rd l0 (tn v10))))]) (Zz (v5++[(q.lo (rd l0 (tn v10))),(q.hi (rd l0 (tn v10)))]))) (pp (fl aA (fl aJ (pp (xF (Zi (Zz v5) 0 v5.length 1 [(ii (q.lo (rd l0 (tn v10)))),(ii (q.hi (rd l0 (tn v10))))])) nn))) (ww o1 (ww o0 (tt k0 nn))))))))))) (fun k0=>(lo fun o0=>(lo fun o1=>(sl z9y 42 [] ⟨[12,1,2,3,4,5,6,7,8,9,10],[],mmdN1,mmdM1⟩ ⟨[],(kpB 10 [.rowed 1 (Wf (Yx v5.length (cOf (Zz (Xv (Yx v5.length (cOf (Zz v5)))))))).length (Zz (Wf (Yx v5.length (cOf (Zz (Xv (Yx v5.length (cOf (Zz v5)))))))))]),[]⟩ [false] (pp (xL v5.length (Wf (Yx v5.length (cOf (Zz (Xv (Yx v5.length (cOf (Zz v5)))))))).length (by first | exact z1w _ _ | exact Vy rfl)) (pp (xS v5.length (Zz (Wf (Yx v5.length (cOf (Zz (Xv (Yx v5.length (cOf (Zz v5))))))))) (Zz (Wf (Yx v5.length (cOf (Zz (Xv (Yx v5.length (cOf (Zz v5)))))))))) (pp (fl aA (fl aJ (fl (Wf (Yx v5.length (cOf (Zz (Xv (Yx v5.length (cOf (Zz v5)))))))) nn))) (pp (pp (xG (Nat.beq 1 1)) (pp (xG (Nat.beq 1 1)) (pp (xG (Nat.beq 0 0)) (pp (xG (decide (v5.length=v5.length))) (pp (xG (isI (Zz (Xv (Yx v5.length (cOf (Zz v5))))))) (xG (decide (v5.length<4611686018427387904)))))))) (pp (pp (xG (Nat.beq 1 1)) (pp (xG (Nat.beq 1 1)) (pp (xG (Nat.beq 0 0)) (pp (xG (decide (v5.length=v5.length))) (pp (xG (isI (Zz v5))) (xG (decide (v5.length<4611686018427387904)))))))) (tt k0 nn)))))))))))
theorem mmd_s1 (q:Ax) (s:Bool) (l0:List R6) (bM:Nat) (v6:Int) (v7:Int) (aA:List R7) (aJ:List R7) (aT:List Int):Xq prog (Zy prog 52) (z9b l0) (z9b l0 (.h1 q s bM v6 v7 aA aJ aT)) (Xg l0 (.h1 q s bM v6 v7 aA aJ aT)):=by cases q <;> cases s <;> refine (?f: ∀(q:Ax) (s:Bool),Xq prog (Zy prog 52) (z9b l0) (z9b l0 (.h1 q s bM v6 v7 aA aJ aT)) (Xg l0 (.h1 q s bM v6 v7 aA aJ aT))) _ _ <;> exact fun q s=>(lb (fun k0=>(lo fun aG=>(lo fun bA=>(lo fun bZ=>(lb (fun k1=>(y2k ⟨⟨75,0,true⟩,none,(.code .ret ::(Zd prog 52 [1,1,0,1,0,0,1,1,0,0,1,1,0,0,1,1,0,0,1,1,0] 1)),none,(Zy prog 52),⟨Yd [(2,(.ptr 0 0)),(3,(.ptr 1 0))],Uy [⟨[.nils],25,none⟩,⟨[(ii (Vb q (cvT l0) (rd aT (0+(tn v7))) s))],26,none⟩] 0,2,[],true⟩,[],.leaf⟩ (sl z9y 58 [] ⟨[2,4],[],[some [2,3]],[]⟩ ⟨[],[],[]⟩ (trs 3 []) (tt k1 (pp (pp (pp nn (pp nn (pp nn (pp nn nn)))) (pp (xr l0) (xw bZ))) (ww bA (ww aG (tt k0 nn)))))) rfl (by kernel_rfl))) (fun k1=>(sl z9y 55 [] ⟨(List.range 11),[],mmdN2,mmdM2⟩ ⟨[],[],[]⟩ [true,false] (pp (fl aA (fl aJ (fl aT nn))) (tt k1 (pp (pp (pp nn (pp nn (pp nn (pp nn nn)))) (pp (xr l0) (xw bZ))) (ww bA (ww aG (tt k0 nn))))))))))))) (fun k0=>mmd_ex l0 q s bM v6 v7 aA aJ aT k0))
theorem mmd_s2 (q:Ax) (s:Bool) (l0:List R6) (v8:Int) (v37:List R4) (v38:Int) (v39:Int) (bQ:Nat) (cA:Int) (cB:Int) (aA:List R7) (aJ:List R7) (aT:List Int):Xq prog (Zy prog 52) (z9b l0) (z9b l0 (.h2 q s v8 v37 v38 v39 bQ cA cB aA aJ aT)) (Xg l0 (.h2 q s v8 v37 v38 v39 bQ cA cB aA aJ aT)):=by cases q <;> cases s <;> refine (?f: ∀(q:Ax) (s:Bool),Xq prog (Zy prog 52) (z9b l0) (z9b l0 (.h2 q s v8 v37 v38 v39 bQ cA cB aA aJ aT)) (Xg l0 (.h2 q s v8 v37 v38 v39 bQ cA cB aA aJ aT))) _ _ <;> exact fun q s=>(lb (fun k0=>(lo fun o0=>(lo fun o1=>(sl z9y 23 [] ⟨[0,1,2,3,4,5,15,7,8,9,10],[],mmdN2,mmdM2⟩ ⟨[],(kpB 5 [.cells [.len (aJ++[(qd q s v8 (rd v37 (tn v39)))]).length],.rowed 7 (aJ++[(qd q s v8 (rd v37 (tn v39)))]).length (Zz (aJ++[(qd q s v8 (rd v37 (tn v39)))])),.keep,.keep,.keep,.keep]),[]⟩ [true] (pp (xL (aJ.length+1) (aJ++[(qd q s v8 (rd v37 (tn v39)))]).length) (pp (xL (aJ.length+1) (aJ++[(qd q s v8 (rd v37 (tn v39)))]).length) (pp (xS (aJ.length+1) (Zi (Zz aJ) 0 aJ.length 7 (Ys.cells (qd q s v8 (rd v37 (tn v39))))) (Zz (aJ++[(qd q s v8 (rd v37 (tn v39)))]))) (pp (fl aA (pp (xF (Zi (Zz aJ) 0 aJ.length 7 (Ys.cells (qd q s v8 (rd v37 (tn v39)))))) (fl aT nn))) (ww o1 (ww o0 (tt k0 nn))))))))))) (fun k0=>(sl z9y 19 [] ⟨(List.range 11),[],mmdN1,mmdM1⟩ ⟨[],[],[]⟩ [false,false] (pp (fl aA (fl aJ (fl aT nn))) (tt k0 nn)))))
theorem w4u (l0:List R6): ∀s,Xq prog (Zy prog 52) (z9b l0) (z9b l0 s) (Xg l0 s)
 | .h0 q s v5 v10 aA aJ=>mmd_s0 q s l0 v5 v10 aA aJ
 | .h1 q s bM v6 v7 aA aJ aT=>mmd_s1 q s l0 bM v6 v7 aA aJ aT
 | .h2 q s v8 v37 v38 v39 bQ cA cB aA aJ aT=>mmd_s2 q s l0 v8 v37 v38 v39 bQ cA cB aA aJ aT
theorem x7h (l0:List R6):Xq prog (Zy prog 52) (z9b l0) (Zc prog 52 [(.dat l0.length (Zz l0))] true []) (x0l l0):=(sl z9y 93 [(62,7,Zz ([]:List R7)),(62,7,Zz ([]:List R7)),(3,1,Zz ([]:List Int))] ⟨[8,0,1,9,2,3,10,5,6,7,11],[],v0y,v0z⟩ ⟨[(5,.grow 10 1)],[.keep,.keep,.cells [.grow 3 7],.keep,.keep,.cells [.grow 6 7],.keep,.keep,.keep,.keep,.keep],[]⟩ [true,false,true] (pp (fl ([]:List R7) (fl ([]:List R7) (fl ([]:List Int) nn))) nn))
theorem v7d (l0:List R6) (n:Nat) (vs:List AVal) (h:Yj (Xg l0) n (x0l l0)=.ret vs):Kv prog (Zy prog 52) (Zc prog 52 [(.dat l0.length (Zz l0))] true []) vs:=by have:=Zn (w4u l0) n _ (x7h l0);rwa [h] at this
theorem u1q {q:Op} {a b:List R4}:(Wo q a b).length ≤400:=by
 unfold Wo x1a;cases g:(rgE q a b != 0) with
 | true=>exact AJ _
 | false=>
  rw [Aa];have h:rgE q a b=0:=by simpa using g
  unfold rgE at h;cases g1:(y5x a != 0) with
  | true=>rw [g1,Ab] at h;rw [h] at g1;cases g1
  | false=>
   cases g2:(y5x b != 0) with
   | true=>rw [g1,g2,Aa,Ab] at h;rw [h] at g2;cases g2
   | false=>
    rw [g1,g2,Aa,Aa] at h;unfold eJ at h;revert h;generalize x4x (rgA q a b) _ _ _=e;intro h;cases g3:(e != 0) with
    | true=>rw [g3,Ab] at h;rw [h] at g3;cases g3
    | false=>rw [g3,Aa] at h;exact x1f h
theorem x7j (q:Ax) (L:List R6) (p:Int) (s:Bool):(Vw q L p s).length ≤400:=by
 unfold Vw;cases (w1r q L p != 0) with
 | true=>exact AJ _
 | false=>cases s <;> exact u1q
def z3n (q:Ax) (L:List R6):List Int:=L.flatMap fun r=>[q.lo r,q.hi r]
theorem z0z (q:Ax) (L:List R6):(z3n q L).length =2*L.length:=by
 induction L with
 | nil=>rfl
 | cons r l ih=>show (_::_::z3n q l).length =_;simp only [AV,ih];omega
def plQ (q:Ax) (L:List R6):List Int:=Jp (z3n q L)
theorem z8y (q:Ax) (L:List R6):(plQ q L).length ≤2*L.length:=by have h1:=Ur (Xv (z3n q L));have h2:=compact_length_le (Xv (z3n q L));rw [Xo,z0z] at h2;exact h2
def w2m (E:Int→Int):List Int→Int
 | []=>0
 | p::r=>bif E p != 0 then E p else w2m E r
def z6p (q:Ax) (s:Bool) (L:List R6):Int:=w2m (fun p=>Vb q L p s) (plQ q L)
def w7b (q:Ax) (s:Bool) (L:List R6) (ps:List Int):List R7:=ps.flatMap fun p=>(Vw q L p s).map (qd q s p)
theorem y4z (q:Ax) (s:Bool) (L:List R6): ∀ps,(w7b q s L ps).length ≤400*ps.length
 | []=>An _
 | p::ps=>by have:=y4z q s L ps;have h:=x7j q L p s;show ((Vw q L p s).map (qd q s p)++w7b q s L ps).length ≤_;rw [Az,A3,AV];omega
section
variable (L:List R6) (hL:L.length≤400)
include hL
theorem u3e (q:Ax) (s:Bool) (v2 out:List R7): ∀(k i:Nat) (acc:List Int),i+k=L.length→acc=z3n q (L.take i)→
  ∃n,∀N,Yj (Xg L) (N+n) (.to (.h0 q s acc (i:Int) v2 out))=Yj (Xg L) N (.to (.h1 q s (plQ q L).length ((plQ q L).length :Int) 0 v2 out (Wf (Xv (z3n q L)))))
 | 0,i,acc,h,h'=>by
  have e:acc=z3n q L:=by rw [h',AU (by omega)]
  subst e;have hle:=z0z q L;refine ⟨1,fun N=> ?_⟩;rw [Zv];simp (disch:=omega) only [Xg,Wv,z0a,cmpN_eq,Yw,Yk,Yp,Av,Ab,Aa];rfl
 | k+1,i,acc,h,h'=>by
  have hle:acc.length≤2*i:=by rw [h',z0z,Bl];omega
  obtain ⟨n,hn⟩:=u3e q s v2 out k (i+1) (acc++z3n q [rd L i]) (by omega) (by
   rw [h',Bn];have:L[i]? =some (rd L i):=by rw [Xp (show i<L.length by omega)];exact Ar _
   rw [this];simp [z3n])
  refine ⟨n+1,fun N=> ?_⟩;rw [←AD,Zv,←hn N];simp (disch:=omega) only [Xg,Za,Zq,Zs,Zt,Yc,Yk,Yp,Zf,Zp,Zx,Ya,Zk,Ag,Av,Ai,Al,Ab,Aa];rfl
theorem u3c (q:Ax) (s:Bool) (p:Int) (R:List R4) (hR:R.length≤400) (n5:Nat) (v6 v7:Int) (v2:List R7) (P:List Int): ∀(k j:Nat) (out:List R7),j+k=R.length→out.length≤10000000+j→
  ∃n,∀N,Yj (Xg L) (N+n) (.to (.h2 q s p R (R.length:Int) (j:Int) n5 v6 v7 v2 out P))=Yj (Xg L) N (.to (.h1 q s n5 v6 (wrap .i64 (v7+1)) v2 (out++(R.drop j).map (qd q s p)) P))
 | 0,j,out,h,h'=>by have _u:=hL;refine ⟨1,fun N=> ?_⟩;rw [Au (by omega),Bg,AA,Zv];simp (disch:=omega) only [Xg,Yw,Aa]
 | k+1,j,out,h,h'=>by
  have hj:j<R.length:=by omega
  obtain ⟨n,hn⟩:=u3c q s p R hR n5 v6 v7 v2 P k (j+1) (out++[qd q s p (rd R j)]) (by omega) (by simp only [Az,Br];omega);refine ⟨n+1,fun N=> ?_⟩;rw [Ym hj,AW,←AD,Zv,show out++qd q s p (rd R j)::(R.drop (j+1)).map (qd q s p)=(out++[qd q s p (rd R j)])++(R.drop (j+1)).map (qd q s p) by simp,←hn N];simp (disch:=omega) only [Xg,Za,Zq,Zs,Zt,Yc,Yk,Yp,Zf,Zp,Zx,Ya,Zk,Ag,Av,Ai,Al,Ab,Aa]
theorem u3d (q:Ax) (s:Bool) (v2:List R7): ∀(k i:Nat) (out:List R7),i+k=(plQ q L).length →out.length+400*k≤8000000→
  (w2m (fun p=>Vb q L p s) ((plQ q L).drop i)=0→ ∃n,∀N,Yj (Xg L) (N+n) (.to (.h1 q s (plQ q L).length ((plQ q L).length :Int) (i:Int) v2 out (Wf (Xv (z3n q L)))))=Yj (Xg L) N (v1a q s v2 (out++w7b q s L ((plQ q L).drop i))))∧
  ((w2m (fun p=>Vb q L p s) ((plQ q L).drop i) != 0)=true→ ∃n,∀N,Yj (Xg L) (N+n) (.to (.h1 q s (plQ q L).length ((plQ q L).length :Int) (i:Int) v2 out (Wf (Xv (z3n q L)))))=.ret [.nils,.int .i64 (w2m (fun p=>Vb q L p s) ((plQ q L).drop i))])
 | 0,i,out,h,h'=>by have _u:=hL;rw [Au (show (plQ q L).length ≤i by omega)];refine ⟨fun _=>⟨1,fun N=> ?_⟩,fun e=>by cases e⟩;rw [show w7b q s L []=[] from rfl,AA,Zv];simp (disch:=omega) only [Xg,Yw,Aa]
 | k+1,i,out,h,h'=>by
  have hi:i<(plQ q L).length :=by omega
  have hp:=z8y q L;have hpl:(Wf (Xv (z3n q L))).length =2*L.length:=by rw [Ur,Xo,z0z]
  have r0:rd (Wf (Xv (z3n q L))) i=rd (plQ q L) i:=z4b _ _ hi;have o:z4g q L (rd (plQ q L) i) s=true:=Ah hL;rw [Ym hi];have eE:w2m (fun p=>Vb q L p s) (rd (plQ q L) i::(plQ q L).drop (i+1))=bif Vb q L (rd (plQ q L) i) s != 0 then Vb q L (rd (plQ q L) i) s else w2m (fun p=>Vb q L p s) ((plQ q L).drop (i+1)):=rfl;have eM:w7b q s L (rd (plQ q L) i::(plQ q L).drop (i+1))=(Vw q L (rd (plQ q L) i) s).map (qd q s (rd (plQ q L) i))++w7b q s L ((plQ q L).drop (i+1)):=rfl;rw [eE,eM];rcases Ye (Vb q L (rd (plQ q L) i) s != 0) with z | z
  ·rw [z,Ab];refine ⟨fun e=>(by rw [e] at z;cases z),fun _=>⟨1,fun N=> ?_⟩⟩;rw [Zv];simp (disch:=omega) only [Xg,r0,o,z,Za,Zq,Zs,Zt,Yk,Zk,Ag,Av,Ai,Al,Ab,Aa,Zg]
  ·rw [z,Aa];have hm:=x7j q L (rd (plQ q L) i) s;obtain ⟨n2,h2⟩:=u3c L hL q s (rd (plQ q L) i) (Vw q L (rd (plQ q L) i) s) hm (plQ q L).length ((plQ q L).length :Int) (i:Int) v2 (Wf (Xv (z3n q L))) (Vw q L (rd (plQ q L) i) s).length 0 out (Ag _) (by omega);rw [A2] at h2;obtain ⟨a1,a2⟩:=u3d q s v2 k (i+1) (out++(Vw q L (rd (plQ q L) i) s).map (qd q s (rd (plQ q L) i))) (by omega) (by rw [Az,A3];omega);have ew:wrap .i64 ((i:Int)+1)=((i+1:Nat):Int):=by rw [Zp (by omega)];exact Zx i
   have st: ∀N,Yj (Xg L) (N+n2+1) (.to (.h1 q s (plQ q L).length ((plQ q L).length :Int) (i:Int) v2 out (Wf (Xv (z3n q L)))))=Yj (Xg L) N (.to (.h1 q s (plQ q L).length ((plQ q L).length :Int) ((i+1:Nat):Int) v2 (out++(Vw q L (rd (plQ q L) i) s).map (qd q s (rd (plQ q L) i))) (Wf (Xv (z3n q L))))):=fun N=>by rw [←ew,←h2 N,Zv];simp (disch:=omega) only [Xg,r0,o,z,Za,Zq,Zs,Zt,Yk,Zk,Ag,Av,Ai,Al,Ab,Aa];rfl
   refine ⟨fun e=> ?_,fun e=> ?_⟩
   ·obtain ⟨n,hn⟩:=a1 e;refine ⟨n+n2+1,fun N=> ?_⟩;rw [←AL,←hn N,←st (N+n),AD N,AD N,AD n]
   ·obtain ⟨n,hn⟩:=a2 e;refine ⟨n+n2+1,fun N=> ?_⟩;rw [←hn N,←st (N+n),AD N,AD N,AD n]
theorem z9a (q:Ax) (s:Bool) (v2 out:List R7) (ho:out.length≤2000000):
  (z6p q s L=0→ ∃n,∀N,Yj (Xg L) (N+n) (.to (.h0 q s [] 0 v2 out))=Yj (Xg L) N (v1a q s v2 (out++w7b q s L (plQ q L))))∧
  ((z6p q s L != 0)=true→ ∃n,∀N,Yj (Xg L) (N+n) (.to (.h0 q s [] 0 v2 out))=.ret [.nils,.int .i64 (z6p q s L)]):=by
 have hp:=z8y q L;obtain ⟨n0,h0⟩:=u3e L hL q s v2 out L.length 0 [] (Ag _) rfl;obtain ⟨a1,a2⟩:=u3d L hL q s v2 (plQ q L).length 0 out (Ag _) (by omega);rw [A2] at a1 a2;refine ⟨fun e=> ?_,fun e=> ?_⟩
 ·obtain ⟨n,hn⟩:=a1 e;exact ⟨n+n0,fun N=>by rw [←AD];exact (h0 (N+n)).trans (hn N)⟩
 ·obtain ⟨n,hn⟩:=a2 e;exact ⟨n+n0,fun N=>by rw [←AD];exact (h0 (N+n)).trans (hn N)⟩
end
def dM (q:Ax) (s:Bool) (L:List R6):List R7:=w7b q s L (plQ q L)
def Kq (L:List R6):List R7:=dM .x true L++dM .x false L++dM .y true L++dM .y false L++dM .z true L++dM .z false L
def y8f (L:List R6):Int:=bif z6p .x true L != 0 then z6p .x true L else bif z6p .x false L != 0 then z6p .x false L else bif z6p .y true L != 0 then z6p .y true L else
 bif z6p .y false L != 0 then z6p .y false L else bif z6p .z true L != 0 then z6p .z true L else bif z6p .z false L != 0 then z6p .z false L else bif decide (((Kq L).length :Int)>3000) then 4 else 0
def Ve (L:List R6):List R7:=x1a (y8f L) (Kq L)
def Qa (L:List R6):Int:=y8f L
def z1u (L:List R6):Bool:=decide (L.length≤400)
theorem z4l (q:Ax) (s:Bool) {L:List R6} (h:L.length≤400):(dM q s L).length ≤320000:=by have h1:=y4z q s L (plQ q L);have h2:=z8y q L;unfold dM;omega
theorem u7g (L:List R6) (h:z1u L=true): ∃n,Yj (Xg L) n (x0l L)=.ret (y3q (Qa L) (Kq L)):=by
 have hL:L.length≤400:=AE h;have l1:=z4l .x true hL;have l2:=z4l .x false hL;have l3:=z4l .y true hL;have l4:=z4l .y false hL;have l5:=z4l .z true hL;have d1:=z9a L hL .x true [] [] (AJ _);have d2:=z9a L hL .x false [] (dM .x true L) (by omega);have d3:=z9a L hL .y true [] (dM .x true L++dM .x false L) (by simp only [Az];omega);have d4:=z9a L hL .y false [] (dM .x true L++dM .x false L++dM .y true L) (by simp only [Az];omega);have d5:=z9a L hL .z true [] (dM .x true L++dM .x false L++dM .y true L++dM .y false L) (by simp only [Az];omega);have d6:=z9a L hL .z false [] (dM .x true L++dM .x false L++dM .y true L++dM .y false L++dM .z true L) (by simp only [Az];omega);have go: ∀(q:Ax) (s:Bool) (out:List R7) (V:List AVal),((z6p q s L=0→ ∃n,∀N,Yj (Xg L) (N+n) (.to (.h0 q s [] 0 [] out))=Yj (Xg L) N (v1a q s [] (out++w7b q s L (plQ q L))))∧
   ((z6p q s L != 0)=true→ ∃n,∀N,Yj (Xg L) (N+n) (.to (.h0 q s [] 0 [] out))=.ret [.nils,.int .i64 (z6p q s L)]))→
   (∃n,Yj (Xg L) n (v1a q s [] (out++dM q s L))=.ret V)→ ∃n,Yj (Xg L) n (.to (.h0 q s [] 0 [] out))=.ret (bif z6p q s L != 0 then [.nils,.int .i64 (z6p q s L)] else V):=fun q s out V d ⟨n,hn⟩=>by
  rcases Ye (z6p q s L != 0) with z | z
  ·obtain ⟨m,hm⟩:=d.2 z;refine ⟨0+m,?_⟩;rw [hm 0,z,Ab]
  ·obtain ⟨m,hm⟩:=d.1 (by simpa using z);refine ⟨n+m,?_⟩;rw [hm n,z,Aa];exact hn
 have e6:=go .z false _ (bif decide (((Kq L).length :Int)>3000) then [.nils,.int .i64 4] else [.dat (Kq L).length (Zz (Kq L)),.int .i64 0]) d6 ⟨0,by
  show Yj (Xg L) 0 (bif decide (((Kq L).length :Int)>3000) then _ else _)=_;cases decide (((Kq L).length :Int)>3000) <;> rfl⟩
 obtain ⟨n,hn⟩:=go .x true _ _ d1 (go .x false _ _ d2 (go .y true _ _ d3 (go .y false _ _ d4 (go .z true _ _ d5 e6))));refine ⟨n,hn.trans ?_⟩;unfold y3q Qa y8f
 congr 1
 cases z1:(z6p .x true L != 0) with
 | true=>simp only [z1,Ab]
 | false=>cases z2:(z6p .x false L != 0) with
  | true=>simp only [z2,Ab,Aa]
  | false=>cases z3:(z6p .y true L != 0) with
   | true=>simp only [z3,Ab,Aa]
   | false=>cases z4:(z6p .y false L != 0) with
    | true=>simp only [z4,Ab,Aa]
    | false=>cases z5:(z6p .z true L != 0) with
     | true=>simp only [z5,Ab,Aa]
     | false=>cases z6:(z6p .z false L != 0) with
      | true=>simp only [z6,Ab,Aa]
      | false=>cases z7:decide (((Kq L).length :Int)>3000) <;> rfl
def fMmd :List AVal→Option (AVal×Bool)
 | [a0]=>match asL R6 a0 with
  | some (L0,g0,n0)=>some (.tup [.dat (Ve L0).length (Zz (Ve L0)),.int .i64 (Qa L0)],isT R6 n0 g0&&(z1u L0))
  | _=>none
 | _=>none
theorem u9d {S:Specs} (hS:Zj prog S):Zj prog (S.with u2m fMmd):=by
 refine w7a hS (by kernel_rfl) fun args v h=> ?_;unfold fMmd at h;split at h
 ·rename_i a0;split at h
  ·rename_i L0 g0 n0 e0;simp only [Ae,Ad,Ac] at h;obtain ⟨rfl,ho0,hw⟩:=h;obtain ⟨N,hN⟩:=u7g L0 hw;exact ⟨_,_,(.cons (Yr e0 ho0) .nil),z0r _ _,v7d L0 N _ hN,3,z6d _ _⟩
  ·cases h
 ·cases h
def Md :Specs:=Mc.with u2m fMmd
theorem z4n :Zj prog Md:=u9d z9y
-- h0: index into an array (choices [true, false, false, false])
def z2f (l:List R6):Bool:=true
def y3t (l:List R6):Bool:=true
inductive mofS where
def mofC (l0:List R6):mofS→Cfg
 :=nofun
def x7d (l0:List R6):mofS→Xf mofS
 :=nofun
def y2c (l0:List R6):Xf mofS:=(bif (z2f (cvT l0)) then (bif ((Xe (cvT l0)) != 0) then (.ret [.nils,(.int .i64 (Xe (cvT l0)))]) else (bif (z1u (cvT l0)) then (.ret [(.dat (Ve (cvT l0)).length (Zz (Ve (cvT l0)))),(.int .i64 (Qa (cvT l0)))]) else .stuck)) else .stuck)
theorem w4s (l0:List R6): ∀s,Xq prog (Zy prog 15) (mofC l0) (mofC l0 s) (x7d l0 s)
 :=nofun
theorem x7e (l0:List R6):Xq prog (Zy prog 15) (mofC l0) (Zc prog 15 [(.dat l0.length (Zz l0))] true []) (y2c l0):=(lo fun bU=>(lb (fun k0=>(lr 14 15 [1,0,1,1,0,0] 1 15 [(2,.nils),(3,(ii (Xe (cvT l0))))] (sl z4n 24 [] ⟨[],[],[some [2,3]],[]⟩ ⟨[],[],[]⟩ [true] (tt k0 (pp (pp (xr l0) (xw bU)) nn))))) (fun k0=>(lo fun o0=>(lr 14 3 [1,1,1,1,1,1,1,0] 1 15 [(2,(.dat (Ve (cvT l0)).length (Zz (Ve (cvT l0))))),(3,(ii (Qa (cvT l0))))] (sl z4n 28 [] ⟨[],[],[some [2,3]],[]⟩ ⟨[],[],[]⟩ [false] (pp (pp (xr l0) (xw o0)) (tt k0 (pp (pp (xr l0) (xw bU)) nn)))))))))
theorem v7c (l0:List R6) (n:Nat) (vs:List AVal) (h:Yj (x7d l0) n (y2c l0)=.ret vs):Kv prog (Zy prog 15) (Zc prog 15 [(.dat l0.length (Zz l0))] true []) vs:=by have:=Zn (w4s l0) n _ (x7e l0);rwa [h] at this
inductive shsS where
 | h0 (v8:Int)
def shsC (l0:List R6) (cC:Int) (cD:Int) (cE:Int):shsS→Cfg
 | .h0 v8=>⟨⟨19,0,true⟩,none,(Zd prog 133 [1,0,1,0,0] 0),none,(Zy prog 5),⟨Yd [(0,(.dat l0.length (Zz l0))),(1,(.fn 90 [(.ptr 0 0)])),(7,(ii (l0.length:Int))),(8,(ii v8))],Uy [⟨[(ii cC),(ii cD),(ii cE)],55,none⟩] 0,1,[],true⟩,[⟨⟨9,0,true⟩,(Up prog 89 [1,0] 2),(Zd prog 89 [1,0] 1),none,(Zy prog 5),Yd [(5,(.dat l0.length (Zz l0))),(6,(.fn 90 [(.ptr 0 0)]))]⟩,⟨⟨8,0,true⟩,(Up prog 43 [1,0] 2),(Zd prog 43 [1,0] 1),none,(Zy prog 5),Yd [(5,(.dat l0.length (Zz l0))),(6,(.fn 90 [(.ptr 0 0)]))]⟩],.leaf⟩
def x5p :List (Option (List Nat)):=[some [0,1,7,8],some [5,6],some [5,6]]
def x5q :List (Option (List Nat)):=[]
def z5x (l0:List R6) (cC:Int) (cD:Int) (cE:Int):shsS→Xf shsS
 | .h0 v8=>(bif (decide (v8<(l0.length:Int))) then (bif ((decide (0≤v8∧v8<(l0.length:Int)))&&true) then (bif (decide ((rd l0 v8.toNat).a ≤cC)) then (bif (decide (cC<(rd l0 v8.toNat).d)) then (bif (decide ((rd l0 v8.toNat).b ≤cD)) then (bif (decide (cD<(rd l0 v8.toNat).e)) then (bif (decide ((rd l0 v8.toNat).c ≤cE)) then (bif (decide (cE<(rd l0 v8.toNat).f)) then (.ret [(.bool (decide (v8≥0)))]) else (.to (.h0 (wrap .i64 (v8+1))))) else (.to (.h0 (wrap .i64 (v8+1))))) else (.to (.h0 (wrap .i64 (v8+1))))) else (.to (.h0 (wrap .i64 (v8+1))))) else (.to (.h0 (wrap .i64 (v8+1))))) else (.to (.h0 (wrap .i64 (v8+1))))) else .stuck) else (.ret [(.bool false)]))
def y9q (l0:List R6) (cC:Int) (cD:Int) (cE:Int):Xf shsS:=(.to (.h0 0))
theorem w3q (l0:List R6) (cC:Int) (cD:Int) (cE:Int): ∀s,Xq prog (Zy prog 43) (shsC l0 cC cD cE) (shsC l0 cC cD cE s) (z5x l0 cC cD cE s)
 | .h0 v8=>(lb (fun k0=>(lo fun aG=>(lb (fun k1=>(lb (fun k2=>(lb (fun k3=>(lb (fun k4=>(lb (fun k5=>(lb (fun k6=>(lr 8 3 [1,1,1,1,1,1,1,0] 1 5 [(4,(.bool (decide (v8≥0))))] (sl z4n 92 [] ⟨[],[],[some [4]],[]⟩ ⟨[],[],[]⟩ (trs 32 []) (tt k6 (tt k5 (tt k4 (tt k3 (tt k2 (tt k1 (ww aG (tt k0 nn))))))))))) (fun k6=>(sl z4n 87 [] ⟨[0],[],x5p,x5q⟩ ⟨[],[],[]⟩ (trs 31 [false]) (tt k6 (tt k5 (tt k4 (tt k3 (tt k2 (tt k1 (ww aG (tt k0 nn)))))))))))) (fun k5=>(sl z4n 87 [] ⟨[0],[],x5p,x5q⟩ ⟨[],[],[]⟩ (trs 25 (bl 7 0)) (tt k5 (tt k4 (tt k3 (tt k2 (tt k1 (ww aG (tt k0 nn))))))))))) (fun k4=>(sl z4n 87 [] ⟨[0],[],x5p,x5q⟩ ⟨[],[],[]⟩ (trs 19 (bl 13 0)) (tt k4 (tt k3 (tt k2 (tt k1 (ww aG (tt k0 nn)))))))))) (fun k3=>(sl z4n 87 [] ⟨[0],[],x5p,x5q⟩ ⟨[],[],[]⟩ (trs 13 (bl 19 0)) (tt k3 (tt k2 (tt k1 (ww aG (tt k0 nn))))))))) (fun k2=>(sl z4n 87 [] ⟨[0],[],x5p,x5q⟩ ⟨[],[],[]⟩ (trs 7 (bl 25 0)) (tt k2 (tt k1 (ww aG (tt k0 nn)))))))) (fun k1=>(sl z4n 87 [] ⟨[0],[],x5p,x5q⟩ ⟨[],[],[]⟩ (bl 32 1) (tt k1 (ww aG (tt k0 nn)))))))) (fun k0=>(lr 8 3 [1,1,1,1,1,1,1,0] 1 5 [(4,(.bool false))] (sl z4n 18 [] ⟨[],[],[some [4]],[]⟩ ⟨[],[],[]⟩ [false] (tt k0 nn)))))
theorem x5o (l0:List R6) (cC:Int) (cD:Int) (cE:Int):Xq prog (Zy prog 43) (shsC l0 cC cD cE) (Zc prog 43 [(.dat l0.length (Zz l0)),(.agg [(.int .i64 cC),(.int .i64 cD),(.int .i64 cE)])] true []) (y9q l0 cC cD cE):=(sl z4n 32 [] ⟨[0],[],x5p,x5q⟩ ⟨[],[],[]⟩ [] nn)
theorem v4u (l0:List R6) (cC:Int) (cD:Int) (cE:Int) (n:Nat) (vs:List AVal) (h:Yj (z5x l0 cC cD cE) n (y9q l0 cC cD cE)=.ret vs):Kv prog (Zy prog 43) (Zc prog 43 [(.dat l0.length (Zz l0)),(.agg [(.int .i64 cC),(.int .i64 cD),(.int .i64 cE)])] true []) vs:=by have:=Zn (w3q l0 cC cD cE) n _ (x5o l0 cC cD cE);rwa [h] at this
inductive fitS where
def fitC (l0:List R6):fitS→Cfg
 :=nofun
def x8l (l0:List R6):fitS→Xf fitS
 :=nofun
def y2q (l0:List R6):Xf fitS:=(bif (decide ((l0.length:Int)≤20)) then (bif (y3t (cvT l0)) then (.ret [(.bool ((y7u (cvT l0)) == 0))]) else .stuck) else (.ret [(.bool false)]))
theorem w5t (l0:List R6): ∀s,Xq prog (Zy prog 37) (fitC l0) (fitC l0 s) (x8l l0 s)
 :=nofun
theorem x8m (l0:List R6):Xq prog (Zy prog 37) (fitC l0) (Zc prog 37 [(.dat l0.length (Zz l0))] true []) (y2q l0):=(lb (fun k0=>(lo fun o0=>(lr 11 3 [1,1,1,1,1,1,1,0] 1 3 [(2,(.bool ((y7u (cvT l0)) == 0)))] (sl z4n 16 [] ⟨[],[],[some [2]],[]⟩ ⟨[],[],[]⟩ (trs 3 []) (pp (pp (xr l0) (xw o0)) (tt k0 nn)))))) (fun k0=>(lr 11 3 [1,1,1,1,1,1,1,0] 1 3 [(2,(.bool false))] (sl z4n 16 [] ⟨[],[],[some [2]],[]⟩ ⟨[],[],[]⟩ [false,false,false] (tt k0 nn)))))
theorem v8o (l0:List R6) (n:Nat) (vs:List AVal) (h:Yj (x8l l0) n (y2q l0)=.ret vs):Kv prog (Zy prog 37) (Zc prog 37 [(.dat l0.length (Zz l0))] true []) vs:=by have:=Zn (w5t l0) n _ (x8m l0);rwa [h] at this
inductive crdS where
def crdC (aR:Int) (aP:Int) (aQ:Int) (x1:Int):crdS→Cfg
 :=nofun
def x9c (aR:Int) (aP:Int) (aQ:Int) (x1:Int):crdS→Xf crdS
 :=nofun
def y2t (aR:Int) (aP:Int) (aQ:Int) (x1:Int):Xf crdS:=(bif (x1 == 0) then (.ret [(.int .i64 aR)]) else (bif (x1 == 1) then (.ret [(.int .i64 aP)]) else (.ret [(.int .i64 aQ)])))
theorem w6g (aR:Int) (aP:Int) (aQ:Int) (x1:Int): ∀s,Xq prog (Zy prog 42) (crdC aR aP aQ x1) (crdC aR aP aQ x1 s) (x9c aR aP aQ x1 s)
 :=nofun
theorem x9d (aR:Int) (aP:Int) (aQ:Int) (x1:Int):Xq prog (Zy prog 42) (crdC aR aP aQ x1) (Zc prog 42 [(.agg [(.int .i64 aR),(.int .i64 aP),(.int .i64 aQ)]),(.int .i64 x1)] true []) (y2t aR aP aQ x1):=(lb (fun k0=>(lr 15 42 [1,0,1,0,0] 1 5 [(4,(ii aR))] (sl z4n 18 [] ⟨[],[],[some [4]],[]⟩ ⟨[],[],[]⟩ [true] (tt k0 nn)))) (fun k0=>(lb (fun k1=>(lr 15 42 [1,1,0,1,0,0] 1 5 [(4,(ii aP))] (sl z4n 26 [] ⟨[],[],[some [4]],[]⟩ ⟨[],[],[]⟩ [false,true] (tt k1 (tt k0 nn))))) (fun k1=>(lr 15 3 [1,1,1,1,1,1,1,0] 1 5 [(4,(ii aQ))] (sl z4n 27 [] ⟨[],[],[some [4]],[]⟩ ⟨[],[],[]⟩ [false,false] (tt k1 (tt k0 nn))))))))
theorem v9c (aR:Int) (aP:Int) (aQ:Int) (x1:Int) (n:Nat) (vs:List AVal) (h:Yj (x9c aR aP aQ x1) n (y2t aR aP aQ x1)=.ret vs):Kv prog (Zy prog 42) (Zc prog 42 [(.agg [(.int .i64 aR),(.int .i64 aP),(.int .i64 aQ)]),(.int .i64 x1)] true []) vs:=by have:=Zn (w6g aR aP aQ x1) n _ (x9d aR aP aQ x1);rwa [h] at this
abbrev nEq7 :Nat:=69
def Zu (L:List R6):List R7:=bif Xe L != 0 then [] else Ve L
def Jv (L:List R6):Int:=bif Xe L != 0 then Xe L else Qa L
def Kt (L:List R6):Bool:=true
theorem u7f (L:List R6): ∃n vs,Yj (x7d L) n (y2c L)=.ret vs∧(∀(ρ:Rho) (u:Value),Yy ρ (Jt vs) u→Yy ρ (.tup [.dat (Zu L).length (Zz (Zu L)),.int .i64 (Jv L)]) u)∧ ∃d,pf d (Jt vs)=true:=by
 unfold y2c;simp only [Za,show∀l,z2f l=true from fun _=>rfl,Ab];rcases Ye (Xe L != 0) with q1 | q1
 ·refine ⟨0,_,by rw [q1,Ab];rfl,?_,3,rfl⟩;unfold Zu Jv;rw [q1,Ab,Ab];exact fun ρ u hu=>z3s (.cons (.nild _) (.cons (.refl _) .nil)) ρ u hu
 ·have o:z1u L=true:=Ah (Wt (by simpa using q1)).1;refine ⟨0,_,by rw [q1,o,Aa,Ab];rfl,?_,3,rfl⟩;unfold Zu Jv;rw [q1,Aa,Aa];exact fun ρ u hu=>hu
def fMof :List AVal→Option (AVal×Bool)
 | [a0]=>match asL R6 a0 with
  | some (L0,g0,n0)=>some (.tup [.dat (Zu L0).length (Zz (Zu L0)),.int .i64 (Jv L0)],isT R6 n0 g0&&(Kt L0))
  | _=>none
 | _=>none
theorem u9c {S:Specs} (hS:Zj prog S):Zj prog (S.with nMOf fMof):=by
 refine w7a hS (by kernel_rfl) fun args v h=> ?_;unfold fMof at h;split at h
 ·rename_i a0;split at h
  ·rename_i L0 g0 n0 e0;simp only [Ae,Ad,Ac] at h;obtain ⟨rfl,ho0,hw⟩:=h;obtain ⟨N,vs,hN,hv,hp⟩:=u7f L0;exact ⟨_,vs,(.cons (Yr e0 ho0) .nil),hv,v7c L0 N _ hN,hp⟩
  ·cases h
 ·cases h
def shR (x y z:Int) (r:R6):Bool:=decide (r.a≤x)&&(decide (x<r.d)&&(decide (r.b≤y)&&(decide (y<r.e)&&(decide (r.c≤z)&&decide (z<r.f)))))
def shsV (L:List R6) (x y z:Int):Bool:=L.any (shR x y z)
def z1n (L:List R6) (x y z:Int):Bool:=decide (L.length≤100000)
theorem u0i {L:List R6} {x y z:Int} (hl:L.length≤100000): ∀(k i:Nat),i+k=L.length→ ∃N,Yj (z5x L x y z) N (.to (.h0 (i:Int)))=.ret [.bool ((L.drop i).any (shR x y z))]
 | 0,i,h=>by refine ⟨1,?_⟩;rw [Zv,Au (by omega)];simp (disch:=omega) only [z5x,Yw,Aa];rfl
 | k+1,i,h=>by
  have hi:i<L.length:=by omega
  obtain ⟨N,hN⟩:=u0i (x:=x) (y:=y) (z:=z) hl k (i+1) (by omega);have hw:wrap .i64 ((i:Int)+1)=((i+1:Nat):Int):=Zp (by omega);have e:z5x L x y z (.h0 (i:Int))=bif shR x y z (rd L i) then .ret [.bool true] else .to (.h0 ((i+1:Nat):Int)):=by simp (disch:=omega) only [z5x,Zs,Zt,x4d,hw,Zk,Ai,Ab];unfold shR;cases decide ((rd L i).a ≤x) <;> cases decide (x<(rd L i).d) <;> cases decide ((rd L i).b ≤y) <;> cases decide (y<(rd L i).e) <;> cases decide ((rd L i).c ≤z) <;> cases decide (z<(rd L i).f) <;> rfl
  refine ⟨N+1,?_⟩;rw [Zv,Ym hi,e,List.any_cons];rcases Ye (shR x y z (rd L i)) with q | q
  ·rw [q,Ab,Bool.true_or];exact Zg _ _ _
  ·rw [q,Aa,Bool.false_or];exact hN
theorem u5f (L:List R6) (x y z:Int) (h:z1n L x y z=true): ∃N,Yj (z5x L x y z) N (y9q L x y z)=.ret [.bool (shsV L x y z)]:=
 u0i (AE h) L.length 0 (Ag _)
def crdV (x y z i:Int):Int:=bif i == 0 then x else bif i == 1 then y else z
theorem j0e (x y z i:Int): ∃N,Yj (x9c x y z i) N (y2t x y z i)=.ret [.int .i64 (crdV x y z i)]:=⟨0,by
 unfold y2t crdV;cases (i == 0) <;> cases (i == 1) <;> rfl⟩
def fitV (L:List R6):Bool:=decide ((L.length:Int)≤20)&&(y7u L == 0)
def x3z (L:List R6):Bool:=true
theorem u8i (L:List R6) (h:x3z L=true): ∃N,Yj (x8l L) N (y2q L)=.ret [.bool (fitV L)]:=⟨0,by
 unfold y2q fitV;simp only [Za,show∀l,y3t l=true from fun _=>rfl,Ab];cases decide ((L.length:Int)≤20) <;> rfl⟩
def fShs :List AVal→Option (AVal×Bool)
 | [a0,.agg [.int .i64 cC,.int .i64 cD,.int .i64 cE]]=>match asL R6 a0 with
  | some (L0,g0,n0)=>some (.bool (shsV L0 cC cD cE),isT R6 n0 g0&&(z1n L0 cC cD cE))
  | _=>none
 | _=>none
theorem u8s {S:Specs} (hS:Zj prog S):Zj prog (S.with nSHas fShs):=by
 refine z3m hS (by kernel_rfl) fun args v h=> ?_;unfold fShs at h;split at h
 ·rename_i a0 cC cD cE;split at h
  ·rename_i L0 g0 n0 e0;simp only [Ae,Ad,Ac] at h;obtain ⟨rfl,ho0,hw⟩:=h;obtain ⟨N,hN⟩:=u5f L0 cC cD cE hw;exact ⟨_,_,(.cons (Yr e0 ho0) (.cons (.refl _) .nil)),rfl,v4u L0 cC cD cE N _ hN,3,rfl⟩
  ·cases h
 ·cases h
def fCrd :List AVal→Option (AVal×Bool)
 | [.agg [.int .i64 aR,.int .i64 aP,.int .i64 aQ],.int .i64 x1]=>some (.int .i64 (crdV aR aP aQ x1),true)
 | _=>none
theorem u9r {S:Specs} (hS:Zj prog S):Zj prog (S.with u2t fCrd):=by
 refine z3m hS (by kernel_rfl) fun args v h=> ?_;unfold fCrd at h;split at h
 ·rename_i aR aP aQ x1;simp only [Ae,Ad,Cp] at h;subst h;obtain ⟨N,hN⟩:=j0e aR aP aQ x1;exact ⟨_,_,(.cons (.refl _) (.cons (.refl _) .nil)),rfl,v9c aR aP aQ x1 N _ hN,3,rfl⟩
 ·cases h
def fFit :List AVal→Option (AVal×Bool)
 | [a0]=>match asL R6 a0 with
  | some (L0,g0,n0)=>some (.bool (fitV L0),isT R6 n0 g0&&(x3z L0))
  | _=>none
 | _=>none
theorem u9n {S:Specs} (hS:Zj prog S):Zj prog (S.with u2s fFit):=by
 refine z3m hS (by kernel_rfl) fun args v h=> ?_;unfold fFit at h;split at h
 ·rename_i a0;split at h
  ·rename_i L0 g0 n0 e0;simp only [Ae,Ad,Ac] at h;obtain ⟨rfl,ho0,hw⟩:=h;obtain ⟨N,hN⟩:=u8i L0 hw;exact ⟨_,_,(.cons (Yr e0 ho0) .nil),rfl,v8o L0 N _ hN,3,rfl⟩
  ·cases h
 ·cases h
def Me :Specs:=((((Md.with nMOf fMof).with nSHas fShs).with u2t fCrd).with u2s fFit)
theorem Jm :Zj prog Me:=(u9n (u9r (u8s (u9c z4n))))
inductive finS where
def finC (aR:Int) (aP:Int) (aQ:Int):finS→Cfg
 :=nofun
def x8n (aR:Int) (aP:Int) (aQ:Int):finS→Xf finS
 :=nofun
def y2r (aR:Int) (aP:Int) (aQ:Int):Xf finS:=(bif (decide ((z5j (z5j aR aP) aQ)≥(-1000000))) then (.ret [(.bool (decide ((z5k (z5k aR aP) aQ)≤1000000)))]) else (.ret [(.bool false)]))
theorem w5u (aR:Int) (aP:Int) (aQ:Int): ∀s,Xq prog (Zy prog 73) (finC aR aP aQ) (finC aR aP aQ s) (x8n aR aP aQ s)
 :=nofun
theorem x8o (aR:Int) (aP:Int) (aQ:Int):Xq prog (Zy prog 73) (finC aR aP aQ) (Zc prog 73 [(.agg [(.int .i64 aR),(.int .i64 aP),(.int .i64 aQ)])] true []) (y2r aR aP aQ):=(lb (fun k0=>(lr 21 3 [1,1,1,1,1,1,1,0] 1 3 [(2,(.bool (decide ((z5k (z5k aR aP) aQ)≤1000000))))] (sl Jm 27 [] ⟨[],[],[some [2]],[]⟩ ⟨[],[],[]⟩ (trs 8 []) (tt k0 nn)))) (fun k0=>(lr 21 3 [1,1,1,1,1,1,1,0] 1 3 [(2,(.bool false))] (sl Jm 27 [] ⟨[],[],[some [2]],[]⟩ ⟨[],[],[]⟩ [false,false,false,false,false,false,false,false] (tt k0 nn)))))
theorem v8p (aR:Int) (aP:Int) (aQ:Int) (n:Nat) (vs:List AVal) (h:Yj (x8n aR aP aQ) n (y2r aR aP aQ)=.ret vs):Kv prog (Zy prog 73) (Zc prog 73 [(.agg [(.int .i64 aR),(.int .i64 aP),(.int .i64 aQ)])] true []) vs:=by have:=Zn (w5u aR aP aQ) n _ (x8o aR aP aQ);rwa [h] at this
inductive eqqS where
 | h0 (v13:Int)
def eqqC (l0:List R7) (l1:List R7):eqqS→Cfg
 | .h0 v13=>⟨⟨26,0,true⟩,none,(Zd prog 69 [1,1,0,1,0,0] 0),none,(Zy prog 5),⟨Yd [(0,(.dat l0.length (Zz l0))),(1,(.dat l1.length (Zz l1))),(12,(ii (l0.length:Int))),(13,(ii v13))],Uy [] 0,0,[],true⟩,[],.leaf⟩
def eqqN0 :List (Option (List Nat)):=[some [0,1,12,13]]
def eqqM0 :List (Option (List Nat)):=[]
def z6k (l0:List R7) (l1:List R7):eqqS→Xf eqqS
 | .h0 v13=>(bif (decide (v13<(l0.length:Int))) then (bif ((decide (0≤v13∧v13<(l0.length:Int)))&&true) then (bif ((decide (0≤v13∧v13<(l1.length:Int)))&&true) then (bif (!(((rd l0 v13.toNat).a == (rd l1 v13.toNat).a)&&((((rd l0 v13.toNat).b == (rd l1 v13.toNat).b)&&(((rd l0 v13.toNat).c == (rd l1 v13.toNat).c)&&(((rd l0 v13.toNat).d == (rd l1 v13.toNat).d)&&true)))&&((((rd l0 v13.toNat).e == (rd l1 v13.toNat).e)&&(((rd l0 v13.toNat).f == (rd l1 v13.toNat).f)&&(((rd l0 v13.toNat).g == (rd l1 v13.toNat).g)&&true)))&&true)))) then (.ret [(.bool false)]) else (.to (.h0 (wrap .i64 (v13+1))))) else .stuck) else .stuck) else (.ret [(.bool true)]))
def y2s (l0:List R7) (l1:List R7):Xf eqqS:=(bif ((l0.length:Int) != (l1.length:Int)) then (.ret [(.bool false)]) else (.to (.h0 0)))
theorem w5y (l0:List R7) (l1:List R7): ∀s,Xq prog (Zy prog 69) (eqqC l0 l1) (eqqC l0 l1 s) (z6k l0 l1 s)
 | .h0 v13=>(lb (fun k0=>(lo fun aG=>(lo fun bA=>(lb (fun k1=>(lr 26 69 [1,1,0,1,0,0,1,1,0,0,1,1,0,0] 1 5 [(4,(.bool false))] (sl Jm 21 [] ⟨[],[],[some [4]],[]⟩ ⟨[],[],[]⟩ (bl 2 3) (tt k1 (ww bA (ww aG (tt k0 nn))))))) (fun k1=>(sl Jm 24 [] ⟨[],[],eqqN0,eqqM0⟩ ⟨[],[],[]⟩ (bl 2 1) (tt k1 (ww bA (ww aG (tt k0 nn)))))))))) (fun k0=>(lr 26 3 [1,1,1,1,1,1,1,0] 1 5 [(4,(.bool true))] (sl Jm 11 [] ⟨[],[],[some [4]],[]⟩ ⟨[],[],[]⟩ [false] (tt k0 nn)))))
theorem x8p (l0:List R7) (l1:List R7):Xq prog (Zy prog 69) (eqqC l0 l1) (Zc prog 69 [(.dat l0.length (Zz l0)),(.dat l1.length (Zz l1))] true []) (y2s l0 l1):=(lb (fun k0=>(lr 26 69 [1,0,1,0,0] 1 5 [(4,(.bool false))] (sl Jm 18 [] ⟨[],[],[some [4]],[]⟩ ⟨[],[],[]⟩ [true] (tt k0 nn)))) (fun k0=>(sl Jm 24 [] ⟨[],[],eqqN0,eqqM0⟩ ⟨[],[],[]⟩ [false] (tt k0 nn))))
theorem v8u (l0:List R7) (l1:List R7) (n:Nat) (vs:List AVal) (h:Yj (z6k l0 l1) n (y2s l0 l1)=.ret vs):Kv prog (Zy prog 69) (Zc prog 69 [(.dat l0.length (Zz l0)),(.dat l1.length (Zz l1))] true []) vs:=by have:=Zn (w5y l0 l1) n _ (x8p l0 l1);rwa [h] at this
inductive slmS where
 | h0 (v8:Int)
 | h1 (v16:Int) (aA:List Int)
 | h2 (v4:Int) (aF:List R6) (aS:List R4) (aY:Int) (aZ:Int) (aE:Nat) (aH:List Int)
 | h3 (v4:Int) (v38:Int) (aF:List R6) (aS:List R4) (aY:Int) (aZ:Int) (aE:Nat) (aH:List Int) (aO:Int) (bB:Int) (aB:List R4)
 | h4 (v1:Int) (v2:Int) (v72:List R4) (v73:Int) (v74:Int) (bJ:List R4) (aU:Int) (aD:List R6) (bC:List R4) (bD:Int) (aE:Nat) (aH:List Int) (aO:List R4)
 | h5 (v2:Int) (v8:Int) (bY:Int) (bJ:List R4) (aU:Int) (aD:List R6) (bC:List R4) (bD:Int) (bV:Int) (bH:Nat) (bO:List Int) (aB:List R4)
abbrev y7f (aD:List R6) (v8:Int) (v2:Int):=(aD.set (0+(tn v8)) (R6.mk (rd aD (0+(tn v8))).a (rd aD (0+(tn v8))).b (rd aD (0+(tn v8))).c (rd aD (0+(tn v8))).d (rd aD (0+(tn v8))).e v2))
abbrev y7e (aA:List Int):=(Wf (Yx aA.length (cOf (Zz (Xv (Yx aA.length (cOf (Zz aA))))))))
def w8d :AFr:=⟨⟨15,0,true⟩,(Up prog 47 [1,1,1,0] 3),(Zd prog 47 [1,1,1,0] 1),none,(Zy prog 15),Yd [(9,(.agg [.nilf])),(11,(.sl 8 0 1 (.un 1)))]⟩
abbrev y7d (aB:List R4) (l0:List R6) (v38:Int):=(aB++[(R4.mk (rd l0 (tn v38)).a (rd l0 (tn v38)).b (rd l0 (tn v38)).d (rd l0 (tn v38)).e)])
abbrev y7c (aD:List R6) (v72:List R4) (v74:Int) (v1:Int) (v2:Int):=(aD++[(R6.mk (rd v72 (tn v74)).a (rd v72 (tn v74)).b v1 (rd v72 (tn v74)).c (rd v72 (tn v74)).d v2)])
def u0h :=(y6j [(0,⟨.ready,none,65,Yd [(2,(.ptr 1 0)),(4,(.ptr 2 0)),(5,(.ptr 3 0)),(6,(.ptr 4 0))],[15],(Vr prog 95 [1,1,0,1,0,0]),(Vr prog 95 [1,1,0,1,0,1])⟩)])
def u0g :AFr:=⟨⟨65,0,true⟩,none,(.inRangeFunc 0::(Zd prog 95 [1,1,0,1,0] 1)),none,(Zy prog 95),Yd [(4,(.ptr 2 0)),(5,(.ptr 3 0)),(6,(.ptr 4 0))]⟩
def z3u (l0:List R6):AVal:=(.dat l0.length (Zz l0))
abbrev y7b (aA:List Int) (l0:List R6) (v16:Int):=(aA++[(rd l0 (tn v16)).c,(rd l0 (tn v16)).f])
def slmC (l0:List R6):slmS→Cfg
 | .h0 v8=>⟨⟨19,0,true⟩,none,(Zd prog 134 [1,0,1,0,0] 0),none,(Zy prog 5),⟨Yd [(0,(z3u l0)),(1,(.fn 93 [])),(7,(ii (l0.length:Int))),(8,(ii v8))],Uy [] 0,0,[],true⟩,[⟨⟨9,0,true⟩,(Up prog 92 [1,0] 2),(Zd prog 92 [1,0] 1),none,(Zy prog 5),Yd [(5,(z3u l0)),(6,(.fn 93 []))]⟩,⟨⟨15,0,true⟩,(Up prog 47 [1,1,0,0] 1),(Zd prog 47 [1,1,0,0] 1),none,(Zy prog 15),Yd [(0,(z3u l0)),(7,(z3u l0))]⟩],.leaf⟩
 | .h1 v16 aA=>⟨⟨36,0,true⟩,none,(Zd prog 136 [1,1,0,1,0,0,1,1,0,0,1,1,0,0] 0),none,(Zy prog 3),⟨Yd [(1,(.ptr 0 0)),(3,(.ptr 2 0)),(8,(.sl 1 0 1 (.un 1))),(9,(ii 1)),(10,(ii 0)),(14,(z3u l0)),(15,(ii (l0.length:Int))),(16,(ii v16))],Uy [⟨[(.sl 1 0 1 (.un 1))],166,none⟩,⟨[(z3u l0)],22,none⟩,⟨[(.sla 7 1 0 aA.length (.un 1))],93,none⟩,⟨[.nilf],117,none⟩,⟨[.nils],38,none⟩,⟨[(ii 0)],26,none⟩,⟨[.nils,.nils,(ii 0),(ii 0)],168,none⟩,⟨rows aA.length (Zz aA),3,some ⟨1,aA.length,(Zz aA)⟩⟩] 0,8,[],true⟩,[⟨⟨65,0,true⟩,(Up prog 95 [1,1,0,0] 1),(Zd prog 95 [1,1,0,0] 1),none,(Zy prog 95),Yd [(2,(.ptr 3 0)),(4,(.ptr 4 0)),(5,(.ptr 5 0)),(6,(.ptr 6 0)),(13,(.sl 1 0 1 (.un 1)))]⟩,⟨⟨15,0,true⟩,(Up prog 47 [1,1,1,0] 3),(Zd prog 47 [1,1,1,0] 1),none,(Zy prog 15),Yd [(9,(.agg [.nilf])),(11,(.sl 1 0 1 (.un 1)))]⟩],.leaf⟩
 | .h2 v4 aF aS aY aZ aE aH=>⟨⟨86,0,true⟩,none,(Zd prog 171 [1,0,0] 0),none,[],⟨Yd [(0,(.yld 0)),(1,(.ptr 5 0)),(2,(.ptr 7 0)),(4,(ii v4))],y0k [(1,⟨[.nilf],117,none⟩),(2,⟨[.nils],38,none⟩),(3,⟨[(ii 0)],26,none⟩),(4,⟨[(.sla 9 6 0 aF.length (.un 6)),(.dat aS.length (Zz aS)),(ii aY),(ii aZ)],168,none⟩),(5,⟨[(.sla 6 1 0 aE (.un 1))],93,none⟩),(6,⟨rows aH.length (Zz aH),3,some ⟨1,aH.length,(Zz aH)⟩⟩),(7,⟨[(.sl 8 0 1 (.un 1))],166,none⟩),(8,⟨[(z3u l0)],22,none⟩),(9,⟨rows aF.length (Zz aF),67,some ⟨6,aF.length,(Zz aF)⟩⟩)],10,[],true⟩,[u0g,w8d],u0h⟩
 | .h3 v4 v38 aF aS aY aZ aE aH aO bB aB=>⟨⟨86,0,true⟩,none,(Zd prog 171 [1,0,0,1,0,0,1,0,1,0,0,1,1,0,0,1,1,0,0] 0),none,[],⟨Yd [(0,(.yld 0)),(1,(.ptr 5 0)),(2,(.ptr 7 0)),(4,(ii v4)),(5,(.ptr 9 0)),(6,(ii 0)),(29,(.sl 8 0 1 (.un 1))),(30,(ii 1)),(31,(ii 0)),(36,(z3u l0)),(37,(ii (l0.length:Int))),(38,(ii v38))],y0k [(1,⟨[.nilf],117,none⟩),(2,⟨[.nils],38,none⟩),(3,⟨[(ii 0)],26,none⟩),(4,⟨[(.sla 12 6 0 aF.length (.un 6)),(.dat aS.length (Zz aS)),(ii aY),(ii aZ)],168,none⟩),(5,⟨[(.sla 6 1 0 aE (.un 1))],93,none⟩),(6,⟨rows aH.length (Zz aH),3,some ⟨1,aH.length,(Zz aH)⟩⟩),(7,⟨[(.sl 8 0 1 (.un 1))],166,none⟩),(8,⟨[(z3u l0)],22,none⟩),(9,⟨[(ii aO),(ii bB),(.sl 10 0 1 (.ex 1))],173,none⟩),(10,⟨[(.sla 11 4 0 aB.length (.un 4))],99,none⟩),(11,⟨rows aB.length (Zz aB),88,some ⟨4,aB.length,(Zz aB)⟩⟩),(12,⟨rows aF.length (Zz aF),67,some ⟨6,aF.length,(Zz aF)⟩⟩)],13,[],true⟩,[u0g,w8d],u0h⟩
 | .h4 v1 v2 v72 v73 v74 bJ aU aD bC bD aE aH aO=>⟨⟨101,0,true⟩,none,(Zd prog 137 [1,1,1,0,0] 0),none,[],⟨Yd [(0,(.ptr 0 0)),(1,(ii v1)),(2,(ii v2)),(72,(.dat v72.length (Zz v72))),(73,(ii v73)),(74,(ii v74))],y0k [(0,⟨[(.sla 10 6 0 aD.length (.un 6)),(.dat bC.length (Zz bC)),(ii bD),(ii v2)],168,none⟩),(2,⟨[.nilf],117,none⟩),(3,⟨[.nils],38,none⟩),(4,⟨[(ii 0)],26,none⟩),(5,⟨[(.sla 6 1 0 aE (.un 1))],93,none⟩),(6,⟨rows aH.length (Zz aH),3,some ⟨1,aH.length,(Zz aH)⟩⟩),(7,⟨[(.sl 8 0 1 (.un 1))],166,none⟩),(8,⟨[(z3u l0)],22,none⟩),(9,⟨[(.dat aO.length (Zz aO))],99,none⟩),(10,⟨rows aD.length (Zz aD),67,some ⟨6,aD.length,(Zz aD)⟩⟩)],11,[],true⟩,[⟨⟨65,0,true⟩,(Up prog 95 [1,1,0,1,0,1,0,1,1,1] 5),(Zd prog 95 [1,1,0,1,0,1,0,1,1,1] 1),(some 1),[],Yd [(6,(.ptr 0 0)),(54,(ii v1)),(56,(ii v2)),(57,(.dat bJ.length (Zz bJ)))]⟩,⟨⟨86,0,true⟩,(Up prog 171 [1,0,0,1,0,0,1,1,0] 2),(Zd prog 171 [1,0,0,1,0,0,1,1,0] 1),none,[],Yd [(0,(.yld 1)),(1,(.ptr 5 0)),(2,(.ptr 7 0)),(4,(ii aU)),(82,(.yld 1)),(83,(.agg [(ii v1),(ii v2),(.sl 9 0 1 (.ex 1))]))]⟩,⟨⟨65,0,true⟩,none,(.inRangeFunc 1::(Zd prog 95 [1,1,0,1,0] 1)),none,(Zy prog 95),Yd [(4,(.ptr 3 0)),(5,(.ptr 4 0)),(6,(.ptr 0 0))]⟩,w8d],(y6j [(1,⟨.busy,none,65,Yd [(2,(.ptr 2 0)),(4,(.ptr 3 0)),(5,(.ptr 4 0)),(6,(.ptr 0 0))],[15],(Vr prog 95 [1,1,0,1,0,0]),(Vr prog 95 [1,1,0,1,0,1])⟩)])⟩
 | .h5 v2 v8 bY bJ aU aD bC bD bV bH bO aB=>⟨⟨101,0,true⟩,none,(Zd prog 137 [0,1,0,0,1,0,0] 0),none,[],⟨Yd [(0,(.ptr 0 0)),(2,(ii v2)),(8,(ii v8))],y0k [(0,⟨[(.sla 1 6 0 aD.length (.un 6)),(.dat bC.length (Zz bC)),(ii bD),(ii bV)],168,none⟩),(1,⟨rows aD.length (Zz aD),67,some ⟨6,aD.length,(Zz aD)⟩⟩),(3,⟨[.nilf],117,none⟩),(4,⟨[.nils],38,none⟩),(5,⟨[(ii 0)],26,none⟩),(6,⟨[(.sla 7 1 0 bH (.un 1))],93,none⟩),(7,⟨rows bO.length (Zz bO),3,some ⟨1,bO.length,(Zz bO)⟩⟩),(8,⟨[(.sl 9 0 1 (.un 1))],166,none⟩),(9,⟨[(z3u l0)],22,none⟩),(10,⟨[(.dat aB.length (Zz aB))],99,none⟩)],11,[],true⟩,[⟨⟨65,0,true⟩,(Up prog 95 [1,1,0,1,0,1,0,1,1,1] 5),(Zd prog 95 [1,1,0,1,0,1,0,1,1,1] 1),(some 2),[],Yd [(6,(.ptr 0 0)),(54,(ii bY)),(56,(ii v2)),(57,(.dat bJ.length (Zz bJ)))]⟩,⟨⟨86,0,true⟩,(Up prog 171 [1,0,0,1,0,0,1,1,0] 2),(Zd prog 171 [1,0,0,1,0,0,1,1,0] 1),none,[],Yd [(0,(.yld 2)),(1,(.ptr 6 0)),(2,(.ptr 8 0)),(4,(ii aU)),(82,(.yld 2)),(83,(.agg [(ii bY),(ii v2),(.sl 10 0 1 (.ex 1))]))]⟩,⟨⟨65,0,true⟩,none,(.inRangeFunc 2::(Zd prog 95 [1,1,0,1,0] 1)),none,(Zy prog 95),Yd [(4,(.ptr 4 0)),(5,(.ptr 5 0)),(6,(.ptr 0 0))]⟩,⟨⟨15,0,true⟩,(Up prog 47 [1,1,1,0] 3),(Zd prog 47 [1,1,1,0] 1),none,(Zy prog 15),Yd [(9,(.agg [.nilf])),(11,(.sl 9 0 1 (.un 1)))]⟩],(y6j [(2,⟨.busy,none,65,Yd [(2,(.ptr 3 0)),(4,(.ptr 4 0)),(5,(.ptr 5 0)),(6,(.ptr 0 0))],[15],(Vr prog 95 [1,1,0,1,0,0]),(Vr prog 95 [1,1,0,1,0,1])⟩)])⟩
def slmN0 :List (Option (List Nat)):=[some [0,1,7,8],some [5,6],some [0,7]]
def slmM0 :List (Option (List Nat)):=[]
def u5c :List (Option (List Nat)):=[some [1,3,8,9,10,14,15,16],some [2,4,5,6,13],some [9,11]]
def u5e :List (Option (List Nat)):=[]
def u5b :List (Option (List Nat)):=[some [0,1,2,4],some [4,5,6],some [9,11]]
def u5d :List (Option (List Nat)):=[some [2,4,5,6],none,none,none,none,none,none,none,none,none]
def v4r :List (Option (List Nat)):=[some [0,1,2,4,5,6,29,30,31,36,37,38],some [4,5,6],some [9,11]]
def v4t :List (Option (List Nat)):=[some [2,4,5,6],none,none,none,none,none,none,none,none,none,none,none,none]
def v4q :List (Option (List Nat)):=[some [0,1,2,72,73,74],some [6,54,56,57],some [0,1,2,4,82,83],some [4,5,6],some [9,11]]
def v4s :List (Option (List Nat)):=[none,some [2,4,5,6],none,none,none,none,none,none,none,none,none]
def slmN5 :List (Option (List Nat)):=[some [0,2,8],some [6,54,56,57],some [0,1,2,4,82,83],some [4,5,6],some [9,11]]
def slmM5 :List (Option (List Nat)):=[none,none,some [2,4,5,6],none,none,none,none,none,none,none,none]
def Xu (l0:List R6):slmS→Xf slmS
 | .h0 v8=>(bif (decide (v8<(l0.length:Int))) then (bif ((decide (0≤v8∧v8<(l0.length:Int)))&&true) then (bif (!(u4j (rd l0 v8.toNat).a (rd l0 v8.toNat).b (rd l0 v8.toNat).c (rd l0 v8.toNat).d (rd l0 v8.toNat).e (rd l0 v8.toNat).f)) then (bif (decide (v8≥0)) then (.ret [.nils,(.int .i64 8)]) else (.to (.h1 0 ([]:List Int)))) else (.to (.h0 (wrap .i64 (v8+1))))) else .stuck) else (.to (.h1 0 ([]:List Int))))
 | .h1 v16 aA=>(bif (decide (v16<(l0.length:Int))) then (bif ((decide (0≤v16∧v16<(l0.length:Int)))&&true) then (bif (Nat.beq 1 1&&((decide (0+aA.length=aA.length))&&decide ((aA.length+2+1)*(8+1)≤Ju))) then (.to (.h1 (wrap .i64 (v16+1)) (aA++[(rd l0 v16.toNat).c,(rd l0 v16.toNat).f]))) else .stuck) else .stuck) else (bif (decide (aA.length<4611686018427387904)) then (bif (decide (aA.length=aA.length)) then (.to (.h2 1 ([]:List R6) ([]:List R4) 0 0 (v3e (Yx aA.length (cOf (Zz (Xv (Yx aA.length (cOf (Zz aA)))))))) (Wf (Yx aA.length (cOf (Zz (Xv (Yx aA.length (cOf (Zz aA)))))))))) else .stuck) else .stuck))
 | .h2 v4 aF aS aY aZ aE aH=>(bif (decide (v4<((aE:Nat):Int))) then (bif ((decide (0≤(wrap .i64 (v4 - 1))∧(wrap .i64 (v4 - 1))<((aE:Nat):Int)))&&true) then (bif (decide ((0+(Int.toNat (wrap .i64 (v4 - 1))))<aH.length)) then (bif ((decide (0≤v4∧v4<((aE:Nat):Int)))&&true) then (bif (decide ((0+v4.toNat)<aH.length)) then (.to (.h3 v4 0 aF aS aY aZ aE aH (rd aH (0+(Int.toNat (wrap .i64 (v4 - 1))))) (rd aH (0+v4.toNat)) ([]:List R4))) else .stuck) else .stuck) else .stuck) else .stuck) else (bif (decide ((aF.length:Int)>400)) then (.ret [.nils,(.int .i64 4)]) else (.ret [(.dat aF.length (Zz aF)),(.int .i64 0)])))
 | .h3 v4 v38 aF aS aY aZ aE aH aO bB aB=>(bif (decide (v38<(l0.length:Int))) then (bif ((decide (0≤v38∧v38<(l0.length:Int)))&&true) then (bif (decide ((rd l0 v38.toNat).c ≤aO)) then (bif (decide (aO<(rd l0 v38.toNat).f)) then (bif (Nat.beq 4 4&&((decide (0+aB.length=aB.length))&&decide ((aB.length+1+1)*(32+1)≤Ju))) then (.to (.h3 v4 (wrap .i64 (v38+1)) aF aS aY aZ aE aH aO bB (aB++[(R4.mk (rd l0 v38.toNat).a (rd l0 v38.toNat).b (rd l0 v38.toNat).d (rd l0 v38.toNat).e)]))) else .stuck) else (.to (.h3 v4 (wrap .i64 (v38+1)) aF aS aY aZ aE aH aO bB aB))) else (.to (.h3 v4 (wrap .i64 (v38+1)) aF aS aY aZ aE aH aO bB aB))) else .stuck) else (bif (Ui (cvT aB)) then (bif ((Xm (cvT aB)) != 0) then (.ret [.nils,(.int .i64 (Xm (cvT aB)))]) else (bif (decide ((((Zb (cvT aB)).length :Nat):Int)>0)) then (bif (aZ == aO) then (bif (Wb (cvT aS) (cvT (Zb (cvT aB)))) then (bif (Jh (cvT aS) (cvT (Zb (cvT aB)))) then (.to (.h5 bB aY aO (Zb (cvT aB)) v4 aF aS aY aZ aE aH aB)) else (.to (.h4 aO bB (Zb (cvT aB)) (((Zb (cvT aB)).length :Nat):Int) 0 (Zb (cvT aB)) v4 aF (Zb (cvT aB)) (aF.length:Int) aE aH aB))) else .stuck) else (.to (.h4 aO bB (Zb (cvT aB)) (((Zb (cvT aB)).length :Nat):Int) 0 (Zb (cvT aB)) v4 aF (Zb (cvT aB)) (aF.length:Int) aE aH aB))) else (.to (.h4 aO bB (Zb (cvT aB)) (((Zb (cvT aB)).length :Nat):Int) 0 (Zb (cvT aB)) v4 aF (Zb (cvT aB)) (aF.length:Int) aE aH aB)))) else .stuck))
 | .h4 v1 v2 v72 v73 v74 bJ aU aD bC bD aE aH aO=>(bif (decide (v74<v73)) then (bif ((decide (0≤v74∧v74<(v72.length:Int)))&&true) then (bif (Nat.beq 6 6&&((decide (0+aD.length=aD.length))&&decide ((aD.length+1+1)*(48+1)≤Ju))) then (.to (.h4 v1 v2 v72 v73 (wrap .i64 (v74+1)) bJ aU (aD++[(R6.mk (rd v72 v74.toNat).a (rd v72 v74.toNat).b v1 (rd v72 v74.toNat).c (rd v72 v74.toNat).d v2)]) bC bD aE aH aO)) else .stuck) else .stuck) else (.to (.h2 (wrap .i64 (aU+1)) aD bC bD v2 aE aH)))
 | .h5 v2 v8 bY bJ aU aD bC bD bV bH bO aB=>(bif (decide (v8<(aD.length:Int))) then (bif ((decide (0≤v8∧v8<(aD.length:Int)))&&true) then (bif (decide ((0+v8.toNat)<aD.length)) then (.to (.h5 v2 (wrap .i64 (v8+1)) bY bJ aU (aD.set (0+v8.toNat) (R6.mk (rd aD (0+v8.toNat)).a (rd aD (0+v8.toNat)).b (rd aD (0+v8.toNat)).c (rd aD (0+v8.toNat)).d (rd aD (0+v8.toNat)).e v2)) bC bD bV bH bO aB)) else .stuck) else .stuck) else (.to (.h2 (wrap .i64 (aU+1)) aD bC bD v2 bH bO)))
def y1l (l0:List R6):Xf slmS:=(bif (decide ((l0.length:Int)>400)) then (.ret [.nils,(.int .i64 4)]) else (.to (.h0 0)))
theorem w3o (l0:List R6): ∀s,Xq prog (Zy prog 47) (slmC l0) (slmC l0 s) (Xu l0 s)
 | .h0 v8=>(lb (fun k0=>(lo fun aG=>(lb (fun k1=>(lb (fun k2=>(lr 15 47 [1,1,0,1,0,0] 1 15 [(2,.nils),(3,(ii 8))] (sl Jm 54 [] ⟨[],[],[some [2,3]],[]⟩ ⟨[],[],[]⟩ (trs 3 []) (tt k2 (tt k1 (ww aG (tt k0 nn))))))) (fun k2=>(sl Jm 112 [(3,1,Zz ([]:List Int))] ⟨[6,1,7,2,3,4,5,8],[],u5c,u5e⟩ ⟨[],[.keep,.keep,.cells [.grow 7 1],.keep,.keep,.keep,.keep,.keep],[]⟩ (bl 4 11) (pp (fl ([]:List Int) nn) (tt k2 (tt k1 (ww aG (tt k0 nn))))))))) (fun k1=>(sl Jm 44 [] ⟨[],[],slmN0,slmM0⟩ ⟨[],[],[]⟩ (bl 2 1) (tt k1 (ww aG (tt k0 nn)))))))) (fun k0=>(sl Jm 81 [(3,1,Zz ([]:List Int))] ⟨[5,0,6,1,2,3,4,7],[],u5c,u5e⟩ ⟨[],[.keep,.keep,.cells [.grow 7 1],.keep,.keep,.keep,.keep,.keep],[]⟩ (bl 3 4) (pp (fl ([]:List Int) nn) (tt k0 nn)))))
 | .h1 v16 aA=>(lb (fun k0=>(lo fun o0=>(lo fun o1=>(sl Jm 34 [] ⟨[0,1,2,3,4,5,6,10],[],u5c,u5e⟩ ⟨[],[.keep,.keep,.cells [.len (y7b aA l0 v16).length],.keep,.keep,.keep,.keep,.rowed 1 (y7b aA l0 v16).length (Zz (y7b aA l0 v16))],[]⟩ [true] (pp (xL (aA.length+2) (y7b aA l0 v16).length) (pp (xL (aA.length+2) (y7b aA l0 v16).length) (pp (xS (aA.length+2) (Zi (Zz aA) 0 aA.length 1 [(ii (rd l0 (tn v16)).c),(ii (rd l0 (tn v16)).f)]) (Zz (y7b aA l0 v16))) (pp (pp (xF (Zi (Zz aA) 0 aA.length 1 [(ii (rd l0 (tn v16)).c),(ii (rd l0 (tn v16)).f)])) nn) (ww o1 (ww o0 (tt k0 nn))))))))))) (fun k0=>(lo fun o0=>(lo fun o1=>(sl Jm 46 [(67,6,Zz ([]:List R6))] ⟨[8,3,4,5,6,2,7,0,1,9],[],u5b,u5d⟩ ⟨[],(kpB 4 [.cells [.grow 9 6,.list 0 (Zz ([]:List R4)),.keep,.keep],.keep,.rowed 1 (y7e aA).length (Zz (y7e aA)),.keep,.keep,.keep]),[]⟩ (bl 2 0) (pp (xL aA.length (y7e aA).length (by first | exact z1w _ _ | exact Vy rfl)) (pp (xS aA.length (Zz (y7e aA)) (Zz (y7e aA))) (pp (fl (y7e aA) (fl ([]:List R6) nn)) (pp (pp (xG (Nat.beq 1 1)) (pp (xG (Nat.beq 1 1)) (pp (xG (Nat.beq 0 0)) (pp (xG (decide (aA.length=aA.length))) (pp (xG (isI (Zz (Xv (Yx aA.length (cOf (Zz aA))))))) (xG (decide (aA.length<4611686018427387904)))))))) (pp (pp (xG (Nat.beq 1 1)) (pp (xG (Nat.beq 1 1)) (pp (xG (Nat.beq 0 0)) (pp (xG (decide (aA.length=aA.length))) (pp (xG (isI (Zz aA))) (xG (decide (aA.length<4611686018427387904)))))))) (tt k0 nn)))))))))))
 | .h2 v4 aF aS aY aZ aE aH=>(lb (fun k0=>(lo fun o0=>(lo fun o1=>(lo fun o2=>(lo fun o3=>(sl Jm 48 [(88,4,Zz ([]:List R4))] ⟨[0,1,2,3,4,5,6,7,8,10,11,12,9],[],v4r,v4t⟩ ⟨[],(kpB 10 [.cells [.grow 11 4],.keep,.keep]),[]⟩ (trs 3 []) (pp (fl aH (fl ([]:List R4) (fl aF nn))) (ww o3 (ww o2 (ww o1 (ww o0 (tt k0 nn)))))))))))) (fun k0=>(lb (fun k1=>(lr 15 3 [1,1,1,1,1,1,1,0] 1 15 [(2,.nils),(3,(ii 4))] (sl Jm 33 [] ⟨[],[],[some [2,3]],[]⟩ ⟨[],[],[]⟩ (bl 2 2) (tt k1 (tt k0 nn))))) (fun k1=>(lr 15 3 [1,1,1,1,1,1,1,0] 1 15 [(2,(.dat aF.length (Zz aF))),(3,(ii 0))] (sl Jm 36 [] ⟨[],[9],[some [2,3]],[]⟩ ⟨[(2,.frz aF.length aF.length (Zz aF) (Zz aF))],[],[]⟩ (bl 2 0) (pp (xZ (z6i 6 6 0 aF.length aF.length (Zz aF)) aF.length (Zz aF)) (pp (xL aF.length aF.length) (pp (xS aF.length (Zz aF) (Zz aF)) (pp (fl aF nn) (tt k1 (tt k0 nn))))))))))))
 | .h3 v4 v38 aF aS aY aZ aE aH aO bB aB=>(lb (fun k0=>(lo fun aG=>(lb (fun k1=>(lb (fun k2=>(lo fun o0=>(sl Jm 41 [] ⟨[0,1,2,3,4,5,6,7,8,9,10,15,12],[],v4r,v4t⟩ ⟨[],(kpB 10 [.cells [.len (y7d aB l0 v38).length],.rowed 4 (y7d aB l0 v38).length (Zz (y7d aB l0 v38)),.keep]),[]⟩ (trs 8 []) (pp (xL (aB.length+1) (y7d aB l0 v38).length) (pp (xL (aB.length+1) (y7d aB l0 v38).length) (pp (xS (aB.length+1) (Zi (Zz aB) 0 aB.length 4 [(ii (rd l0 (tn v38)).a),(ii (rd l0 (tn v38)).b),(ii (rd l0 (tn v38)).d),(ii (rd l0 (tn v38)).e)]) (Zz (y7d aB l0 v38))) (pp (fl aH (pp (xF (Zi (Zz aB) 0 aB.length 4 [(ii (rd l0 (tn v38)).a),(ii (rd l0 (tn v38)).b),(ii (rd l0 (tn v38)).d),(ii (rd l0 (tn v38)).e)])) (fl aF nn))) (ww o0 (tt k2 (tt k1 (ww aG (tt k0 nn)))))))))))) (fun k2=>(sl Jm 41 [] ⟨(List.range 13),[],v4r,v4t⟩ ⟨[],[],[]⟩ (trs 7 [false]) (pp (fl aH (fl aB (fl aF nn))) (tt k2 (tt k1 (ww aG (tt k0 nn))))))))) (fun k1=>(sl Jm 41 [] ⟨(List.range 13),[],v4r,v4t⟩ ⟨[],[],[]⟩ (bl 8 1) (pp (fl aH (fl aB (fl aF nn))) (tt k1 (ww aG (tt k0 nn))))))))) (fun k0=>(Xa (sl Jm (C':=⟨⟨65,0,true⟩,(Up prog 95 [1,1,0,1,0,1,0,0] 4),(Zd prog 95 [1,1,0,1,0,1,0,0] 1),(some 0),[],⟨Yd [(2,(.ptr 1 0)),(4,(.ptr 2 0)),(5,(.ptr 3 0)),(6,(.ptr 4 0)),(7,(.ptr 6 0)),(20,(.dat aB.length (Zz aB)))],y0k [(1,⟨[.nilf],117,none⟩),(2,⟨[.nils],38,none⟩),(3,⟨[(ii 0)],26,none⟩),(4,⟨[(.sla 5 6 0 aF.length (.un 6)),(.dat aS.length (Zz aS)),(ii aY),(ii aZ)],168,none⟩),(5,⟨rows aF.length (Zz aF),67,some ⟨6,aF.length,(Zz aF)⟩⟩),(6,⟨[(ii aO),(ii bB),(.sl 7 0 1 (.ex 1))],173,none⟩),(7,⟨[(.dat aB.length (Zz aB))],99,none⟩),(8,⟨[(.sla 9 1 0 aE (.un 1))],93,none⟩),(9,⟨rows aH.length (Zz aH),3,some ⟨1,aH.length,(Zz aH)⟩⟩),(10,⟨[(.sl 11 0 1 (.un 1))],166,none⟩),(11,⟨[(.dat l0.length (Zz l0))],22,none⟩)],12,[],true⟩,[⟨⟨86,0,true⟩,(Up prog 171 [1,0,0,1,0,0,1,1,0] 2),(Zd prog 171 [1,0,0,1,0,0,1,1,0] 1),none,[],Yd [(0,(.yld 0)),(1,(.ptr 8 0)),(2,(.ptr 10 0)),(4,(ii v4)),(82,(.yld 0)),(83,(.agg [(ii aO),(ii bB),(.sl 7 0 1 (.ex 1))]))]⟩,⟨⟨65,0,true⟩,none,(.inRangeFunc 0::(Zd prog 95 [1,1,0,1,0] 1)),none,(Zy prog 95),Yd [(4,(.ptr 2 0)),(5,(.ptr 3 0)),(6,(.ptr 4 0))]⟩,⟨⟨15,0,true⟩,(Up prog 47 [1,1,1,0] 3),(Zd prog 47 [1,1,1,0] 1),none,(Zy prog 15),Yd [(9,(.agg [.nilf])),(11,(.sl 11 0 1 (.un 1)))]⟩],(y6j [(0,⟨.busy,none,65,Yd [(2,(.ptr 1 0)),(4,(.ptr 2 0)),(5,(.ptr 3 0)),(6,(.ptr 4 0))],[15],(Vr prog 95 [1,1,0,1,0,0]),(Vr prog 95 [1,1,0,1,0,1])⟩)])⟩) 37 [] ⟨[0,1,2,3,4,12,13,10,5,6,7,8],[11],[some [2,4,5,6,7,20],some [0,1,2,4,82,83],some [4,5,6],some [9,11]],[some [2,4,5,6],none,none,none,none,none,none,none,none,none,none,none]⟩ ⟨[(20,.frz aB.length aB.length (Zz aB) (Zz aB))],[.keep,.keep,.keep,.keep,.keep,.keep,.keep,.cells [.frz aB.length aB.length (Zz aB) (Zz aB)],.keep,.keep,.keep,.keep],[]⟩ (bl 2 0) (pp (xZ (z6i 4 4 0 aB.length aB.length (Zz aB)) aB.length (Zz aB)) (pp (xL aB.length aB.length) (pp (xS aB.length (Zz aB) (Zz aB)) (pp (xZ (z6i 4 4 0 aB.length aB.length (Zz aB)) aB.length (Zz aB)) (pp (xL aB.length aB.length) (pp (xS aB.length (Zz aB) (Zz aB)) (pp (fl aF (fl aH nn)) (pp (fl aB nn) (tt k0 nn)))))))))) (lo fun aG=>(lb (fun k1=>(lr 15 3 [1,1,1,1,1,1,1,0] 1 15 [(2,.nils),(3,(ii (Xm (cvT aB))))] (sl Jm 50 [] ⟨[],[],[some [2,3]],[]⟩ ⟨[],[],[]⟩ (bl 3 6) (tt k1 (pp (pp (xr aB) (xw aG)) nn))))) (fun k1=>(lb (fun k2=>(lb (fun k3=>(lo fun bW=>(lb (fun k4=>(sl Jm 75 [] ⟨[4,5,0,1,2,3,8,9,10,11,7],[],slmN5,slmM5⟩ ⟨[],[],[]⟩ (bl 15 32764) (pp (fl aF (fl aH nn)) (tt k4 (pp (pp (xr aS) (pp (xI R4 (Zb (cvT aB)).length (Zz (Zb (cvT aB)))) (xw bW))) (tt k3 (tt k2 (tt k1 (pp (pp (xr aB) (xw aG)) nn))))))))) (fun k4=>(sl Jm 95 [] ⟨[4,0,1,2,3,8,9,10,11,7,5],[],v4q,v4s⟩ ⟨[],[],[]⟩ (bl 15 16380) (pp (fl aH (fl aF nn)) (tt k4 (pp (pp (xr aS) (pp (xI R4 (Zb (cvT aB)).length (Zz (Zb (cvT aB)))) (xw bW))) (tt k3 (tt k2 (tt k1 (pp (pp (xr aB) (xw aG)) nn)))))))))))) (fun k3=>(sl Jm 95 [] ⟨[4,0,1,2,3,8,9,10,11,7,5],[],v4q,v4s⟩ ⟨[],[],[]⟩ (bl 15 252) (pp (fl aH (fl aF nn)) (tt k3 (tt k2 (tt k1 (pp (pp (xr aB) (xw aG)) nn))))))))) (fun k2=>(sl Jm 95 [] ⟨[4,0,1,2,3,8,9,10,11,7,5],[],v4q,v4s⟩ ⟨[],[],[]⟩ (bl 15 0) (pp (fl aH (fl aF nn)) (tt k2 (tt k1 (pp (pp (xr aB) (xw aG)) nn)))))))))))))
 | .h4 v1 v2 v72 v73 v74 bJ aU aD bC bD aE aH aO=>(lb (fun k0=>(lo fun o0=>(lo fun o1=>(sl Jm 23 [] ⟨[0,1,2,3,4,5,6,7,8,9,13],[],v4q,v4s⟩ ⟨[],[.cells [.len (y7c aD v72 v74 v1 v2).length,.keep,.keep,.keep],.keep,.keep,.keep,.keep,.keep,.keep,.keep,.keep,.keep,.rowed 6 (y7c aD v72 v74 v1 v2).length (Zz (y7c aD v72 v74 v1 v2))],[]⟩ [true] (pp (xL (aD.length+1) (y7c aD v72 v74 v1 v2).length) (pp (xL (aD.length+1) (y7c aD v72 v74 v1 v2).length) (pp (xS (aD.length+1) (Zi (Zz aD) 0 aD.length 6 [(ii (rd v72 (tn v74)).a),(ii (rd v72 (tn v74)).b),(ii v1),(ii (rd v72 (tn v74)).c),(ii (rd v72 (tn v74)).d),(ii v2)]) (Zz (y7c aD v72 v74 v1 v2))) (pp (fl aH (pp (xF (Zi (Zz aD) 0 aD.length 6 [(ii (rd v72 (tn v74)).a),(ii (rd v72 (tn v74)).b),(ii v1),(ii (rd v72 (tn v74)).c),(ii (rd v72 (tn v74)).d),(ii v2)])) nn)) (ww o1 (ww o0 (tt k0 nn))))))))))) (fun k0=>(sl Jm 22 [] ⟨[1,2,3,4,0,5,6,7,8,10],[],u5b,u5d⟩ ⟨[],[],[]⟩ (bl 2 0) (pp (fl aH (fl aD nn)) (tt k0 nn)))))
 | .h5 v2 v8 bY bJ aU aD bC bD bV bH bO aB=>(lb (fun k0=>(lo fun o0=>(lo fun o1=>(sl Jm 34 [] ⟨(List.range 11),[],slmN5,slmM5⟩ ⟨[],[.cells [.len (y7f aD v8 v2).length,.keep,.keep,.keep],.rowed 6 (y7f aD v8 v2).length (Zz (y7f aD v8 v2)),.keep,.keep,.keep,.keep,.keep,.keep,.keep,.keep,.keep],[]⟩ [true] (pp (xL aD.length (y7f aD v8 v2).length) (pp (xL aD.length (y7f aD v8 v2).length) (pp (xS aD.length (Xn (Zz aD) (0+(tn v8)) 5 [(ii v2)]) (Zz (y7f aD v8 v2))) (pp (pp (xF (Xn (Zz aD) (0+(tn v8)) 5 [(ii v2)])) (fl bO nn)) (ww o1 (ww o0 (tt k0 nn))))))))))) (fun k0=>(sl Jm 36 [] ⟨[2,3,4,5,0,6,7,8,9,1],[],u5b,u5d⟩ ⟨[],[],[]⟩ (bl 2 0) (pp (fl bO (fl aD nn)) (tt k0 nn)))))
theorem x5n (l0:List R6):Xq prog (Zy prog 47) (slmC l0) (Zc prog 47 [(.dat l0.length (Zz l0))] true []) (y1l l0):=(lb (fun k0=>(lr 15 47 [1,0,1,0,0] 1 15 [(2,.nils),(3,(ii 4))] (sl Jm 18 [] ⟨[],[],[some [2,3]],[]⟩ ⟨[],[],[]⟩ [true] (tt k0 nn)))) (fun k0=>(sl Jm 41 [] ⟨[],[],slmN0,slmM0⟩ ⟨[],[],[]⟩ [false] (tt k0 nn))))
theorem v4p (l0:List R6) (n:Nat) (vs:List AVal) (h:Yj (Xu l0) n (y1l l0)=.ret vs):Kv prog (Zy prog 47) (Zc prog 47 [(.dat l0.length (Zz l0))] true []) vs:=by have:=Zn (w3o l0) n _ (x5n l0);rwa [h] at this
def v2g (x y z:Int):Bool:=decide (z5j (z5j x y) z≥(-1000000))&&decide (z5k (z5k x y) z≤1000000)
theorem u8j (x y z:Int): ∃N,Yj (x8n x y z) N (y2r x y z)=.ret [.bool (v2g x y z)]:=⟨0,by
 unfold y2r v2g;cases decide (z5j (z5j x y) z≥(-1000000)) <;> rfl⟩
instance : DecidableEq R7:=Classical.typeDecidableEq _
def y0e (l m:List R7):Bool:=decide (l=m)
def z2g (l m:List R7):Bool:=decide (l.length≤1000000)
def eq7 (r s:R7):Bool:=(r.a == s.a)&&(((r.b == s.b)&&((r.c == s.c)&&((r.d == s.d)&&true)))&&(((r.e == s.e)&&((r.f == s.f)&&((r.g == s.g)&&true)))&&true))
theorem v2r (r s:R7):eq7 r s=true↔r=s:=by obtain ⟨a,b,c,d,e,f,g⟩:=r;obtain ⟨a',b',c',d',e',f',g'⟩:=s;simp [eq7,and_assoc]
theorem u3v (l m:List R7) (hl:l.length≤1000000) (hm:l.length=m.length): ∀(k i:Nat),i+k=l.length→ ∃N,Yj (z6k l m) N (.to (.h0 (i:Int)))=.ret [.bool (decide (l.drop i=m.drop i))]
 | 0,i,h=>by refine ⟨1,?_⟩;rw [Zv,Au (by omega),Au (by omega)];simp (disch:=omega) only [z6k,Yw,Aa,Zg,Av]
 | k+1,i,h=>by
  have hi:i<l.length:=by omega
  obtain ⟨N,hN⟩:=u3v l m hl hm k (i+1) (by omega);refine ⟨N+1,?_⟩;rw [Zv,Ym hi,Ym (show i<m.length by omega)];have e:z6k l m (.h0 (i:Int))=bif !(eq7 (rd l i) (rd m i)) then .ret [.bool false] else .to (.h0 ((i+1:Nat):Int)):=by simp (disch:=omega) only [z6k,eq7,Zs,Zt,Zp,Zx,Zk,Ai,Ab,Aa]
  rw [e];by_cases q:rd l i=rd m i
  ·rw [(v2r _ _).2 q,AG,Aa,hN]
   congr 3
   exact BF.2 ⟨fun h=>by rw [q,h],fun h=>(List.cons.inj h).2⟩
  ·rw [show eq7 (rd l i) (rd m i)=false from A7.2 fun h=>q ((v2r _ _).1 h),AK,Ab,Zg]
   congr 3
   exact (Ay fun h=>q (List.cons.inj h).1).symm
theorem u9t (l m:List R7) (h:z2g l m=true): ∃N,Yj (z6k l m) N (y2s l m)=.ret [.bool (y0e l m)]:=by
 have hl:l.length≤1000000:=AE h;unfold y2s;by_cases hm:l.length=m.length
 ·obtain ⟨N,hN⟩:=u3v l m hl hm l.length 0 (Ag _);refine ⟨N,?_⟩;rw [show ((l.length:Int) != (m.length:Int))=false by rw [hm];simp,Aa];exact hN
 ·refine ⟨0,?_⟩;rw [show ((l.length:Int) != (m.length:Int))=true by simp;omega,Ab,Zg]
  congr 3
  exact (Ay fun e=>hm (by rw [e])).symm
def slmX :List AVal:=[.nils,.int .i64 8]
def eF (l:List R6):Nat→Nat→Int
 | 0,_=>0
 | k+1,i=>bif v9i l (rd (D6.cuts l) i) then Xm (D6.inn l (rd (D6.cuts l) i)) else eF l k (i+1)
def slmE (l:List R6) (k i:Nat):List AVal:=[.nils,.int .i64 (eF l k i)]
section
variable (l:List R6) (hl:l.length≤400)
include hl
theorem u0d (i:Nat) (out:List R6) (last:List R4) (first fin x x':Int): ∀(k j:Nat) (acc:List R4),j+k=l.length→acc.length≤j→
  ∃n,∀N,Yj (Xu l) (N+n) (.to (.h3 (i:Int) (j:Int) out last first fin ((D6.cuts l).length) (Wf (Xv (D6.ends l))) x x' acc))=Yj (Xu l) N (.to (.h3 (i:Int) (l.length:Int) out last first fin ((D6.cuts l).length) (Wf (Xv (D6.ends l))) x x' (acc++D6.inn (l.drop j) x)))
 | 0,j,acc,h,ha=>by refine ⟨0,fun N=> ?_⟩;rw [Au (by omega),show D6.inn ([]:List R6) x=[] from rfl,AA,A4,show j=l.length by omega]
 | k+1,j,acc,h,ha=>by
  have hj:j<l.length:=by omega
  obtain ⟨n,hn⟩:=u0d i out last first fin x x' k (j+1) (acc++D6.inn [rd l j] x) (by omega) (by have:=D6.inn_length [rd l j] x;simp only [Az,Br] at*;omega)
  refine ⟨n+1,fun N=> ?_⟩;have e:D6.inn (l.drop j) x=D6.inn [rd l j] x++D6.inn (l.drop (j+1)) x:=by rw [Ym hj,←D6.inn_append];rfl
  rw [e,←AD,Zv,←AL,←hn N];by_cases h1:D6.lo (rd l j)≤x
  ·by_cases h2:x<D6.hi (rd l j)
   ·rw [D6.inn_t _ _ h1 h2];simp only [D6] at h1 h2 ⊢;simp (disch:=omega) only [Xu,Wy,Za,Zq,Zs,Zt,Yc,Yk,Yp,Zf,Zp,Zx,Ya,Zk,Ag,Av,Ai,Al,Ab,Aa]
   ·rw [D6.inn_f2 _ _ h2,AA];simp only [D6] at h1 h2;simp (disch:=omega) only [Xu,Wy,Yw,Za,Zq,Zs,Zt,Yc,Yk,Yp,Zf,Zp,Zx,Ya,Zk,Ag,Av,Ai,Al,Ab,Aa]
  ·rw [D6.inn_f1 _ _ h1,AA];simp only [D6] at h1;simp (disch:=omega) only [Xu,x8u,Za,Zq,Zs,Zt,Yc,Yk,Yp,Zf,Zp,Zx,Ya,Zk,Ag,Av,Ai,Al,Ab,Aa]
theorem u0c (i:Nat) (hi:i≤1000) (x x':Int) (s last:List R4) (first:Int) (inn:List R4) (hs:s.length≤1000): ∀(k j:Nat) (out:List R6),j+k=s.length→out.length≤10000000+j→
  ∃n,∀N,Yj (Xu l) (N+n) (.to (.h4 x x' s (s.length:Int) (j:Int) s (i:Int) out last first ((D6.cuts l).length) (Wf (Xv (D6.ends l))) inn))=Yj (Xu l) N (.to (.h2 ((i+1:Nat):Int) (out++(s.drop j).map (D6.put x x')) last first x' ((D6.cuts l).length) (Wf (Xv (D6.ends l)))))
 | 0,j,out,h,ho=>by have _u:=hl;refine ⟨1,fun N=> ?_⟩;rw [Au (by omega),Zv];simp (disch:=omega) only [Xu,Yw,Zp,Zx,Aa,Bg,AA]
 | k+1,j,out,h,ho=>by
  obtain ⟨n,hn⟩:=u0c i hi x x' s last first inn hs k (j+1) (out++[D6.put x x' (rd s j)]) (by omega) (by simp;omega)
  refine ⟨n+1,fun N=> ?_⟩;have:=hn N;rw [Ym (show j<s.length by omega),AW,←AD,Zv];simp (disch:=omega) only [Xu,Za,Zq,Zs,Zt,Yc,Yk,Yp,Zf,Zp,Zx,Ya,Zk,Ag,Av,Ai,Al,Ab,Aa];rw [AL] at this;exact this
theorem u0b (i:Nat) (hi:i≤1000) (x x' fin:Int) (s last:List R4) (first:Int) (inn:List R4): ∀(k j:Nat) (out:List R6),j+k=out.length→out.length≤10000000→
  ∃n,∀N,Yj (Xu l) (N+n) (.to (.h5 x' (j:Int) x s (i:Int) out last first fin ((D6.cuts l).length) (Wf (Xv (D6.ends l))) inn))=Yj (Xu l) N (.to (.h2 ((i+1:Nat):Int) (D6.grow out j x') last first x' ((D6.cuts l).length) (Wf (Xv (D6.ends l)))))
 | 0,j,out,h,ho=>by have _u:=hl;refine ⟨1,fun N=> ?_⟩;rw [D6.grow_nil _ _ _ (by omega),Zv];simp (disch:=omega) only [Xu,Yw,Zp,Zx,Aa]
 | k+1,j,out,h,ho=>by
  obtain ⟨n,hn⟩:=u0b i hi x x' fin s last first inn k (j+1) (out.set j (D6.ext x' (rd out j))) (by simp;omega) (by simpa using ho)
  refine ⟨n+1,fun N=> ?_⟩;have:=hn N;rw [D6.grow_set out j _ (by omega)] at this;rw [←AD,Zv];simp (disch:=omega) only [Xu,Za,Zq,Zs,Zt,Yc,Yk,Yp,Zf,Zp,Zx,Ya,Zk,Ag,Av,Ai,Al,Ab,Aa];exact this
theorem w8c : ∀(k i:Nat) (s:Sw R6 R4),k=(D6.cuts l).length - 1 - i→i≤(D6.cuts l).length →s.out.length≤i*1000→s.last.length≤1000→s.first≤s.out.length→
  ∃n,Yj (Xu l) n (.to (.h2 ((i+1:Nat):Int) s.out s.last (s.first:Int) s.fin ((D6.cuts l).length) (Wf (Xv (D6.ends l)))))=.ret ((bif okF l k i then Qx (D6.go l k i s).out else slmE l k i))
 | 0,i,s,h,hi,ho,hla,hf=>by
  have hc:=D6.cuts_length l;refine ⟨1,?_⟩;rw [Zv,show D6.go l 0 i s=s from rfl,show okF l 0 i=true from rfl,Ab];unfold Qx;by_cases q:(s.out.length:Int)>400
  ·simp (disch:=omega) only [Xu,Yw,Yo,Ab,Aa,Zg]
  ·simp (disch:=omega) only [Xu,Za,Yw,Xb,Ab,Aa,Zg]
 | k +1,i,s,h,hi,ho,hla,hf=>by
  have hc:=D6.cuts_length l;have hi1:i+1<(D6.cuts l).length :=by omega
  have hpl:(Wf (Xv (D6.ends l))).length =2*l.length:=by rw [Ur,Xo,D6.ends_length]
  have r0:rd (Wf (Xv (D6.ends l))) i=rd (D6.cuts l) i:=z4b _ _ (by show i<(D6.cuts l).length;omega);have r1:rd (Wf (Xv (D6.ends l))) (i+1)=rd (D6.cuts l) (i+1):=z4b _ _ (by show i+1<(D6.cuts l).length;omega);have hbig:i*1000≤1000*1000:=AI _ (by omega);have hsl:=u4h l (rd (D6.cuts l) i);have hsd:D6.sec l (rd (D6.cuts l) i)=Zb (D6.inn l (rd (D6.cuts l) i)):=rfl;obtain ⟨n3,h3⟩:=u0d l hl (i+1) s.out s.last (s.first:Int) s.fin (rd (D6.cuts l) i) (rd (D6.cuts l) (i+1)) l.length 0 [] (Ag _) (An _);simp only [A2,Bk,z2z] at h3;have w1:Ui (D6.inn l (rd (D6.cuts l) i))=true:=rfl;have w2:Wb s.last (Zb (D6.inn l (rd (D6.cuts l) i)))=true:=Ah (by omega);have ol:=D6.one_length l (rd (D6.cuts l) i) (rd (D6.cuts l) (i+1)) s;have st0: ∀N,Yj (Xu l) (N+n3+1) (.to (.h2 ((i+1:Nat):Int) s.out s.last (s.first:Int) s.fin ((D6.cuts l).length) (Wf (Xv (D6.ends l)))))=Yj (Xu l) N (.to (.h3 ((i+1:Nat):Int) (l.length:Int) s.out s.last (s.first:Int) s.fin ((D6.cuts l).length) (Wf (Xv (D6.ends l))) (rd (D6.cuts l) i) (rd (D6.cuts l) (i+1)) (D6.inn l (rd (D6.cuts l) i)))):=fun N=>by
   rw [←h3 N,Zv];have e1:wrap .i64 (((i+1:Nat):Int) - 1)=(i:Int):=by rw [Zo];exact Zp (by omega)
   simp (disch:=omega) only [Xu,e1,r0,r1,Za,Zq,Zs,Zt,Yc,Yk,Yp,Zf,Zp,Zx,Ya,Zk,Ag,Av,Ai,Al,Ab,Aa]
  rcases Ye (v9i l (rd (D6.cuts l) i)) with q0 | q0
  ·refine ⟨1+n3+1,?_⟩;rw [st0 1,Zv];simp only [okF,slmE,eF,q0,Ab,Aa];have q0':(Xm (D6.inn l (rd (D6.cuts l) i)) != 0)=true:=q0;simp (disch:=omega) only [Xu,Za,Zq,Yw,q0',w1,Ab,Aa,Zg]
  have q0':(Xm (D6.inn l (rd (D6.cuts l) i)) != 0)=false:=q0;rcases Ye (decide (0<(D6.sec l (rd (D6.cuts l) i)).length)&&((s.fin == rd (D6.cuts l) i)&&D6.same s.last (D6.sec l (rd (D6.cuts l) i)))) with q | q
  ·obtain ⟨n5,h5⟩:=u0b l hl (i+1) (by omega) (rd (D6.cuts l) i) (rd (D6.cuts l) (i+1)) s.fin (D6.sec l (rd (D6.cuts l) i)) s.last (s.first:Int) (D6.inn l (rd (D6.cuts l) i)) (s.out.length - s.first) s.first s.out (by omega) (by omega)
   have e:D6.one l (rd (D6.cuts l) i) (rd (D6.cuts l) (i+1)) s=⟨D6.grow s.out s.first (rd (D6.cuts l) (i+1)),s.last,s.first,rd (D6.cuts l) (i+1)⟩:=by unfold Dim.one;rw [q];rfl
   obtain ⟨n0,h0⟩:=w8c k (i+1) (D6.one l (rd (D6.cuts l) i) (rd (D6.cuts l) (i+1)) s) (by omega) (by omega) (by omega) (by rw [e];exact hla) (by rw [e];simpa [Dim.grow_length] using hf);refine ⟨n0+n5+1+n3+1,?_⟩;rw [st0 (n0+n5+1),Zv];simp only [Ac,Aq] at q;obtain ⟨q1,q2,q3⟩:=q;have q3':Jh s.last (Zb (D6.inn l (rd (D6.cuts l) i)))=true:=q3;rw [hsd] at q1;simp (disch:=omega) only [Xu,Za,Zq,Yw,Yo,q0',q2,q3',w1,w2,Ab,Aa];rw [←hsd,h5 n0];simp only [okF,slmE,eF,q0,Aa];simp only [Dim.go];rw [e] at h0 ⊢;exact h0
  ·obtain ⟨n4,h4⟩:=u0c l hl (i+1) (by omega) (rd (D6.cuts l) i) (rd (D6.cuts l) (i+1)) (D6.sec l (rd (D6.cuts l) i)) (D6.sec l (rd (D6.cuts l) i)) (s.out.length:Int) (D6.inn l (rd (D6.cuts l) i)) hsl (D6.sec l (rd (D6.cuts l) i)).length 0 s.out (Ag _) (by omega);simp only [A2,z2z] at h4;have e:D6.one l (rd (D6.cuts l) i) (rd (D6.cuts l) (i+1)) s=⟨s.out++(D6.sec l (rd (D6.cuts l) i)).map (D6.put (rd (D6.cuts l) i) (rd (D6.cuts l) (i+1))),D6.sec l (rd (D6.cuts l) i),s.out.length,rd (D6.cuts l) (i+1)⟩:=by unfold Dim.one;rw [q];rfl
   obtain ⟨n0,h0⟩:=w8c k (i+1) (D6.one l (rd (D6.cuts l) i) (rd (D6.cuts l) (i+1)) s) (by omega) (by omega) (by omega) (by rw [e];exact hsl) (by rw [e];simp);have hg:Yj (Xu l) 1 (.to (.h3 ((i+1:Nat):Int) (l.length:Int) s.out s.last (s.first:Int) s.fin ((D6.cuts l).length) (Wf (Xv (D6.ends l))) (rd (D6.cuts l) i) (rd (D6.cuts l) (i+1)) (D6.inn l (rd (D6.cuts l) i))))=.to (.h4 (rd (D6.cuts l) i) (rd (D6.cuts l) (i+1)) (D6.sec l (rd (D6.cuts l) i)) ((D6.sec l (rd (D6.cuts l) i)).length :Int) 0 (D6.sec l (rd (D6.cuts l) i)) ((i+1:Nat):Int) s.out (D6.sec l (rd (D6.cuts l) i)) (s.out.length:Int) ((D6.cuts l).length) (Wf (Xv (D6.ends l))) (D6.inn l (rd (D6.cuts l) i))):=by
    rw [show (1:Nat)=0+1 from rfl,Zv];rw [hsd] at q ⊢;have e3:D6.same s.last (Zb (D6.inn l (rd (D6.cuts l) i)))=Jh s.last (Zb (D6.inn l (rd (D6.cuts l) i))):=rfl;rw [e3] at q;by_cases q1:0<(Zb (D6.inn l (rd (D6.cuts l) i))).length
    ·rw [Ah q1,Al] at q;rcases Ye (s.fin == rd (D6.cuts l) i) with q2 | q2
     ·rw [q2,Al] at q;simp (disch:=omega) only [Xu,Za,Zq,Yw,Yo,q0',q2,q,w1,w2,Ab,Aa];rfl
     ·simp (disch:=omega) only [Xu,Za,Zq,Yw,Yo,q0',q2,w1,w2,Ab,Aa];rfl
    ·simp (disch:=omega) only [Xu,Za,Zq,Yw,Xb,q0',w1,w2,Ab,Aa];rfl
   refine ⟨n0+n4+1+n3+1,?_⟩;rw [st0 (n0+n4+1),z7v _ (n0+n4) 1,hg,h4 n0];simp only [okF,slmE,eF,q0,Aa];simp only [Dim.go];rw [e] at h0 ⊢;exact h0
theorem u0e : ∀(k i:Nat) (acc:List Int),i+k=l.length→acc=D6.ends (l.take i)→ ∃n,Yj (Xu l) n (.to (.h1 (i:Int) acc))=.ret ((bif okF l ((D6.cuts l).length - 1) 0 then Qx (D6.go l ((D6.cuts l).length - 1) 0 ⟨[],[],0,0⟩).out else slmE l ((D6.cuts l).length - 1) 0))
 | 0,i,acc,h,ha=>by
  have e:acc=D6.ends l:=by rw [ha,AU (by omega)]
  subst e;have hle:=D6.ends_length l;obtain ⟨n,hn⟩:=w8c l hl ((D6.cuts l).length - 1) 0 ⟨[],[],0,0⟩ (by omega) (AJ _) (AJ _) (AJ _) (AJ _);refine ⟨n+1,?_⟩;rw [Zv];simp (disch:=omega) only [Xu,Wv,z0a,cmpN_eq,Yw,Yk,Yp,Av,Ab,Aa];exact hn
 | k+1,i,acc,h,ha=>by
  have hle:=D6.ends_length (l.take i);have fH:acc.length≤2*i:=by rw [ha,hle];simp;omega
  obtain ⟨n,hn⟩:=u0e k (i+1) (acc++D6.ends [rd l i]) (by omega) (by
   rw [ha,Bn];have:l[i]? =some (rd l i):=by rw [Xp (show i<l.length by omega)];exact Ar _
   rw [this,D6.ends_append];rfl)
  refine ⟨n+1,?_⟩;rw [Zv];simp (disch:=omega) only [Xu,Za,Zq,Zs,Zt,Yc,Yk,Yp,Zf,Zp,Zx,Ya,Zk,Ag,Av,Ai,Al,Ab,Aa];exact hn
theorem u0f : ∀(k i:Nat),i+k=l.length→(∀s∈l.take i,Qu s=true)→ ∃n,Yj (Xu l) n (.to (.h0 (i:Int)))=.ret (bif l.all Qu then (bif okF l ((D6.cuts l).length - 1) 0 then Qx (D6.go l ((D6.cuts l).length - 1) 0 ⟨[],[],0,0⟩).out else slmE l ((D6.cuts l).length - 1) 0) else slmX)
 | 0,i,h,ht=>by have hv:l.all Qu=true:=As.2 fun s hs=>ht s (by rw [AU (by omega)];exact hs);obtain ⟨n,hn⟩:=u0e l hl l.length 0 [] (Ag _) rfl;refine ⟨n+1,?_⟩;rw [Zv,hv,Ab];simp (disch:=omega) only [Xu,Yw,Aa];exact hn
 | k+1,i,h,ht=>by
  have hi:i<l.length:=by omega
  have hs:Xu l (.h0 (i:Int))=bif Qu (rd l i) then .to (.h0 ((i+1:Nat):Int)) else .ret slmX:=by have e:u4j (rd l i).a (rd l i).b (rd l i).c (rd l i).d (rd l i).e (rd l i).f =Qu (rd l i):=rfl;simp (disch:=omega) only [Xu,e,z6q,x4c,x4d,Zt,Zp,Zx,Zk,Ai,Ab,Aa];rfl
  rcases Ye (Qu (rd l i)) with q | q
  ·obtain ⟨n,hn⟩:=u0f k (i+1) (by omega) (fun s hs=>by
    rw [Bn] at hs;have e:l[i]? =some (rd l i):=by rw [Xp hi];exact Ar _
    rw [e] at hs;simp only [Cd,AC,AM] at hs;rcases hs with hs | rfl
    ·exact ht s hs
    ·exact q)
   refine ⟨n+1,?_⟩;rw [Zv,hs,q,Ab];exact hn
  ·have hv:l.all Qu=false:=A7.2 fun e=>by have:=As.1 e (rd l i) (by rw [Xp hi];exact AS hi);rw [this] at q;cases q
   refine ⟨1,?_⟩;rw [Zv,hv,Aa,hs,q,Aa,Zg]
end
theorem v8z {l:List R6}: ∀(k i:Nat),okF l k i=false→(eF l k i != 0)=true
 | 0,i,h=>by cases h
 | k+1,i,h=>by
  unfold okF at h;unfold eF;rcases Ye (v9i l (rd (D6.cuts l) i)) with q | q
  ·rw [q,Ab];exact q
  ·rw [q,Aa] at h ⊢;exact v8z k (i+1) h
def Vg (l:List R6):Int:=bif decide (400<l.length) then 4 else bif l.all Qu then (bif okF l ((D6.cuts l).length - 1) 0 then y5c (D6.out l).length else eF l ((D6.cuts l).length - 1) 0) else 8
def Yz (l:List R6):List R6:=x1a (Vg l) (D6.out l)
def z1m (l:List R6):Bool:=true
theorem u4z (l:List R6) (h:z1m l=true): ∃n,Yj (Xu l) n (y1l l)=.ret (y3q (Vg l) (D6.out l)):=by
 unfold y1l Vg;by_cases h:400<l.length
 ·refine ⟨0,?_⟩;rw [Ah h,Yo (show (l.length:Int)>400 by omega)];rfl
 ·obtain ⟨n,hn⟩:=u0f l (by omega) l.length 0 (Ag _) (fun s hs=>by simp at hs);refine ⟨n,?_⟩;rw [Ay h,Xb (show¬(l.length:Int)>400 by omega),Aa,Aa];rw [z2z] at hn;rw [hn];rcases Ye (l.all Qu) with q | q
  ·rw [q,Ab,Ab];rcases Ye (okF l ((D6.cuts l).length - 1) 0) with q2 | q2
   ·rw [q2,Ab,Ab,z8h];rfl
   ·rw [q2,Aa,Aa,z2k _ (v8z _ _ q2)];rfl
  ·rw [q];rfl
def fSlm :List AVal→Option (AVal×Bool)
 | [a0]=>match asL R6 a0 with
  | some (L0,g0,n0)=>some (.tup [.dat (Yz L0).length (Zz (Yz L0)),.int .i64 (Vg L0)],isT R6 n0 g0&&(z1m L0))
  | _=>none
 | _=>none
theorem u8r {S:Specs} (hS:Zj prog S):Zj prog (S.with v0l fSlm):=by
 refine w7a hS (by kernel_rfl) fun args v h=> ?_;unfold fSlm at h;split at h
 ·rename_i a0;split at h
  ·rename_i L0 g0 n0 e0;simp only [Ae,Ad,Ac] at h;obtain ⟨rfl,ho0,hw⟩:=h;obtain ⟨N,hN⟩:=u4z L0 hw;exact ⟨_,_,(.cons (Yr e0 ho0) .nil),z0r _ _,v4p L0 N _ hN,3,z6d _ _⟩
  ·cases h
 ·cases h
def fFin :List AVal→Option (AVal×Bool)
 | [.agg [.int .i64 aR,.int .i64 aP,.int .i64 aQ]]=>some (.bool (v2g aR aP aQ),true)
 | _=>none
theorem u9o {S:Specs} (hS:Zj prog S):Zj prog (S.with u2n fFin):=by
 refine z3m hS (by kernel_rfl) fun args v h=> ?_;unfold fFin at h;split at h
 ·rename_i aR aP aQ;simp only [Ae,Ad,Cp] at h;subst h;obtain ⟨N,hN⟩:=u8j aR aP aQ;exact ⟨_,_,(.cons (.refl _) .nil),rfl,v8p aR aP aQ N _ hN,3,rfl⟩
 ·cases h
def fEqq :List AVal→Option (AVal×Bool)
 | [a0,a1]=>match asL R7 a0,asL R7 a1 with
  | some (L0,g0,n0),some (L1,g1,n1)=>some (.bool (y0e L0 L1),isT R7 n0 g0&&(isT R7 n1 g1&&(z2g L0 L1)))
  | _,_=>none
 | _=>none
theorem u9p {S:Specs} (hS:Zj prog S):Zj prog (S.with nEq7 fEqq):=by
 refine z3m hS (by kernel_rfl) fun args v h=> ?_;unfold fEqq at h;split at h
 ·rename_i a0 a1;split at h
  ·rename_i L0 g0 n0 L1 g1 n1 e0 e1;simp only [Ae,Ad,Ac] at h;obtain ⟨rfl,ho0,ho1,hw⟩:=h;obtain ⟨N,hN⟩:=u9t L0 L1 hw;exact ⟨_,_,(.cons (Yr e0 ho0) (.cons (Yr e1 ho1) .nil)),rfl,v8u L0 L1 N _ hN,3,rfl⟩
  ·cases h
 ·cases h
def Mg :Specs:=(((Me.with u2n fFin).with nEq7 fEqq).with v0l fSlm)
theorem z3f :Zj prog Mg:=(u8r (u9p (u9o Jm)))
-- h0: index into an array (choices [true, false, false, false, false, false, false])
inductive mckS where
 | h0 (v14:Int)
def mckC (l0:List R7):mckS→Cfg
 | .h0 v14=>⟨⟨70,0,true⟩,none,(Zd prog 24 [1,1,1,0,1,0,0] 0),none,(Zy prog 3),⟨Yd [(3,(.ptr 0 0)),(12,(.dat l0.length (Zz l0))),(13,(ii (l0.length:Int))),(14,(ii v14))],Uy [⟨[(.fn 105 []),(.fn 106 []),(.fn 107 []),(.fn 108 []),(.fn 109 []),(.fn 110 []),(.fn 111 []),(.fn 112 []),(.fn 113 [])],85,none⟩] 0,1,[],true⟩,[],.leaf⟩
def v7m :List (Option (List Nat)):=[some [3,12,13,14]]
def v7n :List (Option (List Nat)):=[]
def z6h (l0:List R7):mckS→Xf mckS
 | .h0 v14=>(bif (decide (v14<(l0.length:Int))) then (bif ((decide (0≤v14∧v14<(l0.length:Int)))&&true) then (bif (decide ((rd l0 v14.toNat).a >5)) then (.ret [(.int .i64 8)]) else (bif (!(v2g (rd l0 v14.toNat).b (rd l0 v14.toNat).c (rd l0 v14.toNat).d)) then (.ret [(.int .i64 8)]) else (bif (!(v2g (rd l0 v14.toNat).e (rd l0 v14.toNat).f (rd l0 v14.toNat).g)) then (.ret [(.int .i64 8)]) else (bif (decide ((wrap IntKind.u8 (Int.tdiv (rd l0 v14.toNat).a 2))=Int.ofNat 0)) then (bif ((rd l0 v14.toNat).b != (rd l0 v14.toNat).e) then (.ret [(.int .i64 8)]) else (bif (decide ((rd l0 v14.toNat).c ≥(rd l0 v14.toNat).f)) then (.ret [(.int .i64 8)]) else (bif (decide ((rd l0 v14.toNat).d ≥(rd l0 v14.toNat).g)) then (.ret [(.int .i64 8)]) else (.to (.h0 (wrap .i64 (v14+1))))))) else (bif (decide ((wrap IntKind.u8 (Int.tdiv (rd l0 v14.toNat).a 2))=Int.ofNat 1)) then (bif ((rd l0 v14.toNat).c != (rd l0 v14.toNat).f) then (.ret [(.int .i64 8)]) else (bif (decide ((rd l0 v14.toNat).b ≥(rd l0 v14.toNat).e)) then (.ret [(.int .i64 8)]) else (bif (decide ((rd l0 v14.toNat).d ≥(rd l0 v14.toNat).g)) then (.ret [(.int .i64 8)]) else (.to (.h0 (wrap .i64 (v14+1))))))) else (bif (decide ((wrap IntKind.u8 (Int.tdiv (rd l0 v14.toNat).a 2))=Int.ofNat 2)) then (bif ((rd l0 v14.toNat).d != (rd l0 v14.toNat).g) then (.ret [(.int .i64 8)]) else (bif (decide ((rd l0 v14.toNat).b ≥(rd l0 v14.toNat).e)) then (.ret [(.int .i64 8)]) else (bif (decide ((rd l0 v14.toNat).c ≥(rd l0 v14.toNat).f)) then (.ret [(.int .i64 8)]) else (.to (.h0 (wrap .i64 (v14+1))))))) else .stuck)))))) else .stuck) else (.ret [(.int .i64 0)]))
def y2e (l0:List R7):Xf mckS:=(bif (decide ((l0.length:Int)>3000)) then (.ret [(.int .i64 4)]) else (.to (.h0 0)))
theorem w4x (l0:List R7): ∀s,Xq prog (Zy prog 24) (mckC l0) (mckC l0 s) (z6h l0 s)
 | .h0 v14=>(lb (fun k0=>(lo fun aG=>(lb (fun k1=>(lr 70 24 [1,1,1,0,1,0,0,1,1,0,0,1,0,1,0,0] 1 3 [(2,(ii 8))] (sl z3f 40 [] ⟨[],[],[some [2]],[]⟩ ⟨[],[],[]⟩ (trs 10 []) (tt k1 (ww aG (tt k0 nn)))))) (fun k1=>(lb (fun k2=>(lr 70 24 [1,1,1,0,1,0,0,1,1,0,0,1,0,1,0,0] 1 3 [(2,(ii 8))] (sl z3f 40 [] ⟨[],[],[some [2]],[]⟩ ⟨[],[],[]⟩ (bl 10 993) (tt k2 (tt k1 (ww aG (tt k0 nn))))))) (fun k2=>(lb (fun k3=>(lr 70 24 [1,1,1,0,1,0,0,1,1,0,0,1,0,1,0,0] 1 3 [(2,(ii 8))] (sl z3f 40 [] ⟨[],[],[some [2]],[]⟩ ⟨[],[],[]⟩ (bl 10 513) (tt k3 (tt k2 (tt k1 (ww aG (tt k0 nn)))))))) (fun k3=>(lb (fun k4=>(lb (fun k5=>(lr 70 24 [1,1,1,0,1,0,0,1,1,0,0,1,1,1,1,1,0,0] 1 3 [(2,(ii 8))] (sl z3f 124 [] ⟨[],[],[some [2]],[]⟩ ⟨[],[],[]⟩ (bl 22 4192257) (tt k5 (ww k4 (tt k3 (tt k2 (tt k1 (ww aG (tt k0 nn)))))))))) (fun k5=>(lb (fun k6=>(lr 70 24 [1,1,1,0,1,0,0,1,1,0,0,1,1,1,1,1,0,0] 1 3 [(2,(ii 8))] (sl z3f 124 [] ⟨[],[],[some [2]],[]⟩ ⟨[],[],[]⟩ (bl 22 4128769) (tt k6 (tt k5 (ww k4 (tt k3 (tt k2 (tt k1 (ww aG (tt k0 nn))))))))))) (fun k6=>(lb (fun k7=>(lr 70 24 [1,1,1,0,1,0,0,1,1,0,0,1,1,1,1,1,0,0] 1 3 [(2,(ii 8))] (sl z3f 124 [] ⟨[],[],[some [2]],[]⟩ ⟨[],[],[]⟩ (bl 22 2097153) (tt k7 (tt k6 (tt k5 (ww k4 (tt k3 (tt k2 (tt k1 (ww aG (tt k0 nn)))))))))))) (fun k7=>(sl z3f 127 [] ⟨[0],[],v7m,v7n⟩ ⟨[],[],[]⟩ (bl 22 1) (tt k7 (tt k6 (tt k5 (ww k4 (tt k3 (tt k2 (tt k1 (ww aG (tt k0 nn))))))))))))))))) (fun k4=>(lb (fun k5=>(lb (fun k6=>(lr 70 24 [1,1,1,0,1,0,0,1,1,0,0,1,1,1,1,1,0,0] 1 3 [(2,(ii 8))] (sl z3f 124 [] ⟨[],[],[some [2]],[]⟩ ⟨[],[],[]⟩ (bl 23 8385537) (tt k6 (ww k5 (tt k3 (tt k2 (tt k1 (ww aG (tt k0 nn)))))))))) (fun k6=>(lb (fun k7=>(lr 70 24 [1,1,1,0,1,0,0,1,1,0,0,1,1,1,1,1,0,0] 1 3 [(2,(ii 8))] (sl z3f 124 [] ⟨[],[],[some [2]],[]⟩ ⟨[],[],[]⟩ (bl 23 8258561) (tt k7 (tt k6 (ww k5 (tt k3 (tt k2 (tt k1 (ww aG (tt k0 nn))))))))))) (fun k7=>(lb (fun k8=>(lr 70 24 [1,1,1,0,1,0,0,1,1,0,0,1,1,1,1,1,0,0] 1 3 [(2,(ii 8))] (sl z3f 124 [] ⟨[],[],[some [2]],[]⟩ ⟨[],[],[]⟩ (bl 23 4195329) (tt k8 (tt k7 (tt k6 (ww k5 (tt k3 (tt k2 (tt k1 (ww aG (tt k0 nn)))))))))))) (fun k8=>(sl z3f 127 [] ⟨[0],[],v7m,v7n⟩ ⟨[],[],[]⟩ (bl 23 1025) (tt k8 (tt k7 (tt k6 (ww k5 (tt k3 (tt k2 (tt k1 (ww aG (tt k0 nn))))))))))))))))) (fun k5=>(lb (fun k6=>(lb (fun k7=>(lr 70 24 [1,1,1,0,1,0,0,1,1,0,0,1,1,1,1,1,0,0] 1 3 [(2,(ii 8))] (sl z3f 124 [] ⟨[],[],[some [2]],[]⟩ ⟨[],[],[]⟩ (bl 24 16772097) (tt k7 (ww k6 (tt k3 (tt k2 (tt k1 (ww aG (tt k0 nn)))))))))) (fun k7=>(lb (fun k8=>(lr 70 24 [1,1,1,0,1,0,0,1,1,0,0,1,1,1,1,1,0,0] 1 3 [(2,(ii 8))] (sl z3f 124 [] ⟨[],[],[some [2]],[]⟩ ⟨[],[],[]⟩ (bl 24 16518145) (tt k8 (tt k7 (ww k6 (tt k3 (tt k2 (tt k1 (ww aG (tt k0 nn))))))))))) (fun k8=>(lb (fun k9=>(lr 70 24 [1,1,1,0,1,0,0,1,1,0,0,1,1,1,1,1,0,0] 1 3 [(2,(ii 8))] (sl z3f 124 [] ⟨[],[],[some [2]],[]⟩ ⟨[],[],[]⟩ (bl 24 8391681) (tt k9 (tt k8 (tt k7 (ww k6 (tt k3 (tt k2 (tt k1 (ww aG (tt k0 nn)))))))))))) (fun k9=>(sl z3f 127 [] ⟨[0],[],v7m,v7n⟩ ⟨[],[],[]⟩ (bl 24 3073) (tt k9 (tt k8 (tt k7 (ww k6 (tt k3 (tt k2 (tt k1 (ww aG (tt k0 nn))))))))))))))))) (fun k6=>trivial)))))))))))))) (fun k0=>(lr 70 3 [1,1,1,1,1,1,1,0] 1 3 [(2,(ii 0))] (sl z3f 11 [] ⟨[],[],[some [2]],[]⟩ ⟨[],[],[]⟩ [false] (tt k0 nn)))))
theorem x7l (l0:List R7):Xq prog (Zy prog 24) (mckC l0) (Zc prog 24 [(.dat l0.length (Zz l0))] true []) (y2e l0):=(lb (fun k0=>(lr 70 24 [1,0,1,0,0] 1 3 [(2,(ii 4))] (sl z3f 16 [] ⟨[],[],[some [2]],[]⟩ ⟨[],[],[]⟩ [true] (tt k0 nn)))) (fun k0=>(sl z3f 41 [] ⟨[1],[],v7m,v7n⟩ ⟨[],[],[]⟩ [false] (tt k0 nn))))
theorem v7l (l0:List R7) (n:Nat) (vs:List AVal) (h:Yj (z6h l0) n (y2e l0)=.ret vs):Kv prog (Zy prog 24) (Zc prog 24 [(.dat l0.length (Zz l0))] true []) vs:=by have:=Zn (w4x l0) n _ (x7l l0);rwa [h] at this
def w0a (r:R7):Bool:=decide (r.a≤5)&&(v2g r.b r.c r.d&&(v2g r.e r.f r.g&&
 (bif decide (r.a<2) then (r.b == r.e)&&(decide (r.c<r.f)&&decide (r.d<r.g)) else bif decide (r.a<4) then (r.c == r.f)&&(decide (r.b<r.e)&&decide (r.d<r.g)) else (r.d == r.g)&&(decide (r.b<r.e)&&decide (r.c<r.f)))))
def z3k (L:List R7):Int:=bif decide (3000<L.length) then 4 else bif L.all w0a then 0 else 8
def We (L:List R7):Bool:=L.all fun r=>decide (0≤r.a)&&decide (r.a<256)
theorem v1x (a b:Int):decide (a≥b)= !decide (a<b):=by
 by_cases h:a<b
 ·rw [Ah h];exact Ay (by omega)
 ·rw [Ay h];exact Ah (by omega)
theorem u4o {a:Int} (h0:0≤a) (h5:a≤5):wrap IntKind.u8 (Int.tdiv a 2)=(if a<2 then 0 else if a<4 then 1 else 2):=by
 have:a=0∨a=1∨a=2∨a=3∨a=4∨a=5:=by omega
 rcases this with rfl | rfl | rfl | rfl | rfl | rfl <;> rfl
theorem u3j (L:List R7) (hl:L.length≤3000) (ho:We L=true): ∀(k i:Nat),i+k=L.length→ ∃N,Yj (z6h L) N (.to (.h0 (i:Int)))=.ret [.int .i64 (bif (L.drop i).all w0a then 0 else 8)]
 | 0,i,h=>by refine ⟨1,?_⟩;rw [Zv,Au (by omega)];simp (disch:=omega) only [z6h,Yw,Aa];rfl
 | k +1,i,h=>by
  have hi:i<L.length:=by omega
  obtain ⟨N,hN⟩:=u3j L hl ho k (i+1) (by omega);have hb:0≤(rd L i).a ∧(rd L i).a <256:=by
   have:=As.1 ho (rd L i) (by rw [Xp hi];exact AS hi)
   simpa using this
  refine ⟨N+1,?_⟩;rw [Zv,Ym hi,List.all_cons];have e:z6h L (.h0 (i:Int))=bif w0a (rd L i) then .to (.h0 ((i+1:Nat):Int)) else .ret [.int .i64 8]:=by
   have hw:wrap .i64 ((i:Int)+1)=((i+1:Nat):Int):=Zp (by omega);simp (disch:=omega) only [z6h,Zs,Zt,hw,Zk,Ai,Ab];unfold w0a;by_cases h5:(rd L i).a ≤5
   ·rw [Xb (by omega),Wy h5,Aa,u4o hb.1 h5];cases v2g (rd L i).b (rd L i).c (rd L i).d <;> cases v2g (rd L i).e (rd L i).f (rd L i).g <;> try rfl
    by_cases h2:(rd L i).a <2
    ·rw [Aw h2,Zs h2];simp only [v1x,bne];cases ((rd L i).b == (rd L i).e) <;> cases decide ((rd L i).c <(rd L i).f) <;> cases decide ((rd L i).d <(rd L i).g) <;> rfl
    ·rw [At h2,Yw h2];by_cases h4:(rd L i).a <4
     ·rw [Aw h4,Zs h4];simp only [v1x,bne];cases ((rd L i).c == (rd L i).f) <;> cases decide ((rd L i).b <(rd L i).e) <;> cases decide ((rd L i).d <(rd L i).g) <;> rfl
     ·rw [At h4,Yw h4];simp only [v1x,bne];cases ((rd L i).d == (rd L i).g) <;> cases decide ((rd L i).b <(rd L i).e) <;> cases decide ((rd L i).c <(rd L i).f) <;> rfl
   ·rw [Yo (by omega),x8u h5];rfl
  rw [e];rcases Ye (w0a (rd L i)) with q | q
  ·rw [q,Ab,Al];exact hN
  ·rw [q,Aa,BC];exact Zg _ _ _
theorem u7o (L:List R7) (h:We L=true): ∃N,Yj (z6h L) N (y2e L)=.ret [.int .i64 (z3k L)]:=by
 unfold y2e z3k;by_cases g:3000<L.length
 ·refine ⟨0,?_⟩;rw [Yo (by omega),Ah g];rfl
 ·obtain ⟨N,hN⟩:=u3j L (by omega) h L.length 0 (Ag _);refine ⟨N,?_⟩;rw [Xb (by omega),Ay g];exact hN
def fMck :List AVal→Option (AVal×Bool)
 | [a0]=>match asL R7 a0 with
  | some (L0,g0,n0)=>some (.int .i64 (z3k L0),isT R7 n0 g0&&(We L0))
  | _=>none
 | _=>none
theorem u9g {S:Specs} (hS:Zj prog S):Zj prog (S.with v0q fMck):=by
 refine z3m hS (by kernel_rfl) fun args v h=> ?_;unfold fMck at h;split at h
 ·rename_i a0;split at h
  ·rename_i L0 g0 n0 e0;simp only [Ae,Ad,Ac] at h;obtain ⟨rfl,ho0,hw⟩:=h;obtain ⟨N,hN⟩:=u7o L0 hw;exact ⟨_,_,(.cons (Yr e0 ho0) .nil),rfl,v7l L0 N _ hN,3,rfl⟩
  ·cases h
 ·cases h
def Mh :Specs:=(Mg.with v0q fMck)
theorem Qv :Zj prog Mh:=(u9g z3f)
-- h2: index into an array (choices [true, true, true, false, false])
inductive msoS where
 | h0 (v6:List Int) (v39:Int)
 | h1 (bN:Nat) (v9:List R6) (v10:List R4) (bK:Nat) (v59:Int) (v60:Int) (aW:List Int)
 | h2 (bN:Nat) (v9:List R6) (v10:List R4) (v11:Int) (v12:Int) (bK:Nat) (v59:Int) (v60:Int) (v67:Int) (aW:List Int) (aA:List R4) (aI:List R4)
 | h3 (bN:Nat) (v9:List R6) (v10:List R4) (v11:Int) (v12:Int) (bK:Nat) (v59:Int) (v60:Int) (v132:List R4) (v133:Int) (v134:Int) (aW:List Int)
abbrev z3i (l0:List R7) (v67:Int):=(R4.mk (rd l0 (tn v67)).b (rd l0 (tn v67)).c (rd l0 (tn v67)).e (rd l0 (tn v67)).f)
abbrev y8e (v9:List R6) (v132:List R4) (v134:Int) (v12:Int) (aW:List Int) (v11:Int):=(v9++[(R6.mk (rd v132 (tn v134)).a (rd v132 (tn v134)).b v12 (rd v132 (tn v134)).c (rd v132 (tn v134)).d (rd aW (0+(tn (wr (v11+1))))))])
abbrev y8d (v6:List Int):=(Wf (Yx v6.length (cOf (Zz (Xv (Yx v6.length (cOf (Zz v6))))))))
def w1j :ABlk:=⟨[(.fn 111 []),(.fn 112 []),(.fn 113 [])],84,none⟩
abbrev z5o (aA:List R4):=(cvT (Zb (cvT aA)))
def msoC (l0:List R7):msoS→Cfg
 | .h0 v6 v39=>⟨⟨186,0,true⟩,none,(Zd prog 22 [1,1,1,1,0,1,0,0] 0),none,(Zy prog 15),⟨Yd [(0,(.dat l0.length (Zz l0))),(5,(.ptr 0 0)),(6,(.sla 1 1 0 v6.length (.un 1))),(37,(.dat l0.length (Zz l0))),(38,(ii (l0.length:Int))),(39,(ii v39))],Uy [w1j,⟨rows v6.length (Zz v6),3,some ⟨1,v6.length,(Zz v6)⟩⟩] 0,2,[],true⟩,[],.leaf⟩
 | .h1 bN v9 v10 bK v59 v60 aW=>⟨⟨186,0,true⟩,none,(Zd prog 22 [1,1,1,1,1,1,1,1,1,0,1,0,0] 0),none,(Zy prog 15),⟨Yd [(0,(.dat l0.length (Zz l0))),(5,(.ptr 0 0)),(6,(.sla 1 1 0 bN (.un 1))),(9,(.sla 2 6 0 v9.length (.un 6))),(10,(.dat v10.length (Zz v10))),(58,(.sla 1 1 0 bK (.un 1))),(59,(ii v59)),(60,(ii v60))],Uy [w1j,⟨rows aW.length (Zz aW),3,some ⟨1,aW.length,(Zz aW)⟩⟩,⟨rows v9.length (Zz v9),67,some ⟨6,v9.length,(Zz v9)⟩⟩] 0,3,[],true⟩,[],.leaf⟩
 | .h2 bN v9 v10 v11 v12 bK v59 v60 v67 aW aA aI=>⟨⟨186,0,true⟩,none,(Zd prog 22 [1,1,1,1,1,1,1,1,1,0,1,0,0,1,1,0,0,1,1,0,1,0,0] 0),none,(Zy prog 15),⟨Yd [(0,(.dat l0.length (Zz l0))),(5,(.ptr 0 0)),(6,(.sla 1 1 0 bN (.un 1))),(9,(.sla 5 6 0 v9.length (.un 6))),(10,(.dat v10.length (Zz v10))),(11,(ii v11)),(12,(ii v12)),(13,(.ptr 2 0)),(58,(.sla 1 1 0 bK (.un 1))),(59,(ii v59)),(60,(ii v60)),(65,(.dat l0.length (Zz l0))),(66,(ii (l0.length:Int))),(67,(ii v67))],Uy [w1j,⟨rows aW.length (Zz aW),3,some ⟨1,aW.length,(Zz aW)⟩⟩,⟨[(.sla 3 4 0 aA.length (.un 4)),(.sla 4 4 0 aI.length (.un 4))],101,none⟩,⟨rows aA.length (Zz aA),88,some ⟨4,aA.length,(Zz aA)⟩⟩,⟨rows aI.length (Zz aI),88,some ⟨4,aI.length,(Zz aI)⟩⟩,⟨rows v9.length (Zz v9),67,some ⟨6,v9.length,(Zz v9)⟩⟩] 0,6,[],true⟩,[],.leaf⟩
 | .h3 bN v9 v10 v11 v12 bK v59 v60 v132 v133 v134 aW=>⟨⟨186,0,true⟩,none,(Zd prog 22 [1,1,1,1,1,1,1,1,1,0,1,0,0,1,1,0,0,1,1,1,1,1,1,1,1,1,1,0,0] 0),none,(Zy prog 15),⟨Yd [(0,(.dat l0.length (Zz l0))),(5,(.ptr 0 0)),(6,(.sla 1 1 0 bN (.un 1))),(9,(.sla 2 6 0 v9.length (.un 6))),(10,(.dat v10.length (Zz v10))),(11,(ii v11)),(12,(ii v12)),(58,(.sla 1 1 0 bK (.un 1))),(59,(ii v59)),(60,(ii v60)),(132,(.dat v132.length (Zz v132))),(133,(ii v133)),(134,(ii v134))],Uy [w1j,⟨rows aW.length (Zz aW),3,some ⟨1,aW.length,(Zz aW)⟩⟩,⟨rows v9.length (Zz v9),67,some ⟨6,v9.length,(Zz v9)⟩⟩] 0,3,[],true⟩,[],.leaf⟩
def u6x :List (Option (List Nat)):=[some [0,5,6,37,38,39]]
def u6z :List (Option (List Nat)):=[]
def msoN1 :List (Option (List Nat)):=[some [0,5,6,9,10,58,59,60]]
def msoM1 :List (Option (List Nat)):=[]
def v0t :List (Option (List Nat)):=[some [0,5,6,9,10,11,12,13,58,59,60,65,66,67]]
def v0u :List (Option (List Nat)):=[]
def u6w :List (Option (List Nat)):=[some [0,5,6,9,10,11,12,58,59,60,132,133,134]]
def u6y :List (Option (List Nat)):=[]
def Wq (l0:List R7):msoS→Xf msoS
 | .h0 v6 v39=>(bif (decide (v39<(l0.length:Int))) then (bif ((decide (0≤v39∧v39<(l0.length:Int)))&&true) then (bif ((wrap IntKind.u8 (Int.tdiv (rd l0 v39.toNat).a 2)) == 2) then (bif (Nat.beq 1 1&&((decide (0+v6.length=v6.length))&&decide ((v6.length+1+1)*(8+1)≤Ju))) then (.to (.h0 (v6++[(rd l0 v39.toNat).d]) (wrap .i64 (v39+1)))) else .stuck) else (.to (.h0 v6 (wrap .i64 (v39+1))))) else .stuck) else (bif (decide (v6.length<4611686018427387904)) then (bif (decide (v6.length=v6.length)) then (.to (.h1 (v3e (Yx v6.length (cOf (Zz (Xv (Yx v6.length (cOf (Zz v6)))))))) ([]:List R6) ([]:List R4) (v3e (Yx v6.length (cOf (Zz (Xv (Yx v6.length (cOf (Zz v6)))))))) (((v3e (Yx v6.length (cOf (Zz (Xv (Yx v6.length (cOf (Zz v6)))))))):Nat):Int) 0 (Wf (Yx v6.length (cOf (Zz (Xv (Yx v6.length (cOf (Zz v6)))))))))) else .stuck) else .stuck))
 | .h1 bN v9 v10 bK v59 v60 aW=>(bif (decide (v60<v59)) then (bif ((decide (0≤v60∧v60<((bK:Nat):Int)))&&true) then (bif (decide ((0+v60.toNat)<aW.length)) then (.to (.h2 bN v9 v10 v60 (rd aW (0+v60.toNat)) bK v59 v60 0 aW ([]:List R4) ([]:List R4))) else .stuck) else .stuck) else (bif (z1m (cvT v9)) then (bif ((Vg (cvT v9)) != 0) then (.ret [.nils,(.int .i64 28)]) else (bif (z1u (cvT (Yz (cvT v9)))) then (bif ((Qa (cvT (Yz (cvT v9)))) != 0) then (.ret [.nils,(.int .i64 28)]) else (bif (z2g (cvT (Ve (cvT (Yz (cvT v9))))) (cvT l0)) then (bif (!(y0e (cvT (Ve (cvT (Yz (cvT v9))))) (cvT l0))) then (.ret [.nils,(.int .i64 28)]) else (.ret [(.dat (Yz (cvT v9)).length (Zz (Yz (cvT v9)))),(.int .i64 0)])) else .stuck)) else .stuck)) else .stuck))
 | .h2 bN v9 v10 v11 v12 bK v59 v60 v67 aW aA aI=>(bif (decide (v67<(l0.length:Int))) then (bif ((decide (0≤v67∧v67<(l0.length:Int)))&&true) then (bif ((wrap IntKind.u8 (Int.tdiv (rd l0 v67.toNat).a 2)) == 2) then (bif ((rd l0 v67.toNat).d == v12) then (bif (decide ((Int.tmod (rd l0 v67.toNat).a 2)=Int.ofNat 0)) then (bif (Nat.beq 4 4&&((decide (0+aA.length=aA.length))&&decide ((aA.length+1+1)*(32+1)≤Ju))) then (.to (.h2 bN v9 v10 v11 v12 bK v59 v60 (wrap .i64 (v67+1)) aW (aA++[(R4.mk (rd l0 v67.toNat).b (rd l0 v67.toNat).c (rd l0 v67.toNat).e (rd l0 v67.toNat).f)]) aI)) else .stuck) else (bif (decide ((Int.tmod (rd l0 v67.toNat).a 2)=Int.ofNat 1)) then (bif (Nat.beq 4 4&&((decide (0+aI.length=aI.length))&&decide ((aI.length+1+1)*(32+1)≤Ju))) then (.to (.h2 bN v9 v10 v11 v12 bK v59 v60 (wrap .i64 (v67+1)) aW aA (aI++[(R4.mk (rd l0 v67.toNat).b (rd l0 v67.toNat).c (rd l0 v67.toNat).e (rd l0 v67.toNat).f)]))) else .stuck) else .stuck)) else (.to (.h2 bN v9 v10 v11 v12 bK v59 v60 (wrap .i64 (v67+1)) aW aA aI))) else (.to (.h2 bN v9 v10 v11 v12 bK v59 v60 (wrap .i64 (v67+1)) aW aA aI))) else .stuck) else (bif (Ui (cvT aA)) then (bif (Ui (cvT aI)) then (bif (Qd .d (cvT v10) (cvT (Zb (cvT aA)))) then (bif (Qd .u (cvT (Wo .d (cvT v10) (cvT (Zb (cvT aA))))) (cvT (Zb (cvT aI)))) then (bif ((Xm (cvT aA)) != 0) then (.ret [.nils,(.int .i64 28)]) else (bif ((Xm (cvT aI)) != 0) then (.ret [.nils,(.int .i64 28)]) else (bif ((x2n .d (cvT v10) (cvT (Zb (cvT aA)))) != 0) then (.ret [.nils,(.int .i64 28)]) else (bif ((x2n .u (cvT (Wo .d (cvT v10) (cvT (Zb (cvT aA))))) (cvT (Zb (cvT aI)))) != 0) then (.ret [.nils,(.int .i64 28)]) else (.to (.h3 bN v9 (Wo .u (cvT (Wo .d (cvT v10) (cvT (Zb (cvT aA))))) (cvT (Zb (cvT aI)))) v11 v12 bK v59 v60 (Wo .u (cvT (Wo .d (cvT v10) (cvT (Zb (cvT aA))))) (cvT (Zb (cvT aI)))) (((Wo .u (cvT (Wo .d (cvT v10) (cvT (Zb (cvT aA))))) (cvT (Zb (cvT aI)))).length :Nat):Int) 0 aW)))))) else .stuck) else .stuck) else .stuck) else .stuck))
 | .h3 bN v9 v10 v11 v12 bK v59 v60 v132 v133 v134 aW=>(bif (decide (v134<v133)) then (bif ((decide (0≤v134∧v134<(v132.length:Int)))&&true) then (bif (decide ((wrap .i64 (v11+1))<((bN:Nat):Int))) then (bif ((decide (0≤(wrap .i64 (v11+1))∧(wrap .i64 (v11+1))<((bN:Nat):Int)))&&true) then (bif (decide ((0+(Int.toNat (wrap .i64 (v11+1))))<aW.length)) then (bif (Nat.beq 6 6&&((decide (0+v9.length=v9.length))&&decide ((v9.length+1+1)*(48+1)≤Ju))) then (.to (.h3 bN (v9++[(R6.mk (rd v132 v134.toNat).a (rd v132 v134.toNat).b v12 (rd v132 v134.toNat).c (rd v132 v134.toNat).d (rd aW (0+(Int.toNat (wrap .i64 (v11+1))))))]) v10 v11 v12 bK v59 v60 v132 v133 (wrap .i64 (v134+1)) aW)) else .stuck) else .stuck) else .stuck) else (.to (.h3 bN v9 v10 v11 v12 bK v59 v60 v132 v133 (wrap .i64 (v134+1)) aW))) else .stuck) else (.to (.h1 bN v9 v10 bK v59 (wrap .i64 (v60+1)) aW)))
def y1z (l0:List R7):Xf msoS:=(bif (We (cvT l0)) then (bif ((z3k (cvT l0)) != 0) then (.ret [.nils,(.int .i64 (z3k (cvT l0)))]) else (.to (.h0 ([]:List Int) 0))) else .stuck)
theorem w4o (l0:List R7): ∀s,Xq prog (Zy prog 22) (msoC l0) (msoC l0 s) (Wq l0 s)
 | .h0 v6 v39=>(lb (fun k0=>(lo fun aG=>(lb (fun k1=>(lo fun o0=>(sl Qv 39 [] ⟨[0,4],[],u6x,u6z⟩ ⟨[(6,.len (v6++[(rd l0 (tn v39)).d]).length)],[.keep,.rowed 1 (v6++[(rd l0 (tn v39)).d]).length (Zz (v6++[(rd l0 (tn v39)).d]))],[]⟩ (bl 2 3) (pp (xL (v6.length+1) (v6++[(rd l0 (tn v39)).d]).length) (pp (xL (v6.length+1) (v6++[(rd l0 (tn v39)).d]).length) (pp (xS (v6.length+1) (Zi (Zz v6) 0 v6.length 1 [(ii (rd l0 (tn v39)).d)]) (Zz (v6++[(rd l0 (tn v39)).d]))) (pp (pp (xF (Zi (Zz v6) 0 v6.length 1 [(ii (rd l0 (tn v39)).d)])) nn) (ww o0 (tt k1 (ww aG (tt k0 nn))))))))))) (fun k1=>(sl Qv 31 [] ⟨[0,1],[],u6x,u6z⟩ ⟨[],[],[]⟩ (bl 2 1) (pp (fl v6 nn) (tt k1 (ww aG (tt k0 nn))))))))) (fun k0=>(lo fun o0=>(lo fun o1=>(sl Qv 35 [(67,6,Zz ([]:List R6))] ⟨[0,1,2],[],msoN1,msoM1⟩ ⟨[(9,.grow 2 6),(10,.list 0 (Zz ([]:List R4)))],[.keep,.rowed 1 (y8d v6).length (Zz (y8d v6)),.keep],[]⟩ [false] (pp (xL v6.length (y8d v6).length (by first | exact z1w _ _ | exact Vy rfl)) (pp (xS v6.length (Zz (y8d v6)) (Zz (y8d v6))) (pp (fl (y8d v6) (fl ([]:List R6) nn)) (pp (pp (xG (Nat.beq 1 1)) (pp (xG (Nat.beq 1 1)) (pp (xG (Nat.beq 0 0)) (pp (xG (decide (v6.length=v6.length))) (pp (xG (isI (Zz (Xv (Yx v6.length (cOf (Zz v6))))))) (xG (decide (v6.length<4611686018427387904)))))))) (pp (pp (xG (Nat.beq 1 1)) (pp (xG (Nat.beq 1 1)) (pp (xG (Nat.beq 0 0)) (pp (xG (decide (v6.length=v6.length))) (pp (xG (isI (Zz v6))) (xG (decide (v6.length<4611686018427387904)))))))) (tt k0 nn)))))))))))
 | .h1 bN v9 v10 bK v59 v60 aW=>(lb (fun k0=>(lo fun o0=>(lo fun o1=>(sl Qv 30 [(88,4,Zz ([]:List R4)),(88,4,Zz ([]:List R4))] ⟨[0,1,3,4,5,2],[],v0t,v0u⟩ ⟨[],[.keep,.keep,.cells [.grow 3 4,.grow 4 4],.keep,.keep,.keep],[]⟩ [true] (pp (fl aW (fl ([]:List R4) (fl ([]:List R4) (fl v9 nn)))) (ww o1 (ww o0 (tt k0 nn)))))))) (fun k0=>(Xa (sl Qv (C':=⟨⟨186,0,true⟩,(Up prog 22 [1,1,1,1,1,1,1,1,1,1,0] 1),(Zd prog 22 [1,1,1,1,1,1,1,1,1,1,0] 1),none,(Zy prog 15),⟨Yd [(0,(.dat l0.length (Zz l0))),(166,(.dat v9.length (Zz v9)))],Uy [] 0,0,[],true⟩,[],.leaf⟩) 10 [] ⟨[],[2],[some [0,166]],[]⟩ ⟨[(166,.frz v9.length v9.length (Zz v9) (Zz v9))],[],[]⟩ [false] (pp (xZ (z6i 6 6 0 v9.length v9.length (Zz v9)) v9.length (Zz v9)) (pp (xL v9.length v9.length) (pp (xS v9.length (Zz v9) (Zz v9)) (pp (fl v9 nn) (tt k0 nn)))))) (lo fun aG=>(lb (fun k1=>(lr 186 22 [1,1,1,1,1,1,1,1,1,1,1,0,1,0,0] 1 15 [(2,.nils),(3,(ii 28))] (sl Qv 19 [] ⟨[],[],[some [2,3]],[]⟩ ⟨[],[],[]⟩ [true] (tt k1 (pp (pp (xr v9) (xw aG)) nn))))) (fun k1=>(lo fun bT=>(lb (fun k2=>(lr 186 22 [1,1,1,1,1,1,1,1,1,1,1,1,0,1,1,0,0] 1 15 [(2,.nils),(3,(ii 28))] (sl Qv 43 [] ⟨[],[],[some [2,3]],[]⟩ ⟨[],[],[]⟩ (bl 6 62) (tt k2 (pp (pp (xI R6 (Yz (cvT v9)).length (Zz (Yz (cvT v9)))) (xw bT)) (tt k1 (pp (pp (xr v9) (xw aG)) nn))))))) (fun k2=>(lo fun cG=>(lb (fun k3=>(lr 186 22 [1,1,1,1,1,1,1,1,1,1,1,1,0,1,1,0,0] 1 15 [(2,.nils),(3,(ii 28))] (sl Qv 43 [] ⟨[],[],[some [2,3]],[]⟩ ⟨[],[],[]⟩ (bl 6 32) (tt k3 (pp (pp (xI R7 (Ve (cvT (Yz (cvT v9)))).length (Zz (Ve (cvT (Yz (cvT v9)))))) (pp (xr l0) (xw cG))) (tt k2 (pp (pp (xI R6 (Yz (cvT v9)).length (Zz (Yz (cvT v9)))) (xw bT)) (tt k1 (pp (pp (xr v9) (xw aG)) nn))))))))) (fun k3=>(lr 186 3 [1,1,1,1,1,1,1,0] 1 15 [(2,(.dat (Yz (cvT v9)).length (Zz (Yz (cvT v9))))),(3,(ii 0))] (sl Qv 45 [] ⟨[],[],[some [2,3]],[]⟩ ⟨[],[],[]⟩ (bl 6 0) (tt k3 (pp (pp (xI R7 (Ve (cvT (Yz (cvT v9)))).length (Zz (Ve (cvT (Yz (cvT v9)))))) (pp (xr l0) (xw cG))) (tt k2 (pp (pp (xI R6 (Yz (cvT v9)).length (Zz (Yz (cvT v9)))) (xw bT)) (tt k1 (pp (pp (xr v9) (xw aG)) nn))))))))))))))))))))
 | .h2 bN v9 v10 v11 v12 bK v59 v60 v67 aW aA aI=>(lb (fun k0=>(lo fun aG=>(lb (fun k1=>(lb (fun k2=>(lb (fun k3=>(lo fun o0=>(sl Qv 38 [] ⟨[0,1,2,14,4,5],[],v0t,v0u⟩ ⟨[],[.keep,.keep,.cells [.len (aA++[(z3i l0 v67)]).length,.keep],.rowed 4 (aA++[(z3i l0 v67)]).length (Zz (aA++[(z3i l0 v67)])),.keep,.keep],[]⟩ (trs 7 (bl 2 0)) (pp (xL (aA.length+1) (aA++[(z3i l0 v67)]).length) (pp (xL (aA.length+1) (aA++[(z3i l0 v67)]).length) (pp (xS (aA.length+1) (Zi (Zz aA) 0 aA.length 4 [(ii (rd l0 (tn v67)).b),(ii (rd l0 (tn v67)).c),(ii (rd l0 (tn v67)).e),(ii (rd l0 (tn v67)).f)]) (Zz (aA++[(z3i l0 v67)]))) (pp (fl aW (pp (xF (Zi (Zz aA) 0 aA.length 4 [(ii (rd l0 (tn v67)).b),(ii (rd l0 (tn v67)).c),(ii (rd l0 (tn v67)).e),(ii (rd l0 (tn v67)).f)])) (fl aI (fl v9 nn)))) (ww k3 (ww o0 (ww k3 (tt k2 (tt k1 (ww aG (tt k0 nn)))))))))))))) (fun k3=>(lb (fun k4=>(lo fun o0=>(sl Qv 38 [] ⟨[0,1,2,3,14,5],[],v0t,v0u⟩ ⟨[],[.keep,.keep,.cells [.keep,.len (aI++[(z3i l0 v67)]).length],.keep,.rowed 4 (aI++[(z3i l0 v67)]).length (Zz (aI++[(z3i l0 v67)])),.keep],[]⟩ (trs 8 (bl 3 2)) (pp (xL (aI.length+1) (aI++[(z3i l0 v67)]).length) (pp (xL (aI.length+1) (aI++[(z3i l0 v67)]).length) (pp (xS (aI.length+1) (Zi (Zz aI) 0 aI.length 4 [(ii (rd l0 (tn v67)).b),(ii (rd l0 (tn v67)).c),(ii (rd l0 (tn v67)).e),(ii (rd l0 (tn v67)).f)]) (Zz (aI++[(z3i l0 v67)]))) (pp (fl aW (fl aA (pp (xF (Zi (Zz aI) 0 aI.length 4 [(ii (rd l0 (tn v67)).b),(ii (rd l0 (tn v67)).c),(ii (rd l0 (tn v67)).e),(ii (rd l0 (tn v67)).f)])) (fl v9 nn)))) (ww k4 (ww o0 (ww k4 (tt k2 (tt k1 (ww aG (tt k0 nn)))))))))))))) (fun k4=>trivial))))) (fun k2=>(sl Qv 38 [] ⟨(List.range 6),[],v0t,v0u⟩ ⟨[],[],[]⟩ (trs 6 [false]) (pp (fl aW (fl aA (fl aI (fl v9 nn)))) (tt k2 (tt k1 (ww aG (tt k0 nn))))))))) (fun k1=>(sl Qv 38 [] ⟨(List.range 6),[],v0t,v0u⟩ ⟨[],[],[]⟩ (bl 7 1) (pp (fl aW (fl aA (fl aI (fl v9 nn)))) (tt k1 (ww aG (tt k0 nn))))))))) (fun k0=>(Xa (sl Qv (C':=⟨⟨186,0,true⟩,(Up prog 22 [1,1,1,1,1,1,1,1,1,0,1,0,0,1,1,0,0,1,1,1,0] 2),(Zd prog 22 [1,1,1,1,1,1,1,1,1,0,1,0,0,1,1,0,0,1,1,1,0] 1),none,(Zy prog 15),⟨Yd [(0,(.dat l0.length (Zz l0))),(5,(.ptr 0 0)),(6,(.sla 1 1 0 bN (.un 1))),(9,(.sla 2 6 0 v9.length (.un 6))),(10,(.dat v10.length (Zz v10))),(11,(ii v11)),(12,(ii v12)),(13,(.ptr 3 0)),(58,(.sla 1 1 0 bK (.un 1))),(59,(ii v59)),(60,(ii v60)),(102,(.dat aA.length (Zz aA)))],Uy [⟨[(.fn 111 []),(.fn 112 []),(.fn 113 [])],84,none⟩,⟨rows aW.length (Zz aW),3,some ⟨1,aW.length,(Zz aW)⟩⟩,⟨rows v9.length (Zz v9),67,some ⟨6,v9.length,(Zz v9)⟩⟩,⟨[(.dat aA.length (Zz aA)),(.sla 4 4 0 aI.length (.un 4))],101,none⟩,⟨rows aI.length (Zz aI),88,some ⟨4,aI.length,(Zz aI)⟩⟩] 0,5,[],true⟩,[],.leaf⟩) 11 [] ⟨[0,1,5,2,4],[3],[some [0,5,6,9,10,11,12,13,58,59,60,102]],[]⟩ ⟨[(102,.frz aA.length aA.length (Zz aA) (Zz aA))],[.keep,.keep,.keep,.cells [.frz aA.length aA.length (Zz aA) (Zz aA),.keep],.keep],[]⟩ [false] (pp (xZ (z6i 4 4 0 aA.length aA.length (Zz aA)) aA.length (Zz aA)) (pp (xL aA.length aA.length) (pp (xS aA.length (Zz aA) (Zz aA)) (pp (xZ (z6i 4 4 0 aA.length aA.length (Zz aA)) aA.length (Zz aA)) (pp (xL aA.length aA.length) (pp (xS aA.length (Zz aA) (Zz aA)) (pp (fl aW (fl v9 (fl aI nn))) (pp (fl aA nn) (tt k0 nn)))))))))) (lo fun q1_0=>(Xa (sl Qv (C':=⟨⟨186,0,true⟩,(Up prog 22 [1,1,1,1,1,1,1,1,1,0,1,0,0,1,1,0,0,1,1,1,1,0] 2),(Zd prog 22 [1,1,1,1,1,1,1,1,1,0,1,0,0,1,1,0,0,1,1,1,1,0] 1),none,(Zy prog 15),⟨Yd [(0,(.dat l0.length (Zz l0))),(5,(.ptr 0 0)),(6,(.sla 1 1 0 bN (.un 1))),(9,(.sla 2 6 0 v9.length (.un 6))),(10,(.dat v10.length (Zz v10))),(11,(ii v11)),(12,(ii v12)),(16,(.dat (Zb (cvT aA)).length (Zz (Zb (cvT aA))))),(17,(ii (Xm (cvT aA)))),(58,(.sla 1 1 0 bK (.un 1))),(59,(ii v59)),(60,(ii v60)),(108,(.dat aI.length (Zz aI)))],Uy [⟨[(.fn 111 []),(.fn 112 []),(.fn 113 [])],84,none⟩,⟨rows aW.length (Zz aW),3,some ⟨1,aW.length,(Zz aW)⟩⟩,⟨rows v9.length (Zz v9),67,some ⟨6,v9.length,(Zz v9)⟩⟩] 0,3,[],true⟩,[],.leaf⟩) 11 [] ⟨[0,1,2],[4],[some [0,5,6,9,10,11,12,16,17,58,59,60,108]],[]⟩ ⟨[(108,.frz aI.length aI.length (Zz aI) (Zz aI))],[],[]⟩ [] (pp (xZ (z6i 4 4 0 aI.length aI.length (Zz aI)) aI.length (Zz aI)) (pp (xL aI.length aI.length) (pp (xS aI.length (Zz aI) (Zz aI)) (pp (fl aW (fl v9 nn)) (pp (fl aI nn) (pp (pp (xr aA) (xw q1_0)) nn))))))) (lo fun aG=>(lo fun bA=>(lo fun bZ=>(lb (fun k1=>(lr 186 22 [1,1,1,1,1,1,1,1,1,0,1,0,0,1,1,0,0,1,1,1,1,1,1,1,0,1,0,0] 1 15 [(2,.nils),(3,(ii 28))] (sl Qv 91 [] ⟨[],[],[some [2,3]],[]⟩ ⟨[],[],[]⟩ (trs 3 []) (tt k1 (tt k1 (pp (pp (xI R4 (Wo .d (cvT v10) (z5o aA)).length (Zz (Wo .d (cvT v10) (z5o aA)))) (pp (xI R4 (Zb (cvT aI)).length (Zz (Zb (cvT aI)))) (xw bZ))) (pp (pp (xr v10) (pp (xI R4 (Zb (cvT aA)).length (Zz (Zb (cvT aA)))) (xw bA))) (pp (pp (xr aI) (xw aG)) nn)))))))) (fun k1=>(lb (fun k2=>(lr 186 22 [1,1,1,1,1,1,1,1,1,0,1,0,0,1,1,0,0,1,1,1,1,1,1,1,0,1,0,0] 1 15 [(2,.nils),(3,(ii 28))] (sl Qv 120 [] ⟨[],[],[some [2,3]],[]⟩ ⟨[],[],[]⟩ (bl 5 29) (tt k2 (tt k2 (tt k1 (pp (pp (xI R4 (Wo .d (cvT v10) (z5o aA)).length (Zz (Wo .d (cvT v10) (z5o aA)))) (pp (xI R4 (Zb (cvT aI)).length (Zz (Zb (cvT aI)))) (xw bZ))) (pp (pp (xr v10) (pp (xI R4 (Zb (cvT aA)).length (Zz (Zb (cvT aA)))) (xw bA))) (pp (pp (xr aI) (xw aG)) nn))))))))) (fun k2=>(lb (fun k3=>(lr 186 22 [1,1,1,1,1,1,1,1,1,0,1,0,0,1,1,0,0,1,1,1,1,1,1,1,0,1,0,0] 1 15 [(2,.nils),(3,(ii 28))] (sl Qv 149 [] ⟨[],[],[some [2,3]],[]⟩ ⟨[],[],[]⟩ (bl 7 117) (tt k3 (tt k3 (tt k2 (tt k1 (pp (pp (xI R4 (Wo .d (cvT v10) (z5o aA)).length (Zz (Wo .d (cvT v10) (z5o aA)))) (pp (xI R4 (Zb (cvT aI)).length (Zz (Zb (cvT aI)))) (xw bZ))) (pp (pp (xr v10) (pp (xI R4 (Zb (cvT aA)).length (Zz (Zb (cvT aA)))) (xw bA))) (pp (pp (xr aI) (xw aG)) nn)))))))))) (fun k3=>(lb (fun k4=>(lr 186 22 [1,1,1,1,1,1,1,1,1,0,1,0,0,1,1,0,0,1,1,1,1,1,1,1,0,1,0,0] 1 15 [(2,.nils),(3,(ii 28))] (sl Qv 178 [] ⟨[],[],[some [2,3]],[]⟩ ⟨[],[],[]⟩ (bl 9 469) (tt k4 (tt k4 (tt k3 (tt k2 (tt k1 (pp (pp (xI R4 (Wo .d (cvT v10) (z5o aA)).length (Zz (Wo .d (cvT v10) (z5o aA)))) (pp (xI R4 (Zb (cvT aI)).length (Zz (Zb (cvT aI)))) (xw bZ))) (pp (pp (xr v10) (pp (xI R4 (Zb (cvT aA)).length (Zz (Zb (cvT aA)))) (xw bA))) (pp (pp (xr aI) (xw aG)) nn))))))))))) (fun k4=>(sl Qv 201 [] ⟨[0,1,2],[],u6w,u6y⟩ ⟨[],[],[]⟩ (bl 10 85) (pp (fl aW (fl v9 nn)) (tt k4 (tt k3 (tt k2 (tt k1 (pp (pp (xI R4 (Wo .d (cvT v10) (z5o aA)).length (Zz (Wo .d (cvT v10) (z5o aA)))) (pp (xI R4 (Zb (cvT aI)).length (Zz (Zb (cvT aI)))) (xw bZ))) (pp (pp (xr v10) (pp (xI R4 (Zb (cvT aA)).length (Zz (Zb (cvT aA)))) (xw bA))) (pp (pp (xr aI) (xw aG)) nn)))))))))))))))))))))))))
 | .h3 bN v9 v10 v11 v12 bK v59 v60 v132 v133 v134 aW=>(lb (fun k0=>(lo fun aG=>(lb (fun k1=>(lo fun o0=>(lo fun o1=>(lo fun o2=>(sl Qv 32 [] ⟨[0,1,5],[],u6w,u6y⟩ ⟨[(9,.len (y8e v9 v132 v134 v12 aW v11).length)],[.keep,.keep,.rowed 6 (y8e v9 v132 v134 v12 aW v11).length (Zz (y8e v9 v132 v134 v12 aW v11))],[]⟩ (bl 2 3) (pp (xL (v9.length+1) (y8e v9 v132 v134 v12 aW v11).length) (pp (xL (v9.length+1) (y8e v9 v132 v134 v12 aW v11).length) (pp (xS (v9.length+1) (Zi (Zz v9) 0 v9.length 6 [(ii (rd v132 (tn v134)).a),(ii (rd v132 (tn v134)).b),(ii v12),(ii (rd v132 (tn v134)).c),(ii (rd v132 (tn v134)).d),(ii (rd aW (0+(tn (wr (v11+1))))))]) (Zz (y8e v9 v132 v134 v12 aW v11))) (pp (fl aW (pp (xF (Zi (Zz v9) 0 v9.length 6 [(ii (rd v132 (tn v134)).a),(ii (rd v132 (tn v134)).b),(ii v12),(ii (rd v132 (tn v134)).c),(ii (rd v132 (tn v134)).d),(ii (rd aW (0+(tn (wr (v11+1))))))])) nn)) (ww o2 (ww o1 (ww o0 (tt k1 (ww aG (tt k0 nn))))))))))))))) (fun k1=>(sl Qv 32 [] ⟨[0,1,2],[],u6w,u6y⟩ ⟨[],[],[]⟩ (bl 2 1) (pp (fl aW (fl v9 nn)) (tt k1 (ww aG (tt k0 nn))))))))) (fun k0=>(sl Qv 13 [] ⟨[0,1,2],[],msoN1,msoM1⟩ ⟨[],[],[]⟩ [false] (pp (fl aW (fl v9 nn)) (tt k0 nn)))))
theorem x7a (l0:List R7):Xq prog (Zy prog 22) (msoC l0) (Zc prog 22 [(.dat l0.length (Zz l0))] true []) (y1z l0):=(lo fun bU=>(lb (fun k0=>(lr 186 22 [1,0,1,1,0,0] 1 15 [(2,.nils),(3,(ii (z3k (cvT l0))))] (sl Qv 24 [] ⟨[],[],[some [2,3]],[]⟩ ⟨[],[],[]⟩ [true] (tt k0 (pp (pp (xr l0) (xw bU)) nn))))) (fun k0=>(sl Qv 52 [(3,1,Zz ([]:List Int))] ⟨[1,2],[],u6x,u6z⟩ ⟨[(6,.grow 1 1)],[],[]⟩ [false] (pp (fl ([]:List Int) nn) (tt k0 (pp (pp (xr l0) (xw bU)) nn)))))))
theorem w1i (l0:List R7) (n:Nat) (vs:List AVal) (h:Yj (Wq l0) n (y1z l0)=.ret vs):Kv prog (Zy prog 22) (Zc prog 22 [(.dat l0.length (Zz l0))] true []) vs:=by have:=Zn (w4o l0) n _ (x7a l0);rwa [h] at this
def zQ (d:Int) (l:List R7) (z:Int):List R4:=(l.filter fun r=>decide (r.a=d)&&decide (r.d=z)).map fun r=>⟨r.b,r.c,r.e,r.f⟩
def zsQ (l:List R7):List Int:=(l.filter fun r=>decide (4≤r.a)).map (·.d)
def plZ (l:List R7):List Int:=Jp (zsQ l)
def pz6 (z z':Int) (t:R4):R6:=⟨t.a,t.b,z,t.c,t.d,z'⟩
def j0o (now e b:List R4):Bool:=(Xm e != 0)||((Xm b != 0)||((rgE .d now (Zb e) != 0)||(rgE .u (Wo .d now (Zb e)) (Zb b) != 0)))
def x0g (now e b:List R4):List R4:=Wo .u (Wo .d now (Zb e)) (Zb b)
def goP (l:List R7):List Int→List R4→List R6→Option (List R6)
 | [],_,bx=>some bx
 | z::r,now,bx=>bif j0o now (zQ 4 l z) (zQ 5 l z) then none else
  goP l r (x0g now (zQ 4 l z) (zQ 5 l z)) (bx++match r with
   | []=>[]
   | z'::_=>(x0g now (zQ 4 l z) (zQ 5 l z)).map (pz6 z z'))
def w6z (l:List R7) (bx:List R6):Int:=bif Vg bx != 0 then 28 else bif Qa (Yz bx) != 0 then 28 else bif !(y0e (Ve (Yz bx)) l) then 28 else 0
def u2y (l:List R7):Int:=bif z3k l != 0 then z3k l else match goP l (plZ l) [] [] with
 | none=>28
 | some bx=>w6z l bx
def msoL (l:List R7):List R6:=match goP l (plZ l) [] [] with
 | none=>[]
 | some bx=>Yz bx
def z5p (l:List R7):Int:=u2y l
def z0f (l:List R7):List R6:=x1a (u2y l) (msoL l)
def z4f (l:List R7):Bool:=We l
theorem y6o (l:List R7):(zsQ l).length ≤l.length:=by unfold zsQ;rw [A3];exact BN _ _
theorem x1x (d:Int) (l:List R7) (z:Int):(zQ d l z).length ≤l.length:=by unfold zQ;rw [A3];exact BN _ _
theorem Wi (d:Int) (l m:List R7) (z:Int):zQ d (l++m) z=zQ d l z++zQ d m z:=by unfold zQ;rw [List.filter_append,Bq]
theorem w2w (l m:List R7):zsQ (l++m)=zsQ l++zsQ m:=by unfold zsQ;rw [List.filter_append,Bq]
theorem y2f {l:List R7} (h:z3k l=0):l.length≤3000∧ ∀r∈l,w0a r=true:=by
 unfold z3k at h;by_cases g:3000<l.length
 ·rw [Ah g] at h;cases h
 ·rw [Ay g,Aa] at h;cases q:l.all w0a with
  | false=>rw [q] at h;cases h
  | true=>exact ⟨by omega,As.1 q⟩
theorem w7i {r:R7} (h:w0a r=true):r.a≤5:=by unfold w0a at h;simp only [Ac,Aq] at h;exact h.1
theorem u5a (l:List R6):(Yz l).length ≤400:=by
 unfold Yz x1a;cases g:(Vg l != 0) with
 | true=>exact AJ _
 | false=>
  rw [Aa];have h:Vg l=0:=by simpa using g
  unfold Vg at h;cases g1:decide (400<l.length) with
  | true=>rw [g1] at h;cases h
  | false=>
   cases g2:l.all Qu with
   | false=>rw [g1,g2] at h;cases h
   | true=>
    rw [g1,g2,Aa,Ab] at h;cases g3:okF l ((D6.cuts l).length - 1) 0 with
    | false=>rw [g3,Aa] at h;have:=v8z _ _ g3;rw [h] at this;cases this
    | true=>rw [g3,Ab] at h;exact x1f h
theorem u7h {L:List R6}:(Ve L).length ≤3000:=by
 unfold Ve x1a;cases g:(y8f L != 0) with
 | true=>exact AJ _
 | false=>
  rw [Aa];have h:y8f L=0:=by simpa using g
  unfold y8f at h;refine AP fun hn=> ?_;rw [show decide (((Kq L).length :Int)>3000)=true from Ah (by omega)] at h;revert h;have z: ∀(e x:Int),x≠0→(bif e != 0 then e else x)≠0:=fun e x hx=>by
   cases q:(e != 0) with
   | true=>rw [Ab];simpa using q
   | false=>rw [Aa];exact hx
  exact z _ _ (z _ _ (z _ _ (z _ _ (z _ _ (z _ _ (by decide))))))
theorem six {a:Int} (h0:0≤a) (h5:a≤5):((wrap IntKind.u8 (Int.tdiv a 2)) == 2)=decide (4≤a)∧decide (Int.tmod a 2=Int.ofNat 0)=decide (a=0∨a=2∨a=4)∧decide (Int.tmod a 2=Int.ofNat 1)=decide (a=1∨a=3∨a=5):=by
 have:a=0∨a=1∨a=2∨a=3∨a=4∨a=5:=by omega
 rcases this with rfl | rfl | rfl | rfl | rfl | rfl <;> exact ⟨rfl,rfl,rfl⟩
section
variable (l:List R7) (hl:l.length≤3000) (ha: ∀i,i<l.length→0≤(rd l i).a ∧(rd l i).a ≤5)
include hl ha
theorem u2x : ∀(k i:Nat) (acc:List Int),i+k=l.length→acc.length≤i→zsQ l=acc++zsQ (l.drop i)→
  ∃n,∀N,Yj (Wq l) (N+n) (.to (.h0 acc (i:Int)))=Yj (Wq l) N (.to (.h1 (plZ l).length [] [] (plZ l).length ((plZ l).length :Int) 0 (Wf (Xv (zsQ l)))))
 | 0,i,acc,h,h',e=>by have _u:=ha;rw [Au (by omega),show zsQ []=[] from rfl,AA] at e;subst e;refine ⟨1,fun N=> ?_⟩;rw [Zv];simp (disch:=omega) only [Wq,Wv,z0a,cmpN_eq,Yw,Yk,Yp,Av,Ab,Aa];rfl
 | k+1,i,acc,h,h',e=>by
  have hi:i<l.length:=by omega
  obtain ⟨b0,b5⟩:=ha i hi;obtain ⟨s1,_,_⟩:=six b0 b5;have e2:zsQ l=(acc++zsQ [rd l i])++zsQ (l.drop (i+1)):=by rw [AL,←w2w,e,Ym hi];rfl
  obtain ⟨n,hn⟩:=u2x k (i+1) (acc++zsQ [rd l i]) (by omega) (by have:=y6o [rd l i];simp only [Az,Br] at*;omega) e2;refine ⟨n+1,fun N=> ?_⟩;rw [←AD,Zv,←hn N];by_cases h4:4≤(rd l i).a
  ·rw [show zsQ [rd l i]=[(rd l i).d] by unfold zsQ;rw [A9,Aw (Ah h4)];rfl];rw [Ah h4] at s1;simp (disch:=omega) only [Wq,s1,Za,Zq,Zs,Zt,Yc,Yk,Yp,Zf,Zp,Zx,Ya,Zk,Ag,Av,Ai,Al,Ab,Aa]
  ·rw [show zsQ [rd l i]=[] by unfold zsQ;rw [A9,At (by simp [h4])];rfl,AA];rw [Ay h4] at s1;simp (disch:=omega) only [Wq,s1,Za,Zq,Zs,Zt,Yc,Yk,Yp,Zf,Zp,Zx,Ya,Zk,Ag,Av,Ai,Al,Ab,Aa]
theorem u2v (n6:Nat) (bx:List R6) (now:List R4) (v11 z:Int) (n58:Nat) (v59 v60:Int) (P:List Int): ∀(k j:Nat) (e b:List R4),j+k=l.length→e.length≤j→b.length≤j→zQ 4 l z=e++zQ 4 (l.drop j) z→zQ 5 l z=b++zQ 5 (l.drop j) z→
  ∃n,∀N,Yj (Wq l) (N+n) (.to (.h2 n6 bx now v11 z n58 v59 v60 (j:Int) P e b))=Yj (Wq l) N (bif j0o now (zQ 4 l z) (zQ 5 l z) then .ret [.nils,.int .i64 28] else
   .to (.h3 n6 bx (x0g now (zQ 4 l z) (zQ 5 l z)) v11 z n58 v59 v60 (x0g now (zQ 4 l z) (zQ 5 l z)) ((x0g now (zQ 4 l z) (zQ 5 l z)).length :Int) 0 P))
 | 0,j,e,b,h,h1,h2,e4,e5=>by
  have _u:=ha;rw [Au (by omega),show∀d,zQ d [] z=[] from fun _=>rfl,AA] at e4 e5;refine ⟨1,fun N=> ?_⟩;rw [Zv,e4,e5];have o1: ∀x,Ui x=true:=fun _=>rfl;have o2: ∀q x y,Qd q x y=true:=fun _ _ _=>rfl;simp (disch:=omega) only [Wq,Yw,Za,o1,o2,Ab,Aa,j0o,x0g,x2n]
  congr 1
  cases (Xm e != 0) <;> cases (Xm b != 0) <;> cases (rgE .d now (Zb e) != 0) <;> cases (rgE .u (Wo .d now (Zb e)) (Zb b) != 0) <;> rfl
 | k +1,j,e,b,h,h1,h2,e4,e5=>by
  have hj:j<l.length:=by omega
  obtain ⟨b0,b5⟩:=ha j hj;obtain ⟨s1,s2,s3⟩:=six b0 b5;have f4:zQ 4 l z=(e++zQ 4 [rd l j] z)++zQ 4 (l.drop (j+1)) z:=by rw [AL,←Wi,e4,Ym hj];rfl
  have f5:zQ 5 l z=(b++zQ 5 [rd l j] z)++zQ 5 (l.drop (j+1)) z:=by rw [AL,←Wi,e5,Ym hj];rfl
  obtain ⟨n,hn⟩:=u2v n6 bx now v11 z n58 v59 v60 P k (j+1) (e++zQ 4 [rd l j] z) (b++zQ 5 [rd l j] z) (by omega)
   (by have:=x1x 4 [rd l j] z;simp only [Az,Br] at*;omega) (by have:=x1x 5 [rd l j] z;simp only [Az,Br] at*;omega) f4 f5
  refine ⟨n+1,fun N=> ?_⟩;rw [←AD,Zv,←hn N];have no: ∀d,¬((rd l j).a =d∧(rd l j).d =z)→zQ d [rd l j] z=[]:=fun d hn=>by unfold zQ;rw [A9,At (by simpa using hn)];rfl
  have ye: ∀d,((rd l j).a =d∧(rd l j).d =z)→zQ d [rd l j] z=[⟨(rd l j).b,(rd l j).c,(rd l j).e,(rd l j).f⟩]:=fun d hy=>by unfold zQ;rw [A9,Aw (by simpa using hy)];rfl
  by_cases h4:4≤(rd l j).a
  ·rw [Ah h4] at s1;by_cases hz:(rd l j).d =z
   ·have hzb:((rd l j).d == z)=true:=(by simpa using hz);by_cases h44:(rd l j).a =4
    ·replace s2:=s2.trans (Ah (p:=(rd l j).a =0∨(rd l j).a =2∨(rd l j).a =4) (by omega))
     rw [ye 4 ⟨h44,hz⟩,no 5 (by omega),AA];simp (disch:=omega) only [Wq,s1,s2,hzb,Za,Zq,Zs,Zt,Yc,Yk,Yp,Zf,Zp,Zx,Ya,Zk,Ag,Av,Ai,Al,Ab,Aa]
    ·replace s2:=s2.trans (Ay (p:=(rd l j).a =0∨(rd l j).a =2∨(rd l j).a =4) (by omega))
     replace s3:=s3.trans (Ah (p:=(rd l j).a =1∨(rd l j).a =3∨(rd l j).a =5) (by omega))
     rw [ye 5 ⟨by omega,hz⟩,no 4 (by omega),AA];simp (disch:=omega) only [Wq,s1,s2,s3,hzb,Za,Zq,Zs,Zt,Yc,Yk,Yp,Zf,Zp,Zx,Ya,Zk,Ag,Av,Ai,Al,Ab,Aa]
   ·have hzb:((rd l j).d == z)=false:=(by simpa using hz);rw [no 5 (fun g=>hz g.2),no 4 (fun g=>hz g.2),AA,AA];simp (disch:=omega) only [Wq,s1,hzb,Za,Zq,Zs,Zt,Yc,Yk,Yp,Zf,Zp,Zx,Ya,Zk,Ag,Av,Ai,Al,Ab,Aa]
  ·rw [Ay h4] at s1;rw [no 5 (by omega),no 4 (by omega),AA,AA];simp (disch:=omega) only [Wq,s1,Za,Zq,Zs,Zt,Yc,Yk,Yp,Zf,Zp,Zx,Ya,Zk,Ag,Av,Ai,Al,Ab,Aa]
theorem v0s (n6:Nat) (hn6:n6≤3000) (now:List R4) (i:Nat) (hi:i<n6) (z:Int) (v59:Int) (R:List R4) (hR:R.length≤400) (P:List Int) (hP:n6≤P.length): ∀(k j:Nat) (bx:List R6),j+k=R.length→bx.length≤2000000+j→
  ∃n,∀N,Yj (Wq l) (N+n) (.to (.h3 n6 bx now (i:Int) z n6 v59 (i:Int) R (R.length:Int) (j:Int) P))=Yj (Wq l) N (.to (.h1 n6 (bx++bif decide (i+1<n6) then (R.drop j).map (pz6 z (rd P (i+1))) else []) now n6 v59 ((i+1:Nat):Int) P))
 | 0,j,bx,h,h'=>by have _u:=ha;have _v:=hl;refine ⟨1,fun N=> ?_⟩;rw [Au (by omega),Bg,show (bif decide (i+1<n6) then ([]:List R6) else [])=[] by cases decide (i+1<n6) <;> rfl,AA,Zv];simp (disch:=omega) only [Wq,Yw,Zp,Zx,Aa]
 | k+1,j,bx,h,h'=>by
  have hj:j<R.length:=by omega
  have ew:wrap .i64 ((i:Int)+1)=((i+1:Nat):Int):=by rw [Zp (by omega)];exact Zx i
  by_cases g:i+1<n6
  ·obtain ⟨n,hn⟩:=v0s n6 hn6 now i hi z v59 R hR P hP k (j+1) (bx++[pz6 z (rd P (i+1)) (rd R j)]) (by omega) (by simp only [Az,Br];omega);refine ⟨n+1,fun N=> ?_⟩;rw [Ah g,Ab] at hn;rw [Ah g,Ab,Ym hj,AW,←AD,Zv,show bx++pz6 z (rd P (i+1)) (rd R j)::(R.drop (j+1)).map (pz6 z (rd P (i+1)))=(bx++[pz6 z (rd P (i+1)) (rd R j)])++(R.drop (j+1)).map (pz6 z (rd P (i+1))) by simp,←hn N];simp (disch:=omega) only [Wq,ew,Za,Zq,Zs,Zt,Yc,Yk,Yp,Zf,Zp,Zx,Ya,Zk,Ag,Av,Ai,Al,Ab,Aa];rfl
  ·obtain ⟨n,hn⟩:=v0s n6 hn6 now i hi z v59 R hR P hP k (j+1) bx (by omega) (by omega);refine ⟨n+1,fun N=> ?_⟩;rw [Ay g,Aa] at hn;rw [Ay g,Aa,←AD,Zv,←hn N];simp (disch:=omega) only [Wq,ew,Yw,Za,Zq,Zs,Zt,Zp,Zx,Zk,Ai,Ab,Aa]
def resR (l:List R7):Option (List R6)→List AVal
 | none=>[.nils,.int .i64 28]
 | some bx=>y3q (w6z l bx) (Yz bx)
theorem u2w : ∀(k i:Nat) (now:List R4) (bx:List R6),i+k=(plZ l).length →bx.length≤400*i→
  ∃n,Yj (Wq l) n (.to (.h1 (plZ l).length bx now (plZ l).length ((plZ l).length :Int) (i:Int) (Wf (Xv (zsQ l)))))=.ret (resR l (goP l ((plZ l).drop i) now bx))
 | 0,i,now,bx,h,hb=>by have _u:=ha;have _v:=hl;rw [Au (show (plZ l).length ≤i by omega)];have o2:z1u (Yz bx)=true:=Ah (u5a bx);have o3:z2g (Ve (Yz bx)) l=true:=Ah (by have:=u7h (L:=Yz bx);omega);refine ⟨1,?_⟩;rw [Zv];simp (disch:=omega) only [Wq,Yw,Za,show∀x,z1m x=true from fun _=>rfl,o2,o3,Ab,Aa];show Yj (Wq l) 0 _=.ret (y3q (w6z l bx) (Yz bx));unfold w6z y3q;cases (Vg bx != 0) <;> cases (Qa (Yz bx) != 0) <;> cases (y0e (Ve (Yz bx)) l) <;> rfl
 | k +1,i,now,bx,h,hb=>by
  have hi:i<(plZ l).length :=by omega
  have hp:(plZ l).length ≤3000:=AF (z2w _) (AF (y6o l) hl);have hpl:(Wf (Xv (zsQ l))).length =(zsQ l).length :=by rw [Ur,Xo]
  have hcl:(plZ l).length ≤(zsQ l).length :=z2w _;have r0:rd (Wf (Xv (zsQ l))) i=rd (plZ l) i:=z4b _ _ hi;obtain ⟨n2,h2⟩:=u2v l hl ha (plZ l).length bx now (i:Int) (rd (plZ l) i) (plZ l).length ((plZ l).length :Int) (i:Int) (Wf (Xv (zsQ l))) l.length 0 [] [] (Ag _) (An _) (An _) rfl rfl;have st: ∀N,Yj (Wq l) (N+n2+1) (.to (.h1 (plZ l).length bx now (plZ l).length ((plZ l).length :Int) (i:Int) (Wf (Xv (zsQ l)))))=Yj (Wq l) N (bif j0o now (zQ 4 l (rd (plZ l) i)) (zQ 5 l (rd (plZ l) i)) then .ret [.nils,.int .i64 28] else
    .to (.h3 (plZ l).length bx (x0g now (zQ 4 l (rd (plZ l) i)) (zQ 5 l (rd (plZ l) i))) (i:Int) (rd (plZ l) i) (plZ l).length ((plZ l).length :Int) (i:Int) (x0g now (zQ 4 l (rd (plZ l) i)) (zQ 5 l (rd (plZ l) i))) ((x0g now (zQ 4 l (rd (plZ l) i)) (zQ 5 l (rd (plZ l) i))).length :Int) 0 (Wf (Xv (zsQ l))))):=fun N=>by
   rw [←h2 N,Zv];simp (disch:=omega) only [Wq,r0,Za,Zs,Zt,Yk,Zk,Ag,Av,Ai,Ab,Aa];rfl
  rw [Ym hi];rcases Ye (j0o now (zQ 4 l (rd (plZ l) i)) (zQ 5 l (rd (plZ l) i))) with g | g
  ·refine ⟨0+n2+1,?_⟩;rw [st 0,g,Ab,Zg];unfold goP;rw [g];rfl
  ·have hn4:(x0g now (zQ 4 l (rd (plZ l) i)) (zQ 5 l (rd (plZ l) i))).length ≤400:=u1q;obtain ⟨n3,h3⟩:=v0s l hl ha (plZ l).length hp (x0g now (zQ 4 l (rd (plZ l) i)) (zQ 5 l (rd (plZ l) i))) i hi (rd (plZ l) i) ((plZ l).length :Int) (x0g now (zQ 4 l (rd (plZ l) i)) (zQ 5 l (rd (plZ l) i))) hn4 (Wf (Xv (zsQ l))) (by omega) (x0g now (zQ 4 l (rd (plZ l) i)) (zQ 5 l (rd (plZ l) i))).length 0 bx (Ag _) (by omega);rw [A2] at h3;obtain ⟨n,hn⟩:=u2w k (i+1) (x0g now (zQ 4 l (rd (plZ l) i)) (zQ 5 l (rd (plZ l) i))) (bx++bif decide (i+1<(plZ l).length) then (x0g now (zQ 4 l (rd (plZ l) i)) (zQ 5 l (rd (plZ l) i))).map (pz6 (rd (plZ l) i) (rd (Wf (Xv (zsQ l))) (i+1))) else []) (by omega) (by
    rw [Az];cases decide (i+1<(plZ l).length) with
    | true=>rw [Ab,A3];omega
    | false=>rw [Aa,BV];omega)
   refine ⟨n+n3+n2+1,?_⟩;rw [st (n+n3),g,Aa];refine (h3 n).trans (hn.trans ?_);have em:(bif decide (i+1<(plZ l).length) then (x0g now (zQ 4 l (rd (plZ l) i)) (zQ 5 l (rd (plZ l) i))).map (pz6 (rd (plZ l) i) (rd (Wf (Xv (zsQ l))) (i+1))) else [])=(match (plZ l).drop (i+1) with
     | []=>[]
     | z'::_=>(x0g now (zQ 4 l (rd (plZ l) i)) (zQ 5 l (rd (plZ l) i))).map (pz6 (rd (plZ l) i) z')):=by
    by_cases q:i+1<(plZ l).length
    ·rw [Ah q,Ab,Ym q,z4b _ _ q];rfl
    ·rw [Ay q,Aa,Au (by omega)]
   rw [em]
   conv=>rhs;unfold goP
   rw [g,Aa]
end
theorem v0r (l:List R7) (h:z4f l=true): ∃n,Yj (Wq l) n (y1z l)=.ret (y3q (z5p l) (msoL l)):=by
 unfold y1z z5p u2y;simp only [Za,show We l=true from h,Ab];rcases Ye (z3k l != 0) with q | q
 ·refine ⟨0,?_⟩;rw [q,Ab,Ab,z2k _ q];rfl
 ·rw [q,Aa,Aa];obtain ⟨hl,hv⟩:=y2f (l:=l) (by simpa using q);have ha: ∀i,i<l.length→0≤(rd l i).a ∧(rd l i).a ≤5:=fun i hi=>by
   have hm:rd l i∈l:=by rw [Xp hi];exact AS hi
   have:=As.1 h _ hm;simp only [Ac,Aq] at this;exact ⟨this.1,w7i (hv _ hm)⟩
  obtain ⟨n0,h0⟩:=u2x l hl ha l.length 0 [] (Ag _) (An _) rfl;obtain ⟨n1,h1⟩:=u2w l hl ha (plZ l).length 0 [] [] (Ag _) (An _);refine ⟨n1+n0,?_⟩;refine (h0 n1).trans (h1.trans ?_);rw [A2];unfold msoL;cases goP l (plZ l) [] [] with
  | none=>rfl
  | some bx=>rfl
def fMso :List AVal→Option (AVal×Bool)
 | [a0]=>match asL R7 a0 with
  | some (L0,g0,n0)=>some (.tup [.dat (z0f L0).length (Zz (z0f L0)),.int .i64 (z5p L0)],isT R7 n0 g0&&(z4f L0))
  | _=>none
 | _=>none
theorem u8y {S:Specs} (hS:Zj prog S):Zj prog (S.with x0h fMso):=by
 refine w7a hS (by kernel_rfl) fun args v h=> ?_;unfold fMso at h;split at h
 ·rename_i a0;split at h
  ·rename_i L0 g0 n0 e0;simp only [Ae,Ad,Ac] at h;obtain ⟨rfl,ho0,hw⟩:=h;obtain ⟨N,hN⟩:=v0r L0 hw;exact ⟨_,_,(.cons (Yr e0 ho0) .nil),z0r _ _,w1i L0 N _ hN,3,z6d _ _⟩
  ·cases h
 ·cases h
def Mi :Specs:=(Mh.with x0h fMso)
theorem z0k :Zj prog Mi:=(u8y Qv)
-- start: index into an array (choices [false, false, false])
inductive marS where
def marC (aR:Int) (aP:Int) (aQ:Int) (bI:Int) (bR:Int) (bS:Int) (cI:Int):marS→Cfg
 :=nofun
def x7m (aR:Int) (aP:Int) (aQ:Int) (bI:Int) (bR:Int) (bS:Int) (cI:Int):marS→Xf marS
 :=nofun
def y2g (aR:Int) (aP:Int) (aQ:Int) (bI:Int) (bR:Int) (bS:Int) (cI:Int):Xf marS:=(bif (decide ((wrap IntKind.u8 (Int.tdiv aR 2))=Int.ofNat 0)) then (.ret [(.int .i64 (wrap .i64 ((wrap .i64 (bS - aQ))*(wrap .i64 (cI - bI)))))]) else (bif (decide ((wrap IntKind.u8 (Int.tdiv aR 2))=Int.ofNat 1)) then (.ret [(.int .i64 (wrap .i64 ((wrap .i64 (bR - aP))*(wrap .i64 (cI - bI)))))]) else (bif (decide ((wrap IntKind.u8 (Int.tdiv aR 2))=Int.ofNat 2)) then (.ret [(.int .i64 (wrap .i64 ((wrap .i64 (bR - aP))*(wrap .i64 (bS - aQ)))))]) else .stuck)))
theorem w4y (aR:Int) (aP:Int) (aQ:Int) (bI:Int) (bR:Int) (bS:Int) (cI:Int): ∀s,Xq prog (Zy prog 91) (marC aR aP aQ bI bR bS cI) (marC aR aP aQ bI bR bS cI s) (x7m aR aP aQ bI bR bS cI s)
 :=nofun
theorem x7n (aR:Int) (aP:Int) (aQ:Int) (bI:Int) (bR:Int) (bS:Int) (cI:Int):Xq prog (Zy prog 91) (marC aR aP aQ bI bR bS cI) (Zc prog 91 [(.agg [(.int .u8 aR),(.int .i64 aP),(.int .i64 aQ),(.int .i64 bI),(.int .i64 bR),(.int .i64 bS),(.int .i64 cI)])] true []) (y2g aR aP aQ bI bR bS cI):=(lb (fun k0=>(lr 25 3 [1,1,1,1,1,1,1,0] 1 3 [(2,(ii (wr ((wr (bS - aQ))*(wr (cI - bI))))))] (sl z0k 22 [] ⟨[],[],[some [2]],[]⟩ ⟨[],[],[]⟩ [false] (ww k0 nn)))) (fun k0=>(lb (fun k1=>(lr 25 3 [1,1,1,1,1,1,1,0] 1 3 [(2,(ii (wr ((wr (bR - aP))*(wr (cI - bI))))))] (sl z0k 22 [] ⟨[],[],[some [2]],[]⟩ ⟨[],[],[]⟩ [true,false] (ww k1 nn)))) (fun k1=>(lb (fun k2=>(lr 25 3 [1,1,1,1,1,1,1,0] 1 3 [(2,(ii (wr ((wr (bR - aP))*(wr (bS - aQ))))))] (sl z0k 22 [] ⟨[],[],[some [2]],[]⟩ ⟨[],[],[]⟩ [true,true,false] (ww k2 nn)))) (fun k2=>trivial))))))
theorem v7o (aR:Int) (aP:Int) (aQ:Int) (bI:Int) (bR:Int) (bS:Int) (cI:Int) (n:Nat) (vs:List AVal) (h:Yj (x7m aR aP aQ bI bR bS cI) n (y2g aR aP aQ bI bR bS cI)=.ret vs):Kv prog (Zy prog 91) (Zc prog 91 [(.agg [(.int .u8 aR),(.int .i64 aP),(.int .i64 aQ),(.int .i64 bI),(.int .i64 bR),(.int .i64 bS),(.int .i64 cI)])] true []) vs:=by have:=Zn (w4y aR aP aQ bI bR bS cI) n _ (x7n aR aP aQ bI bR bS cI);rwa [h] at this
def w4z (a b c d e f g:Int):Int:=wrap .i64 (if a<2 then wrap .i64 (f - c)*wrap .i64 (g - d) else if a<4 then wrap .i64 (e - b)*wrap .i64 (g - d) else wrap .i64 (e - b)*wrap .i64 (f - c))
def Ux (a b c d e f g:Int):Bool:=decide (0≤a)&&decide (a≤5)
theorem u7q (a b c d e f g:Int) (h:Ux a b c d e f g=true): ∃N,Yj (x7m a b c d e f g) N (y2g a b c d e f g)=.ret [.int .i64 (w4z a b c d e f g)]:=⟨0,by
 simp only [Ux,Ac,Aq] at h;unfold y2g w4z;have:a=0∨a=1∨a=2∨a=3∨a=4∨a=5:=by omega
 rcases this with rfl | rfl | rfl | rfl | rfl | rfl <;> rfl⟩
def fMar :List AVal→Option (AVal×Bool)
 | [.agg [.int .u8 a,.int .i64 b,.int .i64 c,.int .i64 d,.int .i64 e,.int .i64 f,.int .i64 g]]=>some (.int .i64 (w4z a b c d e f g),Ux a b c d e f g)
 | _=>none
theorem u9h {S:Specs} (hS:Zj prog S):Zj prog (S.with u2k fMar):=by
 refine z3m hS (by kernel_rfl) fun args v h=> ?_;unfold fMar at h;split at h
 ·rename_i a b c d e f g;simp only [Ae,Ad] at h;obtain ⟨rfl,hw⟩:=h;obtain ⟨N,hN⟩:=u7q a b c d e f g hw;exact ⟨_,_,(.cons (.refl _) .nil),rfl,v7o a b c d e f g N _ hN,3,rfl⟩
 ·cases h
def Mm :Specs:=Mi.with u2k fMar
theorem z3o :Zj prog Mm:=u9h z0k
inductive mArS where
 | h0 (v5:Int) (v15:Int)
def mArC (l0:List R7):mArS→Cfg
 | .h0 v5 v15=>⟨⟨25,0,true⟩,none,(Zd prog 45 [1,1,1,0,1,0,0] 0),none,(Zy prog 15),⟨Yd [(5,(ii v5)),(13,(.dat l0.length (Zz l0))),(14,(ii (l0.length:Int))),(15,(ii v15))],Uy [] 0,0,[],true⟩,[],.leaf⟩
def mArN0 :List (Option (List Nat)):=[some [5,13,14,15]]
def mArM0 :List (Option (List Nat)):=[]
def z9e (l0:List R7):mArS→Xf mArS
 | .h0 v5 v15=>(bif (decide (v15<(l0.length:Int))) then (bif ((decide (0≤v15∧v15<(l0.length:Int)))&&true) then (bif (Ux (rd l0 v15.toNat).a (rd l0 v15.toNat).b (rd l0 v15.toNat).c (rd l0 v15.toNat).d (rd l0 v15.toNat).e (rd l0 v15.toNat).f (rd l0 v15.toNat).g) then (.to (.h0 (wrap .i64 (v5+(w4z (rd l0 v15.toNat).a (rd l0 v15.toNat).b (rd l0 v15.toNat).c (rd l0 v15.toNat).d (rd l0 v15.toNat).e (rd l0 v15.toNat).f (rd l0 v15.toNat).g))) (wrap .i64 (v15+1)))) else .stuck) else .stuck) else (.ret [(.int .i64 v5),(.int .i64 0)]))
def y2i (l0:List R7):Xf mArS:=(bif (We (cvT l0)) then (bif ((z3k (cvT l0)) != 0) then (.ret [(.int .i64 0),(.int .i64 (z3k (cvT l0)))]) else (.to (.h0 0 0))) else .stuck)
theorem w5c (l0:List R7): ∀s,Xq prog (Zy prog 45) (mArC l0) (mArC l0 s) (z9e l0 s)
 | .h0 v5 v15=>(lb (fun k0=>(lo fun o0=>(lo fun o1=>(sl z3o 29 [] ⟨[],[],mArN0,mArM0⟩ ⟨[],[],[]⟩ [true] (ww o1 (ww o0 (tt k0 nn))))))) (fun k0=>(lr 25 3 [1,1,1,1,1,1,1,0] 1 15 [(2,(ii v5)),(3,(ii 0))] (sl z3o 13 [] ⟨[],[],[some [2,3]],[]⟩ ⟨[],[],[]⟩ [false] (tt k0 nn)))))
theorem x7r (l0:List R7):Xq prog (Zy prog 45) (mArC l0) (Zc prog 45 [(.dat l0.length (Zz l0))] true []) (y2i l0):=(lo fun bU=>(lb (fun k0=>(lr 25 45 [1,0,1,1,0,0] 1 15 [(2,(ii 0)),(3,(ii (z3k (cvT l0))))] (sl z3o 24 [] ⟨[],[],[some [2,3]],[]⟩ ⟨[],[],[]⟩ [true] (tt k0 (pp (pp (xr l0) (xw bU)) nn))))) (fun k0=>(sl z3o 32 [] ⟨[],[],mArN0,mArM0⟩ ⟨[],[],[]⟩ [false] (tt k0 (pp (pp (xr l0) (xw bU)) nn))))))
theorem v7v (l0:List R7) (n:Nat) (vs:List AVal) (h:Yj (z9e l0) n (y2i l0)=.ret vs):Kv prog (Zy prog 45) (Zc prog 45 [(.dat l0.length (Zz l0))] true []) vs:=by have:=Zn (w5c l0) n _ (x7r l0);rwa [h] at this
-- h0: index into an array (choices [true, false, false, false])
inductive mVoS where
 | h0 (v7:Int) (v24:Int)
def mVoC (l0:List R7) (x1:Int):mVoS→Cfg
 | .h0 v7 v24=>⟨⟨61,0,true⟩,none,(Zd prog 46 [1,1,1,1,0,1,0,0] 0),none,(Zy prog 28),⟨Yd [(1,(ii x1)),(7,(ii v7)),(22,(.dat l0.length (Zz l0))),(23,(ii (l0.length:Int))),(24,(ii v24))],Uy [] 0,0,[],true⟩,[],.leaf⟩
def y6h :List (Option (List Nat)):=[some [1,7,22,23,24]]
def y6i :List (Option (List Nat)):=[]
def z9d (l0:List R7) (x1:Int):mVoS→Xf mVoS
 | .h0 v7 v24=>(bif (decide (v24<(l0.length:Int))) then (bif ((decide (0≤v24∧v24<(l0.length:Int)))&&true) then (bif (decide (x1=Int.ofNat 0)) then (bif ((wrap .i64 (rd l0 v24.toNat).a) == (wrap .i64 (2*x1))) then (bif (Ux (rd l0 v24.toNat).a (rd l0 v24.toNat).b (rd l0 v24.toNat).c (rd l0 v24.toNat).d (rd l0 v24.toNat).e (rd l0 v24.toNat).f (rd l0 v24.toNat).g) then (.to (.h0 (wrap .i64 (v7+(wrap .i64 ((w4z (rd l0 v24.toNat).a (rd l0 v24.toNat).b (rd l0 v24.toNat).c (rd l0 v24.toNat).d (rd l0 v24.toNat).e (rd l0 v24.toNat).f (rd l0 v24.toNat).g)*(rd l0 v24.toNat).b)))) (wrap .i64 (v24+1)))) else .stuck) else (bif ((wrap .i64 (rd l0 v24.toNat).a) == (wrap .i64 ((wrap .i64 (2*x1))+1))) then (bif (Ux (rd l0 v24.toNat).a (rd l0 v24.toNat).b (rd l0 v24.toNat).c (rd l0 v24.toNat).d (rd l0 v24.toNat).e (rd l0 v24.toNat).f (rd l0 v24.toNat).g) then (.to (.h0 (wrap .i64 (v7 - (wrap .i64 ((w4z (rd l0 v24.toNat).a (rd l0 v24.toNat).b (rd l0 v24.toNat).c (rd l0 v24.toNat).d (rd l0 v24.toNat).e (rd l0 v24.toNat).f (rd l0 v24.toNat).g)*(rd l0 v24.toNat).b)))) (wrap .i64 (v24+1)))) else .stuck) else (.to (.h0 v7 (wrap .i64 (v24+1)))))) else (bif (decide (x1=Int.ofNat 1)) then (bif ((wrap .i64 (rd l0 v24.toNat).a) == (wrap .i64 (2*x1))) then (bif (Ux (rd l0 v24.toNat).a (rd l0 v24.toNat).b (rd l0 v24.toNat).c (rd l0 v24.toNat).d (rd l0 v24.toNat).e (rd l0 v24.toNat).f (rd l0 v24.toNat).g) then (.to (.h0 (wrap .i64 (v7+(wrap .i64 ((w4z (rd l0 v24.toNat).a (rd l0 v24.toNat).b (rd l0 v24.toNat).c (rd l0 v24.toNat).d (rd l0 v24.toNat).e (rd l0 v24.toNat).f (rd l0 v24.toNat).g)*(rd l0 v24.toNat).c)))) (wrap .i64 (v24+1)))) else .stuck) else (bif ((wrap .i64 (rd l0 v24.toNat).a) == (wrap .i64 ((wrap .i64 (2*x1))+1))) then (bif (Ux (rd l0 v24.toNat).a (rd l0 v24.toNat).b (rd l0 v24.toNat).c (rd l0 v24.toNat).d (rd l0 v24.toNat).e (rd l0 v24.toNat).f (rd l0 v24.toNat).g) then (.to (.h0 (wrap .i64 (v7 - (wrap .i64 ((w4z (rd l0 v24.toNat).a (rd l0 v24.toNat).b (rd l0 v24.toNat).c (rd l0 v24.toNat).d (rd l0 v24.toNat).e (rd l0 v24.toNat).f (rd l0 v24.toNat).g)*(rd l0 v24.toNat).c)))) (wrap .i64 (v24+1)))) else .stuck) else (.to (.h0 v7 (wrap .i64 (v24+1)))))) else (bif (decide (x1=Int.ofNat 2)) then (bif ((wrap .i64 (rd l0 v24.toNat).a) == (wrap .i64 (2*x1))) then (bif (Ux (rd l0 v24.toNat).a (rd l0 v24.toNat).b (rd l0 v24.toNat).c (rd l0 v24.toNat).d (rd l0 v24.toNat).e (rd l0 v24.toNat).f (rd l0 v24.toNat).g) then (.to (.h0 (wrap .i64 (v7+(wrap .i64 ((w4z (rd l0 v24.toNat).a (rd l0 v24.toNat).b (rd l0 v24.toNat).c (rd l0 v24.toNat).d (rd l0 v24.toNat).e (rd l0 v24.toNat).f (rd l0 v24.toNat).g)*(rd l0 v24.toNat).d)))) (wrap .i64 (v24+1)))) else .stuck) else (bif ((wrap .i64 (rd l0 v24.toNat).a) == (wrap .i64 ((wrap .i64 (2*x1))+1))) then (bif (Ux (rd l0 v24.toNat).a (rd l0 v24.toNat).b (rd l0 v24.toNat).c (rd l0 v24.toNat).d (rd l0 v24.toNat).e (rd l0 v24.toNat).f (rd l0 v24.toNat).g) then (.to (.h0 (wrap .i64 (v7 - (wrap .i64 ((w4z (rd l0 v24.toNat).a (rd l0 v24.toNat).b (rd l0 v24.toNat).c (rd l0 v24.toNat).d (rd l0 v24.toNat).e (rd l0 v24.toNat).f (rd l0 v24.toNat).g)*(rd l0 v24.toNat).d)))) (wrap .i64 (v24+1)))) else .stuck) else (.to (.h0 v7 (wrap .i64 (v24+1)))))) else .stuck))) else .stuck) else (.ret [(.int .i64 v7),(.int .i64 0)]))
def y2h (l0:List R7) (x1:Int):Xf mVoS:=(bif (We (cvT l0)) then (bif ((z3k (cvT l0)) != 0) then (.ret [(.int .i64 0),(.int .i64 (z3k (cvT l0)))]) else (bif (decide (x1<0)) then (.ret [(.int .i64 0),(.int .i64 2)]) else (bif (decide (x1>2)) then (.ret [(.int .i64 0),(.int .i64 2)]) else (.to (.h0 0 0))))) else .stuck)
theorem w5b (l0:List R7) (x1:Int): ∀s,Xq prog (Zy prog 46) (mVoC l0 x1) (mVoC l0 x1 s) (z9d l0 x1 s)
 | .h0 v7 v24=>(lb (fun k0=>(lo fun aG=>(lb (fun k1=>(lb (fun k2=>(lo fun o0=>(sl z3o 49 [] ⟨[],[],y6h,y6i⟩ ⟨[],[],[]⟩ (bl 3 5) (ww o0 (tt k2 (ww k1 (ww aG (tt k0 nn)))))))) (fun k2=>(lb (fun k3=>(lo fun o0=>(sl z3o 58 [] ⟨[],[],y6h,y6i⟩ ⟨[],[],[]⟩ (bl 4 9) (ww o0 (tt k3 (tt k2 (ww k1 (ww aG (tt k0 nn))))))))) (fun k3=>(sl z3o 50 [] ⟨[],[],y6h,y6i⟩ ⟨[],[],[]⟩ (bl 4 1) (tt k3 (tt k2 (ww k1 (ww aG (tt k0 nn))))))))))) (fun k1=>(lb (fun k2=>(lb (fun k3=>(lo fun o0=>(sl z3o 49 [] ⟨[],[],y6h,y6i⟩ ⟨[],[],[]⟩ (bl 4 11) (ww o0 (tt k3 (ww k2 (ww aG (tt k0 nn)))))))) (fun k3=>(lb (fun k4=>(lo fun o0=>(sl z3o 58 [] ⟨[],[],y6h,y6i⟩ ⟨[],[],[]⟩ (bl 5 19) (ww o0 (tt k4 (tt k3 (ww k2 (ww aG (tt k0 nn))))))))) (fun k4=>(sl z3o 50 [] ⟨[],[],y6h,y6i⟩ ⟨[],[],[]⟩ (bl 5 3) (tt k4 (tt k3 (ww k2 (ww aG (tt k0 nn))))))))))) (fun k2=>(lb (fun k3=>(lb (fun k4=>(lo fun o0=>(sl z3o 49 [] ⟨[],[],y6h,y6i⟩ ⟨[],[],[]⟩ (trs 3 (bl 2 2)) (ww o0 (tt k4 (ww k3 (ww aG (tt k0 nn)))))))) (fun k4=>(lb (fun k5=>(lo fun o0=>(sl z3o 58 [] ⟨[],[],y6h,y6i⟩ ⟨[],[],[]⟩ (trs 3 (bl 3 4)) (ww o0 (tt k5 (tt k4 (ww k3 (ww aG (tt k0 nn))))))))) (fun k5=>(sl z3o 50 [] ⟨[],[],y6h,y6i⟩ ⟨[],[],[]⟩ (trs 3 (bl 3 0)) (tt k5 (tt k4 (ww k3 (ww aG (tt k0 nn))))))))))) (fun k3=>trivial)))))))) (fun k0=>(lr 61 3 [1,1,1,1,1,1,1,0] 1 28 [(4,(ii v7)),(5,(ii 0))] (sl z3o 13 [] ⟨[],[],[some [4,5]],[]⟩ ⟨[],[],[]⟩ [false] (tt k0 nn)))))
theorem x7q (l0:List R7) (x1:Int):Xq prog (Zy prog 46) (mVoC l0 x1) (Zc prog 46 [(.dat l0.length (Zz l0)),(.int .i64 x1)] true []) (y2h l0 x1):=(lo fun bU=>(lb (fun k0=>(lr 61 46 [1,0,1,1,0,0] 1 28 [(4,(ii 0)),(5,(ii (z3k (cvT l0))))] (sl z3o 24 [] ⟨[],[],[some [4,5]],[]⟩ ⟨[],[],[]⟩ [true] (tt k0 (pp (pp (xr l0) (xw bU)) nn))))) (fun k0=>(lb (fun k1=>(lr 61 46 [1,1,0,1,0,0] 1 28 [(4,(ii 0)),(5,(ii 2))] (sl z3o 35 [] ⟨[],[],[some [4,5]],[]⟩ ⟨[],[],[]⟩ [false,true,true,true] (tt k1 (tt k0 (pp (pp (xr l0) (xw bU)) nn)))))) (fun k1=>(lb (fun k2=>(lr 61 46 [1,1,0,1,0,0] 1 28 [(4,(ii 0)),(5,(ii 2))] (sl z3o 35 [] ⟨[],[],[some [4,5]],[]⟩ ⟨[],[],[]⟩ [false,false,false,true] (tt k2 (tt k1 (tt k0 (pp (pp (xr l0) (xw bU)) nn))))))) (fun k2=>(sl z3o 44 [] ⟨[],[],y6h,y6i⟩ ⟨[],[],[]⟩ [false,false,false,false] (tt k2 (tt k1 (tt k0 (pp (pp (xr l0) (xw bU)) nn))))))))))))
theorem v7u (l0:List R7) (x1:Int) (n:Nat) (vs:List AVal) (h:Yj (z9d l0 x1) n (y2h l0 x1)=.ret vs):Kv prog (Zy prog 46) (Zc prog 46 [(.dat l0.length (Zz l0)),(.int .i64 x1)] true []) vs:=by have:=Zn (w5b l0 x1) n _ (x7q l0 x1);rwa [h] at this
theorem w3s {l:List R6} (h:(Xe l != 0)=false):l.length≤400:=by
 refine AP fun g=> ?_;have h:Xe l=0:=by simpa using h
 unfold Xe at h;rw [Ah (by omega)] at h;cases h
def shQ (q:Ax) (L:List R6) (t u w:Int):Bool:=match q with
 | .x =>shsV L t u w
 | .y =>shsV L u t w
 | .z =>shsV L u w t
def y9r (q:Ax) (L:List R6) (t u w:Int):Bool:=match q with
 | .x =>z1n L t u w
 | .y =>z1n L u t w
 | .z =>z1n L u w t
def Ax.l (q:Ax) (a b c:Int):Int:=match q with
 | .x =>a
 | .y =>b
 | .z =>c
def Ax.u (q:Ax) (a b:Int):Int:=match q with
 | .x =>b
 | .y =>a
 | .z =>a
def Ax.w (q:Ax) (a b:Int):Int:=match q with
 | .x =>b
 | .y =>b
 | .z =>a
inductive mpuS where
 | h0 (v15:List Int) (v32:Int)
 | h1 (v15:List Int) (v20:Int) (v21:Int) (v22:Int) (v23:Int)
abbrev Qg (v15:List Int):=(Xv (Yx v15.length (cOf (Zz v15))))
abbrev z3j (v15:List Int) (q:Ax) (l1:List R6) (v32:Int):=(v15++[(Ax.hi q (rd l1 (tn v32)))])
abbrev w1l (v15:List Int) (q:Ax) (l1:List R6) (v32:Int):=(Zi (Zz v15) 0 v15.length 1 [(ii (Ax.hi q (rd l1 (tn v32))))])
def mpuC (q:Ax) (l1:List R6) (x2:Int) (x3:Int) (x4:Int) (x5:Int) (x6:Bool):mpuS→Cfg
 | .h0 v15 v32=>⟨⟨122,0,true⟩,none,(Zd prog 58 [1,1,1,0,1,0,0] 0),none,(Zy prog 58),⟨Yd [(1,(.dat l1.length (Zz l1))),(2,(ii x2)),(3,(ii x3)),(4,(ii x4)),(5,(ii x5)),(6,(.bool x6)),(7,(.ptr 0 0)),(15,(.sla 1 1 0 v15.length (.un 1))),(30,(.dat l1.length (Zz l1))),(31,(ii (l1.length:Int))),(32,(ii v32))],Uy [⟨[(.fn (nV1 q) []),(.fn (nV2 q) []),(.fn (nV3 q) [])],84,none⟩,⟨rows v15.length (Zz v15),3,some ⟨1,v15.length,(Zz v15)⟩⟩] 0,2,[],true⟩,[],.leaf⟩
 | .h1 v15 v20 v21 v22 v23=>⟨⟨122,0,true⟩,none,(Zd prog 58 [1,1,1,1,1,1,1,1,0,1,0,0] 0),none,(Zy prog 58),⟨Yd [(1,(.dat l1.length (Zz l1))),(2,(ii x2)),(7,(.ptr 0 0)),(15,(.sla 1 1 0 v15.length (.un 1))),(20,(ii v20)),(21,(ii v21)),(22,(ii v22)),(23,(ii v23))],Uy [⟨[(.fn (nV1 q) []),(.fn (nV2 q) []),(.fn (nV3 q) [])],84,none⟩,⟨rows v15.length (Zz v15),3,some ⟨1,v15.length,(Zz v15)⟩⟩] 0,2,[],true⟩,[],.leaf⟩
def y6f :List (Option (List Nat)):=[some [1,2,3,4,5,6,7,15,30,31,32]]
def y6g :List (Option (List Nat)):=[]
def v0v :List (Option (List Nat)):=[some [1,2,7,15,20,21,22,23]]
def v0w :List (Option (List Nat)):=[]
def Kz (q:Ax) (l1:List R6) (x2:Int) (x3:Int) (x4:Int) (x5:Int) (x6:Bool):mpuS→Xf mpuS
 | .h0 v15 v32=>(bif (decide (v32<(l1.length:Int))) then (bif ((decide (0≤v32∧v32<(l1.length:Int)))&&true) then (bif (decide (x4<(Ax.lo q (rd l1 v32.toNat)))) then (bif (decide ((Ax.lo q (rd l1 v32.toNat))<x5)) then (bif (Nat.beq 1 1&&((decide (0+v15.length=v15.length))&&decide ((v15.length+1+1)*(8+1)≤Ju))) then (bif (decide (x4<(Ax.hi q (rd l1 v32.toNat)))) then (bif (decide ((Ax.hi q (rd l1 v32.toNat))<x5)) then (bif (Nat.beq 1 1&&((decide (0+(v15.length+1)=(v15.length+1)))&&decide (((v15.length+1)+1+1)*(8+1)≤Ju))) then (.to (.h0 ((v15++[(Ax.lo q (rd l1 v32.toNat))])++[(Ax.hi q (rd l1 v32.toNat))]) (wrap .i64 (v32+1)))) else .stuck) else (.to (.h0 (v15++[(Ax.lo q (rd l1 v32.toNat))]) (wrap .i64 (v32+1))))) else (.to (.h0 (v15++[(Ax.lo q (rd l1 v32.toNat))]) (wrap .i64 (v32+1))))) else .stuck) else (bif (decide (x4<(Ax.hi q (rd l1 v32.toNat)))) then (bif (decide ((Ax.hi q (rd l1 v32.toNat))<x5)) then (bif (Nat.beq 1 1&&((decide (0+v15.length=v15.length))&&decide ((v15.length+1+1)*(8+1)≤Ju))) then (.to (.h0 (v15++[(Ax.hi q (rd l1 v32.toNat))]) (wrap .i64 (v32+1)))) else .stuck) else (.to (.h0 v15 (wrap .i64 (v32+1))))) else (.to (.h0 v15 (wrap .i64 (v32+1)))))) else (bif (decide (x4<(Ax.hi q (rd l1 v32.toNat)))) then (bif (decide ((Ax.hi q (rd l1 v32.toNat))<x5)) then (bif (Nat.beq 1 1&&((decide (0+v15.length=v15.length))&&decide ((v15.length+1+1)*(8+1)≤Ju))) then (.to (.h0 (v15++[(Ax.hi q (rd l1 v32.toNat))]) (wrap .i64 (v32+1)))) else .stuck) else (.to (.h0 v15 (wrap .i64 (v32+1))))) else (.to (.h0 v15 (wrap .i64 (v32+1)))))) else .stuck) else (bif (decide (v15.length<4611686018427387904)) then (bif (decide (v15.length=v15.length)) then (bif (!x6) then (.to (.h1 (Xv (Yx v15.length (cOf (Zz v15)))) (wrap .i64 (x3 - 1)) x3 0 1)) else (.to (.h1 (Xv (Yx v15.length (cOf (Zz v15)))) x3 (wrap .i64 (x3 - 1)) 0 1))) else .stuck) else .stuck))
 | .h1 v15 v20 v21 v22 v23=>(bif (decide (v23<(v15.length:Int))) then (bif ((decide (0≤(wrap .i64 (v23 - 1))∧(wrap .i64 (v23 - 1))<(v15.length:Int)))&&true) then (bif (decide ((0+(Int.toNat (wrap .i64 (v23 - 1))))<v15.length)) then (bif (y9r q (cvT l1) (rd v15 (0+(Int.toNat (wrap .i64 (v23 - 1))))) (wrap .i64 (x2 - 1)) v20) then (bif (!(shQ q (cvT l1) (rd v15 (0+(Int.toNat (wrap .i64 (v23 - 1))))) (wrap .i64 (x2 - 1)) v20)) then (bif (y9r q (cvT l1) (rd v15 (0+(Int.toNat (wrap .i64 (v23 - 1))))) x2 v21) then (bif (!(shQ q (cvT l1) (rd v15 (0+(Int.toNat (wrap .i64 (v23 - 1))))) x2 v21)) then (bif ((decide (0≤v23∧v23<(v15.length:Int)))&&true) then (bif (decide ((0+v23.toNat)<v15.length)) then (.to (.h1 v15 v20 v21 (wrap .i64 (v22+(wrap .i64 ((rd v15 (0+v23.toNat)) - (rd v15 (0+(Int.toNat (wrap .i64 (v23 - 1))))))))) (wrap .i64 (v23+1)))) else .stuck) else .stuck) else (.to (.h1 v15 v20 v21 v22 (wrap .i64 (v23+1))))) else .stuck) else (.to (.h1 v15 v20 v21 v22 (wrap .i64 (v23+1))))) else .stuck) else .stuck) else .stuck) else (.ret [(.int .i64 v22)]))
def y2a (q:Ax) (l1:List R6) (x2:Int) (x3:Int) (x4:Int) (x5:Int) (x6:Bool):Xf mpuS:=(bif (decide (x4≥x5)) then (.ret [(.int .i64 0)]) else (.to (.h0 ([x4,x5]:List Int) 0)))
theorem w4p (q:Ax) (l1:List R6) (x2:Int) (x3:Int) (x4:Int) (x5:Int) (x6:Bool): ∀s,Xq prog (Zy prog 58) (mpuC q l1 x2 x3 x4 x5 x6) (mpuC q l1 x2 x3 x4 x5 x6 s) (Kz q l1 x2 x3 x4 x5 x6 s):=by cases q <;> refine (?f: ∀q:Ax,∀s,Xq prog (Zy prog 58) (mpuC q l1 x2 x3 x4 x5 x6) (mpuC q l1 x2 x3 x4 x5 x6 s) (Kz q l1 x2 x3 x4 x5 x6 s)) _ <;> exact fun q=>fun
 | .h0 v15 v32=>(lb (fun k0=>(lo fun aG=>(lb (fun k1=>(lb (fun k2=>(lo fun cG=>(lb (fun k3=>(lb (fun k4=>(lo fun o0=>(sl z0k 111 [] ⟨[0,8],[],y6f,y6g⟩ ⟨[(15,.len ((v15++[(Ax.lo q (rd l1 (tn v32)))])++[(Ax.hi q (rd l1 (tn v32)))]).length)],[.keep,.rowed 1 ((v15++[(Ax.lo q (rd l1 (tn v32)))])++[(Ax.hi q (rd l1 (tn v32)))]).length (Zz ((v15++[(Ax.lo q (rd l1 (tn v32)))])++[(Ax.hi q (rd l1 (tn v32)))]))],[]⟩ (bl 15 15867) (pp (xL ((v15.length+1)+1) ((v15++[(Ax.lo q (rd l1 (tn v32)))])++[(Ax.hi q (rd l1 (tn v32)))]).length) (pp (xL ((v15.length+1)+1) ((v15++[(Ax.lo q (rd l1 (tn v32)))])++[(Ax.hi q (rd l1 (tn v32)))]).length) (pp (xS ((v15.length+1)+1) (Zi (Zi (Zz v15) 0 v15.length 1 [(ii (Ax.lo q (rd l1 (tn v32))))]) 0 (v15.length+1) 1 [(ii (Ax.hi q (rd l1 (tn v32))))]) (Zz ((v15++[(Ax.lo q (rd l1 (tn v32)))])++[(Ax.hi q (rd l1 (tn v32)))]))) (pp (pp (xF (Zi (Zi (Zz v15) 0 v15.length 1 [(ii (Ax.lo q (rd l1 (tn v32))))]) 0 (v15.length+1) 1 [(ii (Ax.hi q (rd l1 (tn v32))))])) nn) (ww o0 (tt k4 (tt k3 (ww cG (tt k2 (tt k1 (ww aG (tt k0 nn))))))))))))))) (fun k4=>(sl z0k 105 [] ⟨[0,6],[],y6f,y6g⟩ ⟨[(15,.len (v15++[(Ax.lo q (rd l1 (tn v32)))]).length)],[.keep,.rowed 1 (v15++[(Ax.lo q (rd l1 (tn v32)))]).length (Zz (v15++[(Ax.lo q (rd l1 (tn v32)))]))],[]⟩ (bl 15 7675) (pp (xL (v15.length+1) (v15++[(Ax.lo q (rd l1 (tn v32)))]).length) (pp (xL (v15.length+1) (v15++[(Ax.lo q (rd l1 (tn v32)))]).length) (pp (xS (v15.length+1) (Zi (Zz v15) 0 v15.length 1 [(ii (Ax.lo q (rd l1 (tn v32))))]) (Zz (v15++[(Ax.lo q (rd l1 (tn v32)))]))) (pp (pp (xF (Zi (Zz v15) 0 v15.length 1 [(ii (Ax.lo q (rd l1 (tn v32))))])) nn) (tt k4 (tt k3 (ww cG (tt k2 (tt k1 (ww aG (tt k0 nn))))))))))))))) (fun k3=>(sl z0k 105 [] ⟨[0,6],[],y6f,y6g⟩ ⟨[(15,.len (v15++[(Ax.lo q (rd l1 (tn v32)))]).length)],[.keep,.rowed 1 (v15++[(Ax.lo q (rd l1 (tn v32)))]).length (Zz (v15++[(Ax.lo q (rd l1 (tn v32)))]))],[]⟩ (bl 15 507) (pp (xL (v15.length+1) (v15++[(Ax.lo q (rd l1 (tn v32)))]).length) (pp (xL (v15.length+1) (v15++[(Ax.lo q (rd l1 (tn v32)))]).length) (pp (xS (v15.length+1) (Zi (Zz v15) 0 v15.length 1 [(ii (Ax.lo q (rd l1 (tn v32))))]) (Zz (v15++[(Ax.lo q (rd l1 (tn v32)))]))) (pp (pp (xF (Zi (Zz v15) 0 v15.length 1 [(ii (Ax.lo q (rd l1 (tn v32))))])) nn) (tt k3 (ww cG (tt k2 (tt k1 (ww aG (tt k0 nn))))))))))))))) (fun k2=>(lb (fun k3=>(lb (fun k4=>(lo fun o0=>(sl z0k 105 [] ⟨[0,6],[],y6f,y6g⟩ ⟨[(15,.len (z3j v15 q l1 v32).length)],[.keep,.rowed 1 (z3j v15 q l1 v32).length (Zz (z3j v15 q l1 v32))],[]⟩ (bl 15 15803) (pp (xL (v15.length+1) (z3j v15 q l1 v32).length) (pp (xL (v15.length+1) (z3j v15 q l1 v32).length) (pp (xS (v15.length+1) (w1l v15 q l1 v32) (Zz (z3j v15 q l1 v32))) (pp (pp (xF (w1l v15 q l1 v32)) nn) (ww o0 (tt k4 (tt k3 (tt k2 (tt k1 (ww aG (tt k0 nn)))))))))))))) (fun k4=>(sl z0k 99 [] ⟨[0,1],[],y6f,y6g⟩ ⟨[],[],[]⟩ (bl 15 7611) (pp (fl v15 nn) (tt k4 (tt k3 (tt k2 (tt k1 (ww aG (tt k0 nn))))))))))) (fun k3=>(sl z0k 99 [] ⟨[0,1],[],y6f,y6g⟩ ⟨[],[],[]⟩ (bl 15 443) (pp (fl v15 nn) (tt k3 (tt k2 (tt k1 (ww aG (tt k0 nn)))))))))))) (fun k1=>(lb (fun k2=>(lb (fun k3=>(lo fun o0=>(sl z0k 105 [] ⟨[0,6],[],y6f,y6g⟩ ⟨[(15,.len (z3j v15 q l1 v32).length)],[.keep,.rowed 1 (z3j v15 q l1 v32).length (Zz (z3j v15 q l1 v32))],[]⟩ (bl 15 15747) (pp (xL (v15.length+1) (z3j v15 q l1 v32).length) (pp (xL (v15.length+1) (z3j v15 q l1 v32).length) (pp (xS (v15.length+1) (w1l v15 q l1 v32) (Zz (z3j v15 q l1 v32))) (pp (pp (xF (w1l v15 q l1 v32)) nn) (ww o0 (tt k3 (tt k2 (tt k1 (ww aG (tt k0 nn))))))))))))) (fun k3=>(sl z0k 99 [] ⟨[0,1],[],y6f,y6g⟩ ⟨[],[],[]⟩ (bl 15 7555) (pp (fl v15 nn) (tt k3 (tt k2 (tt k1 (ww aG (tt k0 nn)))))))))) (fun k2=>(sl z0k 99 [] ⟨[0,1],[],y6f,y6g⟩ ⟨[],[],[]⟩ (bl 15 387) (pp (fl v15 nn) (tt k2 (tt k1 (ww aG (tt k0 nn)))))))))))) (fun k0=>(lo fun aG=>(lo fun bA=>(lb (fun k1=>(sl z0k 45 [] ⟨[0,1],[],v0v,v0w⟩ ⟨[(15,.len (Qg v15).length)],[.keep,.rowed 1 (Qg v15).length (Zz (Qg v15))],[]⟩ (bl 2 2) (pp (xL v15.length (Qg v15).length (Vy (by rw [Xo,Wv]))) (pp (xL v15.length (Qg v15).length (Vy (by rw [Xo,Wv]))) (pp (xS v15.length (Zz (Qg v15)) (Zz (Qg v15))) (pp (fl (Qg v15) nn) (tt k1 (pp (pp (xG (Nat.beq 1 1)) (pp (xG (Nat.beq 1 1)) (pp (xG (Nat.beq 0 0)) (pp (xG (decide (v15.length=v15.length))) (pp (xG (isI (Zz v15))) (xG (decide (v15.length<4611686018427387904)))))))) (tt k0 nn))))))))) (fun k1=>(sl z0k 39 [] ⟨[0,1],[],v0v,v0w⟩ ⟨[(15,.len (Qg v15).length)],[.keep,.rowed 1 (Qg v15).length (Zz (Qg v15))],[]⟩ (bl 2 0) (pp (xL v15.length (Qg v15).length (Vy (by rw [Xo,Wv]))) (pp (xL v15.length (Qg v15).length (Vy (by rw [Xo,Wv]))) (pp (xS v15.length (Zz (Qg v15)) (Zz (Qg v15))) (pp (fl (Qg v15) nn) (tt k1 (pp (pp (xG (Nat.beq 1 1)) (pp (xG (Nat.beq 1 1)) (pp (xG (Nat.beq 0 0)) (pp (xG (decide (v15.length=v15.length))) (pp (xG (isI (Zz v15))) (xG (decide (v15.length<4611686018427387904)))))))) (tt k0 nn))))))))))))))
 | .h1 v15 v20 v21 v22 v23=>(lb (fun k0=>(lo fun aG=>(lo fun bA=>(lo fun bZ=>(lb (fun k1=>(lo fun bT=>(lb (fun k2=>(lo fun o0=>(lo fun o1=>(sl z0k 23 [] ⟨[0,1],[],v0v,v0w⟩ ⟨[],[],[]⟩ (trs 15 []) (pp (fl v15 nn) (ww bA (ww aG (ww o1 (ww o0 (tt k2 (pp (pp (xr l1) (xw bT)) (ww bA (ww aG (tt k1 (pp (pp (xr l1) (xw bZ)) (ww bA (ww aG (tt k0 nn)))))))))))))))))) (fun k2=>(sl z0k 23 [] ⟨[0,1],[],v0v,v0w⟩ ⟨[],[],[]⟩ (trs 14 [false]) (pp (fl v15 nn) (tt k2 (pp (pp (xr l1) (xw bT)) (ww bA (ww aG (tt k1 (pp (pp (xr l1) (xw bZ)) (ww bA (ww aG (tt k0 nn))))))))))))))) (fun k1=>(sl z0k 23 [] ⟨[0,1],[],v0v,v0w⟩ ⟨[],[],[]⟩ (bl 15 1) (pp (fl v15 nn) (tt k1 (pp (pp (xr l1) (xw bZ)) (ww bA (ww aG (tt k0 nn))))))))))))) (fun k0=>(lr 122 3 [1,1,1,1,1,1,1,0] 1 58 [(14,(ii v22))] (sl z0k 15 [] ⟨[],[],[some [14]],[]⟩ ⟨[],[],[]⟩ [false] (tt k0 nn)))))
theorem x7b (q:Ax) (l1:List R6) (x2:Int) (x3:Int) (x4:Int) (x5:Int) (x6:Bool):Xq prog (Zy prog 58) (mpuC q l1 x2 x3 x4 x5 x6) (Zc prog 58 [(.agg [(.fn (nV1 q) []),(.fn (nV2 q) []),(.fn (nV3 q) [])]),(.dat l1.length (Zz l1)),(.int .i64 x2),(.int .i64 x3),(.int .i64 x4),(.int .i64 x5),(.bool x6)] true []) (y2a q l1 x2 x3 x4 x5 x6):=by cases q <;> exact (lb (fun k0=>(lr 122 58 [1,0,1,0,0] 1 58 [(14,(ii 0))] (sl z0k 17 [] ⟨[],[],[some [14]],[]⟩ ⟨[],[],[]⟩ [true] (tt k0 nn)))) (fun k0=>(sl z0k 30 [] ⟨[0,1],[],y6f,y6g⟩ ⟨[(15,.grow 1 1)],[.keep,.rowed 1 ([x4,x5]:List Int).length (Zz ([x4,x5]:List Int))],[]⟩ [false] (pp (xG (x6e [(ii x4),(ii x5)] 1 ([x4,x5]:List Int).length (Zz ([x4,x5]:List Int)))) (tt k0 nn)))))
theorem v6y (q:Ax) (l1:List R6) (x2:Int) (x3:Int) (x4:Int) (x5:Int) (x6:Bool) (n:Nat) (vs:List AVal) (h:Yj (Kz q l1 x2 x3 x4 x5 x6) n (y2a q l1 x2 x3 x4 x5 x6)=.ret vs):Kv prog (Zy prog 58) (Zc prog 58 [(.agg [(.fn (nV1 q) []),(.fn (nV2 q) []),(.fn (nV3 q) [])]),(.dat l1.length (Zz l1)),(.int .i64 x2),(.int .i64 x3),(.int .i64 x4),(.int .i64 x5),(.bool x6)] true []) vs:=by have:=Zn (w4p q l1 x2 x3 x4 x5 x6) n _ (x7b q l1 x2 x3 x4 x5 x6);rwa [h] at this
def gO (q:Ax) (L:List R6) (x f s t:Int):Int:=bif shQ q L t (x - 1) f then 0 else bif shQ q L t x s then 0 else 1
def sgS (g:Int→Int):Int→List Int→Int
 | _,[]=>0
 | a,b::l=>g a*(b - a)+sgS g b l
def sgL (g:Int→Int):List Int→Int
 | []=>0
 | a::l=>sgS g a l
def v8g (lo hi c:Int):List Int:=bif decide (lo<c) then (bif decide (c<hi) then [c] else []) else []
def cutO (q:Ax) (lo hi:Int):List R6→List Int
 | []=>[]
 | r::L=>v8g lo hi (q.lo r)++(v8g lo hi (q.hi r)++cutO q lo hi L)
def w4q (q:Ax) (L:List R6) (x y lo hi:Int) (b:Bool):Int:=bif decide (lo≥hi) then 0 else wrap .i64 (sgL (gO q L x (bif b then y else y - 1) (bif b then y - 1 else y)) (Xv ([lo,hi]++cutO q lo hi L)))
def Ks (q:Ax) (L:List R6) (x y lo hi:Int) (b:Bool):Bool:=decide (L.length≤400∧ -1000000≤x∧x≤1000000∧ -1000000≤y∧y≤1000000)
theorem v1q (lo hi c:Int):(v8g lo hi c).length ≤1:=by unfold v8g;cases decide (lo<c) <;> cases decide (c<hi) <;> simp
theorem shQ_ow {q:Ax} {L:List R6} (h:L.length≤400) (t u w:Int):y9r q L t u w=true:=by have:z1n L t u w=true:=Ah (by omega);cases q <;> exact Ah (by omega)
theorem w1k (q:Ax) (L:List R6) (hl:L.length≤400) (x y lo hi:Int) (b:Bool) (hx: -1000000≤x∧x≤1000000) (C:List Int) (hC:C.length≤100000) (f s:Int): ∀(k j:Nat) (S:Int),j+1+k=C.length→
  ∃N,Yj (Kz q L x y lo hi b) N (.to (.h1 C f s (wrap .i64 S) ((j+1:Nat):Int)))=.ret [.int .i64 (wrap .i64 (S+sgS (gO q L x f s) (rd C j) (C.drop (j+1))))]
 | 0,j,S,h=>by refine ⟨1,?_⟩;rw [Zv,Au (by omega)];have g:decide (((j+1:Nat):Int)<(C.length:Int))=false:=Ay (by omega);simp only [Kz,g,Aa,Zg];show _=Xf.ret [.int .i64 (wrap .i64 (S+0))];rw [Bp]
 | k+1,j,S,h=>by
  have hj:j+1<C.length:=by omega
  have g1:decide (((j+1:Nat):Int)<(C.length:Int))=true:=Ah (by omega);have w1:wrap .i64 (((j+1:Nat):Int) - 1)=(j:Int):=by rw [Zp (by omega)];omega
  have g2:decide (0≤(j:Int)∧(j:Int)<(C.length:Int))=true:=Ah (by omega);have g3:decide (0+j<C.length)=true:=Ah (by omega);have g4:decide (0≤((j+1:Nat):Int)∧((j+1:Nat):Int)<(C.length:Int))=true:=Ah (by omega);have g5:decide (0+(j+1)<C.length)=true:=Ah (by omega);have wx:wrap .i64 (x - 1)=x - 1:=Zp (by omega);have w3:wrap .i64 (((j+1:Nat):Int)+1)=((j+1+1:Nat):Int):=by rw [Zp (by omega)];omega
  have o:=fun t u w=>shQ_ow (q:=q) hl t u w;have e:sgS (gO q L x f s) (rd C j) (C.drop (j+1))=gO q L x f s (rd C j)*(rd C (j+1) - rd C j)+sgS (gO q L x f s) (rd C (j+1)) (C.drop (j+1+1)):=by rw [Ym hj];rfl
  rw [e];have a0: ∀z,S+(0*z+sgS (gO q L x f s) (rd C (j+1)) (C.drop (j+1+1)))=S+sgS (gO q L x f s) (rd C (j+1)) (C.drop (j+1+1)):=fun z=>by omega
  rcases Ye (shQ q L (rd C j) (x - 1) f) with q1 | q1
  ·obtain ⟨N,hN⟩:=w1k q L hl x y lo hi b hx C hC f s k (j+1) S (by omega);refine ⟨N+1,?_⟩;rw [show gO q L x f s (rd C j)=0 by unfold gO;rw [q1];rfl,a0,←hN,Zv]
   congr 1
   simp only [Kz,Za,g1,w1,g2,g3,Zk,Ag,wx,w3,o,q1,Ai,AG,Ab,Aa,Ah (show j<C.length by omega)]
  rcases Ye (shQ q L (rd C j) x s) with q2 | q2
  ·obtain ⟨N,hN⟩:=w1k q L hl x y lo hi b hx C hC f s k (j+1) S (by omega);refine ⟨N+1,?_⟩;rw [show gO q L x f s (rd C j)=0 by unfold gO;rw [q1,q2];rfl,a0,←hN,Zv]
   congr 1
   simp only [Kz,Za,g1,w1,g2,g3,Zk,Ag,wx,w3,o,q1,q2,Ai,AG,AK,Ab,Aa,Ah (show j<C.length by omega)]
  ·obtain ⟨N,hN⟩:=w1k q L hl x y lo hi b hx C hC f s k (j+1) (S+(rd C (j+1) - rd C j)) (by omega);refine ⟨N+1,?_⟩;have wp:wrap .i64 (wrap .i64 S+wrap .i64 (rd C (j+1) - rd C j))=wrap .i64 (S+(rd C (j+1) - rd C j)):=Cg.eq ((Cg.wrap S).add (Cg.wrap _));rw [show gO q L x f s (rd C j)=1 by unfold gO;rw [q1,q2];rfl,Int.one_mul,←Int.add_assoc,←hN,Zv]
   congr 1
   simp only [Kz,Za,g1,w1,g2,g4,Zk,Ag,wx,w3,wp,o,q1,q2,Ai,AK,Ab,Aa,Ah (show j<C.length by omega),Ah hj]
theorem u3a (q:Ax) (L:List R6) (hl:L.length≤400) (x y lo hi:Int) (b:Bool) (hx: -1000000≤x∧x≤1000000) (hy: -1000000≤y∧y≤1000000): ∀(k i:Nat) (acc:List Int),i+k=L.length→acc.length≤2+2*i→2≤acc.length→
  ∃N,Yj (Kz q L x y lo hi b) N (.to (.h0 acc (i:Int)))=.ret [.int .i64 (wrap .i64 (sgL (gO q L x (bif b then y else y - 1) (bif b then y - 1 else y)) (Xv (acc++cutO q lo hi (L.drop i)))))]
 | 0,i,acc,h,ha,h2=>by
  have:i=L.length:=by omega
  subst this;rw [Au (An _)];show∃N,_=Xf.ret [.int .i64 (wrap .i64 (sgL _ (Xv (acc++[]))))];rw [AA];have hs:(Xv acc).length =acc.length:=Xo acc;have key: ∀f s,∃N,Yj (Kz q L x y lo hi b) N (.to (.h1 (Xv acc) f s 0 1))=.ret [.int .i64 (wrap .i64 (sgL (gO q L x f s) (Xv acc)))]:=fun f s=>by
   obtain ⟨N,hN⟩:=w1k q L hl x y lo hi b hx (Xv acc) (by omega) f s ((Xv acc).length - 1) 0 0 (by omega);refine ⟨N,?_⟩;rw [show wrap .i64 0=0 from rfl,show ((0+1:Nat):Int)=1 from rfl,Ce] at hN;rw [hN]
   congr 4
   cases e:Xv acc with
   | nil=>rw [e] at hs;simp at hs;omega
   | cons a l=>rfl
  have g1:decide ((L.length:Int)<(L.length:Int))=false:=Ay (by omega);have g2:decide (acc.length<4611686018427387904)=true:=Ah (by omega);have g3:decide (acc.length=acc.length)=true:=Ah rfl;have wy:wrap .i64 (y - 1)=y - 1:=Zp (by omega);cases b with
  | true=>obtain ⟨N,hN⟩:=key y (y - 1);refine ⟨N+1,?_⟩;rw [Zv];simp only [Kz,g1,g2,g3,Wv,wy,AG,Ab,Aa];exact hN
  | false=>obtain ⟨N,hN⟩:=key (y - 1) y;refine ⟨N+1,?_⟩;rw [Zv];simp only [Kz,g1,g2,g3,Wv,wy,AK,Ab,Aa];exact hN
 | k+1,i,acc,h,ha,h2=>by
  have hi':i<L.length:=by omega
  have l1:=v1q lo hi (q.lo (rd L i));have l2:=v1q lo hi (q.hi (rd L i));obtain ⟨N,hN⟩:=u3a q L hl x y lo hi b hx hy k (i+1) (acc++v8g lo hi (q.lo (rd L i))++v8g lo hi (q.hi (rd L i))) (by omega) (by simp only [Az];omega) (by simp only [Az];omega);refine ⟨N+1,?_⟩;rw [Ym hi'];show _=Xf.ret [.int .i64 (wrap .i64 (sgL _ (Xv (acc++(v8g lo hi (q.lo (rd L i))++(v8g lo hi (q.hi (rd L i))++cutO q lo hi (L.drop (i+1))))))))];rw [←AL,←AL,←hN,Zv]
  congr 1
  have g1:decide ((i:Int)<(L.length:Int))=true:=Ah (by omega);have g2:decide (0≤(i:Int)∧(i:Int)<(L.length:Int))=true:=Ah (by omega);have w3:wrap .i64 ((i:Int)+1)=((i+1:Nat):Int):=by rw [Zp (by omega)];rfl
  have r1:decide ((acc.length+1+1)*(8+1)≤Ju)=true:=Zf (by omega);have r2:decide ((acc.length+1+1+1)*(8+1)≤Ju)=true:=Zf (by omega);have m1:decide (0+acc.length=acc.length)=true:=Ah (by omega);have m2:decide (0+(acc.length+1)=acc.length+1)=true:=Ah (by omega);have b1:Nat.beq 1 1=true:=rfl;unfold v8g;rcases Ye (decide (lo<q.lo (rd L i))) with q1 | q1 <;> rcases Ye (decide (q.lo (rd L i)<hi)) with q2 | q2 <;> rcases Ye (decide (lo<q.hi (rd L i))) with q3 | q3 <;> rcases Ye (decide (q.hi (rd L i)<hi)) with q4 | q4 <;>
   simp only [Kz,g1,g2,w3,Zk,q1,q2,q3,q4,r1,r2,m1,m2,b1,Ai,Al,Ab,Aa,AA]
theorem u7a (q:Ax) (L:List R6) (x y lo hi:Int) (b:Bool) (h:Ks q L x y lo hi b=true): ∃N,Yj (Kz q L x y lo hi b) N (y2a q L x y lo hi b)=.ret [.int .i64 (w4q q L x y lo hi b)]:=by
 have h:=AE h;unfold y2a w4q;rcases Ye (decide (lo≥hi)) with q1 | q1 <;> rw [q1]
 ·exact ⟨0,rfl⟩
 ·obtain ⟨N,hN⟩:=u3a q L h.1 x y lo hi b ⟨h.2.1,h.2.2.1⟩ ⟨h.2.2.2.1,h.2.2.2.2⟩ L.length 0 [lo,hi] (Ag _) (by simp) (by simp);exact ⟨N,hN⟩
def fMpu :List AVal→Option (AVal×Bool)
 | [.agg [.fn a [],.fn b [],.fn c []],a1,.int .i64 x2,.int .i64 x3,.int .i64 x4,.int .i64 x5,.bool x6]=>match axOf a b c,asL R6 a1 with
  | some q,some (L1,g1,n1)=>some (.int .i64 (w4q q L1 x2 x3 x4 x5 x6),isT R6 n1 g1&&(Ks q L1 x2 x3 x4 x5 x6))
  | _,_=>none
 | _=>none
theorem u9a {S:Specs} (hS:Zj prog S):Zj prog (S.with u2l fMpu):=by
 refine z3m hS (by kernel_rfl) fun args v h=> ?_;unfold fMpu at h;split at h
 ·rename_i a b c a1 x2 x3 x4 x5 x6;split at h
  ·rename_i q L1 g1 n1 eq e1;simp only [Ae,Ad,Ac] at h;obtain ⟨rfl,ho1,hw⟩:=h;obtain ⟨rfl,rfl,rfl⟩:=x9k eq;obtain ⟨N,hN⟩:=u7a q L1 x2 x3 x4 x5 x6 hw;exact ⟨_,_,(.cons (.refl _) (.cons (Yr e1 ho1) (.cons (.refl _) (.cons (.refl _) (.cons (.refl _) (.cons (.refl _) (.cons (.refl _) .nil))))))),rfl,v6y q L1 x2 x3 x4 x5 x6 N _ hN,3,rfl⟩
  ·cases h
 ·cases h
def Ni :Specs:=Mi.with u2l fMpu
theorem z5m :Zj prog Ni:=u9a z0k
inductive mpgS where
 | h0 (q:Ax) (v5:Int) (v26:Int)
 | h1 (q:Ax) (v5:Int) (v26:Int) (v33:List R6) (v34:Int) (v35:Int) (aN:Int) (aX:Int) (bF:Int) (bG:Int) (bL:Int) (bP:Int)
def x0k (l0:List R6):mpgS→Cfg
 | .h0 q v5 v26=>⟨⟨125,0,true⟩,none,(Zd prog 17 [1,1,1,0,1,0,0,1,1,0,0,1,1,0,0] 0),none,(Zy prog 15),⟨Yd [(0,(.dat l0.length (Zz l0))),(5,(ii v5)),(7,(.ptr 0 0)),(20,(.agg [(.fn 105 []),(.fn 106 []),(.fn 107 []),(.fn 108 []),(.fn 109 []),(.fn 110 []),(.fn 111 []),(.fn 112 []),(.fn 113 [])])),(21,(ii q.ix)),(24,(.dat l0.length (Zz l0))),(25,(ii (l0.length:Int))),(26,(ii v26))],Uy [⟨[(.fn (nV1 q) []),(.fn (nV2 q) []),(.fn (nV3 q) [])],84,none⟩] 0,1,[],true⟩,[],.leaf⟩
 | .h1 q v5 v26 v33 v34 v35 aN aX bF bG bL bP=>⟨⟨125,0,true⟩,none,(Zd prog 17 [1,1,1,0,1,0,0,1,1,0,0,1,1,0,0,1,1,0,0,1,1,0,0] 0),none,(Zy prog 15),⟨Yd [(0,(.dat l0.length (Zz l0))),(5,(ii v5)),(7,(.ptr 0 0)),(9,(.ptr 1 0)),(20,(.agg [(.fn 105 []),(.fn 106 []),(.fn 107 []),(.fn 108 []),(.fn 109 []),(.fn 110 []),(.fn 111 []),(.fn 112 []),(.fn 113 [])])),(21,(ii q.ix)),(24,(.dat l0.length (Zz l0))),(25,(ii (l0.length:Int))),(26,(ii v26)),(33,(.dat v33.length (Zz v33))),(34,(ii v34)),(35,(ii v35))],Uy [⟨[(.fn (nV1 q) []),(.fn (nV2 q) []),(.fn (nV3 q) [])],84,none⟩,⟨[(ii aN),(ii aX),(ii bF),(ii bG),(ii bL),(ii bP)],67,none⟩] 0,2,[],true⟩,[],.leaf⟩
def v7a :List (Option (List Nat)):=[some [0,5,7,20,21,24,25,26]]
def v7b :List (Option (List Nat)):=[]
def x0i :List (Option (List Nat)):=[some [0,5,7,9,20,21,24,25,26,33,34,35]]
def x0j :List (Option (List Nat)):=[]
def mpgE (q:Ax) (v5:Int):Xf mpgS:=match q with
 | .x =>(.to (.h0 .y v5 0))
 | .y =>(.to (.h0 .z v5 0))
 | .z =>(.ret [(.int .i64 v5),(.int .i64 0)])
def Wc (l0:List R6):mpgS→Xf mpgS
 | .h0 q v5 v26=>(bif (decide (v26<(l0.length:Int))) then (bif ((decide (0≤v26∧v26<(l0.length:Int)))&&true) then (bif (decide (0≤v26.toNat)) then (bif (decide (v26.toNat≤l0.length)) then (bif (decide (0≤v26)) then (.to (.h1 q v5 v26 (Jj l0 0 v26.toNat) ((v26.toNat:Nat):Int) 0 (rd l0 v26.toNat).a (rd l0 v26.toNat).b (rd l0 v26.toNat).c (rd l0 v26.toNat).d (rd l0 v26.toNat).e (rd l0 v26.toNat).f)) else .stuck) else .stuck) else .stuck) else .stuck) else (mpgE q v5))
 | .h1 q v5 v26 v33 v34 v35 aN aX bF bG bL bP=>(bif (decide (v35<v34)) then (bif ((decide (0≤v35∧v35<(v33.length:Int)))&&true) then (bif (decide ((q.rc (rd v33 v35.toNat)).a <(q.u aN aX))) then (bif ((q.rc (rd v33 v35.toNat)).c != (q.u aN aX)) then (.to (.h1 q v5 v26 v33 v34 (wrap .i64 (v35+1)) aN aX bF bG bL bP)) else (bif ((q.rc (rd v33 v35.toNat)).d != (q.w aX bF)) then (bif ((q.w bL bP) != (q.rc (rd v33 v35.toNat)).b) then (.to (.h1 q v5 v26 v33 v34 (wrap .i64 (v35+1)) aN aX bF bG bL bP)) else (bif (Ks q (cvT l0) (q.rc (rd v33 v35.toNat)).c (q.rc (rd v33 v35.toNat)).b (z5k (q.l aN aX bF) (q.lo (rd v33 v35.toNat))) (z5j (q.l bG bL bP) (q.hi (rd v33 v35.toNat))) ((q.rc (rd v33 v35.toNat)).d == (q.w aX bF))) then (.to (.h1 q (wrap .i64 (v5+(w4q q (cvT l0) (q.rc (rd v33 v35.toNat)).c (q.rc (rd v33 v35.toNat)).b (z5k (q.l aN aX bF) (q.lo (rd v33 v35.toNat))) (z5j (q.l bG bL bP) (q.hi (rd v33 v35.toNat))) ((q.rc (rd v33 v35.toNat)).d == (q.w aX bF))))) v26 v33 v34 (wrap .i64 (v35+1)) aN aX bF bG bL bP)) else .stuck)) else (bif (Ks q (cvT l0) (q.rc (rd v33 v35.toNat)).c (q.rc (rd v33 v35.toNat)).d (z5k (q.l aN aX bF) (q.lo (rd v33 v35.toNat))) (z5j (q.l bG bL bP) (q.hi (rd v33 v35.toNat))) ((q.rc (rd v33 v35.toNat)).d == (q.w aX bF))) then (.to (.h1 q (wrap .i64 (v5+(w4q q (cvT l0) (q.rc (rd v33 v35.toNat)).c (q.rc (rd v33 v35.toNat)).d (z5k (q.l aN aX bF) (q.lo (rd v33 v35.toNat))) (z5j (q.l bG bL bP) (q.hi (rd v33 v35.toNat))) ((q.rc (rd v33 v35.toNat)).d == (q.w aX bF))))) v26 v33 v34 (wrap .i64 (v35+1)) aN aX bF bG bL bP)) else .stuck))) else (bif ((q.u bG bL) != (q.rc (rd v33 v35.toNat)).a) then (.to (.h1 q v5 v26 v33 v34 (wrap .i64 (v35+1)) aN aX bF bG bL bP)) else (bif ((q.w bL bP) != (q.rc (rd v33 v35.toNat)).b) then (bif ((q.rc (rd v33 v35.toNat)).d != (q.w aX bF)) then (.to (.h1 q v5 v26 v33 v34 (wrap .i64 (v35+1)) aN aX bF bG bL bP)) else (bif (Ks q (cvT l0) (q.u bG bL) (q.w aX bF) (z5k (q.l aN aX bF) (q.lo (rd v33 v35.toNat))) (z5j (q.l bG bL bP) (q.hi (rd v33 v35.toNat))) ((q.w bL bP) == (q.rc (rd v33 v35.toNat)).b)) then (.to (.h1 q (wrap .i64 (v5+(w4q q (cvT l0) (q.u bG bL) (q.w aX bF) (z5k (q.l aN aX bF) (q.lo (rd v33 v35.toNat))) (z5j (q.l bG bL bP) (q.hi (rd v33 v35.toNat))) ((q.w bL bP) == (q.rc (rd v33 v35.toNat)).b)))) v26 v33 v34 (wrap .i64 (v35+1)) aN aX bF bG bL bP)) else .stuck)) else (bif (Ks q (cvT l0) (q.u bG bL) (q.w bL bP) (z5k (q.l aN aX bF) (q.lo (rd v33 v35.toNat))) (z5j (q.l bG bL bP) (q.hi (rd v33 v35.toNat))) ((q.w bL bP) == (q.rc (rd v33 v35.toNat)).b)) then (.to (.h1 q (wrap .i64 (v5+(w4q q (cvT l0) (q.u bG bL) (q.w bL bP) (z5k (q.l aN aX bF) (q.lo (rd v33 v35.toNat))) (z5j (q.l bG bL bP) (q.hi (rd v33 v35.toNat))) ((q.w bL bP) == (q.rc (rd v33 v35.toNat)).b)))) v26 v33 v34 (wrap .i64 (v35+1)) aN aX bF bG bL bP)) else .stuck)))) else .stuck) else (.to (.h0 q v5 (wrap .i64 (v26+1)))))
def y2b (l0:List R6):Xf mpgS:=(bif (z2f (cvT l0)) then (bif ((Xe (cvT l0)) != 0) then (.ret [(.int .i64 0),(.int .i64 (Xe (cvT l0)))]) else (.to (.h0 .x 0 0))) else .stuck)
theorem u7e (l0:List R6) (v5:Int) (v26:Int) (k0:(decide (v26<(l0.length:Int)))=false):Xq prog (Zy prog 17) (x0k l0) (x0k l0 (.h0 .x v5 v26)) (mpgE .x v5):=(sl z5m 36 [] ⟨[1],[],v7a,v7b⟩ ⟨[],[],[]⟩ [false,true,true,false] (tt k0 nn))
theorem u7d (l0:List R6) (v5:Int) (v26:Int) (k0:(decide (v26<(l0.length:Int)))=false):Xq prog (Zy prog 17) (x0k l0) (x0k l0 (.h0 .y v5 v26)) (mpgE .y v5):=(sl z5m 36 [] ⟨[1],[],v7a,v7b⟩ ⟨[],[],[]⟩ [false,true,true,true,false] (tt k0 nn))
theorem u7c (l0:List R6) (v5:Int) (v26:Int) (k0:(decide (v26<(l0.length:Int)))=false):Xq prog (Zy prog 17) (x0k l0) (x0k l0 (.h0 .z v5 v26)) (mpgE .z v5):=(lr 125 3 [1,1,1,1,1,1,1,0] 1 15 [(2,(ii v5)),(3,(ii 0))] (sl z5m 26 [] ⟨[],[],[some [2,3]],[]⟩ ⟨[],[],[]⟩ [false,false] (tt k0 nn)))
theorem mpg_ex (q:Ax) (l0:List R6) (v5:Int) (v26:Int) (k0:(decide (v26<(l0.length:Int)))=false):Xq prog (Zy prog 17) (x0k l0) (x0k l0 (.h0 q v5 v26)) (mpgE q v5):=match q with
 | .x =>u7e l0 v5 v26 k0
 | .y =>u7d l0 v5 v26 k0
 | .z =>u7c l0 v5 v26 k0
theorem mpg_s0 (q:Ax) (l0:List R6) (v5:Int) (v26:Int):Xq prog (Zy prog 17) (x0k l0) (x0k l0 (.h0 q v5 v26)) (Wc l0 (.h0 q v5 v26)):=by cases q <;> refine (?f: ∀q:Ax,Xq prog (Zy prog 17) (x0k l0) (x0k l0 (.h0 q v5 v26)) (Wc l0 (.h0 q v5 v26))) _ <;> exact fun q=>(lb (fun k0=>(lo fun o0=>(lo fun o1=>(lo fun o2=>(lo fun o3=>(sl z5m 28 [] ⟨[0,1],[],x0i,x0j⟩ ⟨[(33,.list (Jj l0 0 (tn v26)).length (Zz (Jj l0 0 (tn v26))))],[],[]⟩ [true] (pp (xL (tn v26) (Jj l0 0 (tn v26)).length) (pp (xS (tn v26) (fun k=>(Zz l0) (0+k)) (Zz (Jj l0 0 (tn v26)))) (pp (pp (xw o3) (pp nn (pp (xG (decide ((tn v26)≤l0.length))) (pp (xG (decide (0≤(tn v26)))) (xG (lenR l0.length (Zz l0) 6)))))) (ww o0 (tt k0 nn))))))))))) (fun k0=>mpg_ex q l0 v5 v26 k0))
theorem mpg_s1 (q:Ax) (l0:List R6) (v5:Int) (v26:Int) (v33:List R6) (v34:Int) (v35:Int) (aN:Int) (aX:Int) (bF:Int) (bG:Int) (bL:Int) (bP:Int):Xq prog (Zy prog 17) (x0k l0) (x0k l0 (.h1 q v5 v26 v33 v34 v35 aN aX bF bG bL bP)) (Wc l0 (.h1 q v5 v26 v33 v34 v35 aN aX bF bG bL bP)):=by cases q <;> refine (?f: ∀q:Ax,Xq prog (Zy prog 17) (x0k l0) (x0k l0 (.h1 q v5 v26 v33 v34 v35 aN aX bF bG bL bP)) (Wc l0 (.h1 q v5 v26 v33 v34 v35 aN aX bF bG bL bP))) _ <;> exact fun q=>(lb (fun k0=>(lo fun aG=>(lb (fun k1=>(lb (fun k2=>(sl z5m 64 [] ⟨[0,1],[],x0i,x0j⟩ ⟨[],[],[]⟩ (trs 10 []) (tt k2 (tt k1 (ww aG (tt k0 nn)))))) (fun k2=>(lb (fun k3=>(lb (fun k4=>(sl z5m 64 [] ⟨[0,1],[],x0i,x0j⟩ ⟨[],[],[]⟩ [true,true,false,false,false,false,false,false,true,true,true,true,true,false,true] (tt k4 (tt k3 (tt k2 (tt k1 (ww aG (tt k0 nn)))))))) (fun k4=>(lo fun o0=>(sl z5m 87 [] ⟨[0,1],[],x0i,x0j⟩ ⟨[],[],[]⟩ [true,true,false,false,false,false,false,false,true,true,true,true,true,false,false,true] (pp (pp (pp nn (pp nn (pp nn (pp nn (pp nn (pp nn (pp nn nn))))))) (pp (xr l0) (xw o0))) (tt k3 (tt k4 (tt k3 (tt k2 (tt k1 (ww aG (tt k0 nn))))))))))))) (fun k3=>(lo fun o0=>(sl z5m 83 [] ⟨[0,1],[],x0i,x0j⟩ ⟨[],[],[]⟩ [true,true,false,false,false,false,false,false,false,false,false,false,false,false,false,false] (pp (pp (pp nn (pp nn (pp nn (pp nn (pp nn (pp nn (pp nn nn))))))) (pp (xr l0) (xw o0))) (tt k3 (tt k3 (tt k2 (tt k1 (ww aG (tt k0 nn)))))))))))))) (fun k1=>(lb (fun k2=>(sl z5m 59 [] ⟨[0,1],[],x0i,x0j⟩ ⟨[],[],[]⟩ [true,false,true,true,true,true,true,true,true,true] (tt k2 (tt k1 (ww aG (tt k0 nn)))))) (fun k2=>(lb (fun k3=>(lb (fun k4=>(sl z5m 59 [] ⟨[0,1],[],x0i,x0j⟩ ⟨[],[],[]⟩ [true,false,false,false,false,false,false,false,true,true,true,true,true,false,true] (tt k4 (tt k3 (tt k2 (tt k1 (ww aG (tt k0 nn)))))))) (fun k4=>(lo fun o0=>(sl z5m 82 [] ⟨[0,1],[],x0i,x0j⟩ ⟨[],[],[]⟩ [true,false,false,false,false,false,false,false,true,true,true,true,true,false,false,true] (pp (pp (pp nn (pp nn (pp nn (pp nn (pp nn (pp nn (pp nn nn))))))) (pp (xr l0) (xw o0))) (tt k3 (tt k4 (tt k3 (tt k2 (tt k1 (ww aG (tt k0 nn))))))))))))) (fun k3=>(lo fun o0=>(sl z5m 78 [] ⟨[0,1],[],x0i,x0j⟩ ⟨[],[],[]⟩ [true,false,false,false,false,false,false,false,false,false,false,false,false,false,false,false] (pp (pp (pp nn (pp nn (pp nn (pp nn (pp nn (pp nn (pp nn nn))))))) (pp (xr l0) (xw o0))) (tt k3 (tt k3 (tt k2 (tt k1 (ww aG (tt k0 nn))))))))))))))))) (fun k0=>(sl z5m 13 [] ⟨[0],[],v7a,v7b⟩ ⟨[],[],[]⟩ [false] (tt k0 nn))))
theorem w4r (l0:List R6): ∀s,Xq prog (Zy prog 17) (x0k l0) (x0k l0 s) (Wc l0 s)
 | .h0 q v5 v26=>mpg_s0 q l0 v5 v26
 | .h1 q v5 v26 v33 v34 v35 aN aX bF bG bL bP=>mpg_s1 q l0 v5 v26 v33 v34 v35 aN aX bF bG bL bP
theorem x7c (l0:List R6):Xq prog (Zy prog 17) (x0k l0) (Zc prog 17 [(.dat l0.length (Zz l0))] true []) (y2b l0):=(lo fun bU=>(lb (fun k0=>(lr 125 17 [1,0,1,1,0,0] 1 15 [(2,(ii 0)),(3,(ii (Xe (cvT l0))))] (sl z5m 24 [] ⟨[],[],[some [2,3]],[]⟩ ⟨[],[],[]⟩ [true] (tt k0 (pp (pp (xr l0) (xw bU)) nn))))) (fun k0=>(sl z5m 67 [] ⟨[1],[],v7a,v7b⟩ ⟨[],[],[]⟩ [false,true,false] (tt k0 (pp (pp (xr l0) (xw bU)) nn))))))
theorem v6z (l0:List R6) (n:Nat) (vs:List AVal) (h:Yj (Wc l0) n (y2b l0)=.ret vs):Kv prog (Zy prog 17) (Zc prog 17 [(.dat l0.length (Zz l0))] true []) vs:=by have:=Zn (w4r l0) n _ (x7c l0);rwa [h] at this
theorem chg {L:List R2} (h:Can L) {y:Int} (hy:y∈z9q L) (hS:pt L (y - 1)↔pt L y):False:=by
 obtain ⟨s,hs,h1⟩:=AO.1 hy;have hp:=h.pos s hs;have sepL: ∀t∈L,t=s∨t.b<s.a∨s.b<t.a:=fun t ht=>by
  obtain ⟨i,hi,ei⟩:=AZ hs;obtain ⟨j,hj,ej⟩:=AZ ht;have pw:=Be.1 h.sep;rcases Bs i j with q | q | q
  ·have:=pw i j hi hj q;rw [ei,ej] at this;exact .inr (.inr this)
  ·subst q;exact .inl (ej.symm.trans ei)
  ·have:=pw j i hj hi q;rw [ei,ej] at this;exact .inr (.inl this)
 simp only [AB,Bm,Ca] at h1;rcases h1 with rfl | rfl
 ·obtain ⟨t,ht,t1,t2⟩:=hS.2 ⟨s,hs,A1 _,hp⟩;rcases sepL t ht with rfl | q | q <;> omega
 ·obtain ⟨t,ht,t1,t2⟩:=hS.1 ⟨s,hs,by omega,by omega⟩;rcases sepL t ht with rfl | q | q <;> omega
theorem x3c : ∀(l S:List Int),l.Pairwise (· ≠ ·)→(∀x∈l,x∈S)→l.length≤S.length
 | [],S,_,_=>AJ _
 | x::l,S,h,hs=>by obtain ⟨h1,h2⟩:=AR.1 h;have hx:=hs x (by simp);have:=x3c l (S.erase x) h2 fun y hy=>(List.mem_erase_of_ne (fun e=>h1 y hy e.symm)).2 (hs y (by simp [hy]));rw [List.length_erase_of_mem hx] at this;have:=List.length_pos_of_mem hx;simp only [AV];omega
theorem u4p {a b:List R2} (ha:a.all z1j=true) (hb:b.all z1j=true):(spJ 2 a b).length +(spJ 2 b a).length ≤a.length+b.length:=by
 obtain ⟨c1,p1⟩:=z8r 2 ha hb;obtain ⟨c2,p2⟩:=z8r 2 hb ha;have q1: ∀y,pt (spJ 2 a b) y↔pt a y∧ ¬pt b y:=fun y=>by rw [show pt (spJ 2 a b) y↔_ from p1 y];unfold opB;simp
 have q2: ∀y,pt (spJ 2 b a) y↔pt b y∧ ¬pt a y:=fun y=>by rw [show pt (spJ 2 b a) y↔_ from p2 y];unfold opB;simp
 have f: ∀y:Int,∃z,(z=2*y∧ ¬(pt a (y - 1)↔pt a y))∨(z=2*y+1∧(pt a (y - 1)↔pt a y)):=fun y=>by
  by_cases h:pt a (y - 1)↔pt a y
  ·exact ⟨_,.inr ⟨rfl,h⟩⟩
  ·exact ⟨_,.inl ⟨rfl,h⟩⟩
 have g: ∀y:Int,∃z,(z=2*y+1∧ ¬(pt b (y - 1)↔pt b y))∨(z=2*y∧(pt b (y - 1)↔pt b y)):=fun y=>by
  by_cases h:pt b (y - 1)↔pt b y
  ·exact ⟨_,.inr ⟨rfl,h⟩⟩
  ·exact ⟨_,.inl ⟨rfl,h⟩⟩
 obtain ⟨f,hf⟩:=Classical.axiomOfChoice f;obtain ⟨g,hg⟩:=Classical.axiomOfChoice g;have key:=x3c ((z9q (spJ 2 a b)).map f++(z9q (spJ 2 b a)).map g) ((z9q a).map (2* ·)++(z9q b).map (2* · +1)) (by
  refine Bv.2 ⟨Ci.2 ((y5f c1).imp fun {x y} h=> ?_),Ci.2 ((y5f c2).imp fun {x y} h=> ?_),?_⟩
  ·have:=hf x;have:=hf y;omega
  ·have:=hg x;have:=hg y;omega
  ·intro x hx z hz;obtain ⟨y,hy,rfl⟩:=AN.1 hx;obtain ⟨y',hy',rfl⟩:=AN.1 hz;intro e;have e1:y'=y:=by have:=hf y;have:=hg y';omega
   subst e1;have n1:=chg c1 hy;have n2:=chg c2 hy';rw [q1,q1] at n1;rw [q2,q2] at n2;rcases hf y' with ⟨e1,h1⟩ | ⟨e1,h1⟩ <;> rcases hg y' with ⟨e2,h2⟩ | ⟨e2,h2⟩
   ·omega
   ·by_cases h3:pt b y'
    ·exact n1 (by simp [h2,h3])
    ·exact n2 (by simp [h2,h3])
   ·by_cases h3:pt a y'
    ·exact n2 (by simp [h1,h3])
    ·exact n1 (by simp [h1,h3])
   ·omega) (by
  intro x hx;rcases AC.1 hx with hx | hx
  ·obtain ⟨y,hy,rfl⟩:=AN.1 hx;have n1:=chg c1 hy;rw [q1,q1] at n1;rcases hf y with ⟨e1,h1⟩ | ⟨e1,h1⟩
   ·refine AC.2 (.inl (AN.2 ⟨y,AP fun hn=>h1 (z8x hn),e1.symm⟩))
   ·refine AC.2 (.inr (AN.2 ⟨y,AP fun hn=>n1 (by rw [h1,z8x hn]),e1.symm⟩))
  ·obtain ⟨y,hy,rfl⟩:=AN.1 hx;have n1:=chg c2 hy;rw [q2,q2] at n1;rcases hg y with ⟨e1,h1⟩ | ⟨e1,h1⟩
   ·refine AC.2 (.inr (AN.2 ⟨y,AP fun hn=>h1 (z8x hn),e1.symm⟩))
   ·refine AC.2 (.inl (AN.2 ⟨y,AP fun hn=>n1 (by rw [h1,z8x hn]),e1.symm⟩)))
 simp only [Az,A3,z1c] at key;omega
theorem z2a : ∀(l m:List Int),l.Pairwise (· < ·)→m.Pairwise (· < ·)→(∀x,x∈l↔x∈m)→l=m
 | [],[],_,_,_=>rfl
 | [],y::m,_,_,h=>by have:=(h y).2 (by simp);cases this
 | x::l,[],_,_,h=>by have:=(h x).1 (by simp);cases this
 | x::l,y::m,hl,hm,h=>by
  obtain ⟨l1,l2⟩:=AR.1 hl;obtain ⟨m1,m2⟩:=AR.1 hm;have e:x=y:=by
   have hx:=(h x).1 (by simp);have hy:=(h y).2 (by simp);rcases AB.1 hx with hx | hx
   ·exact hx
   ·rcases AB.1 hy with hy | hy
    ·exact hy.symm
    ·have:=l1 y hy;have:=m1 x hx;omega
  subst e
  congr 1
  refine z2a l m l2 m2 fun z=>⟨fun hz=> ?_,fun hz=> ?_⟩
  ·have:=l1 z hz;rcases AB.1 ((h z).1 (by simp [hz])) with q | q
   ·omega
   ·exact q
  ·have:=m1 z hz;rcases AB.1 ((h z).2 (by simp [hz])) with q | q
   ·omega
   ·exact q
namespace Dim
variable {α β:Type} {D:Dim α β}
theorem w2q (l:List α):(D.cuts l).Pairwise (· < ·):=by show (Jp (D.ends l)).Pairwise (· < ·);rw [Ja];exact (Wx _).1
theorem cuts_mem (l:List α) (x:Int):x∈D.cuts l↔x∈D.ends l:=by show x∈Jp (D.ends l)↔_;rw [Ja];exact (Wx _).2 x
theorem w2o (l:List α) (x:Int):x∈D.ends l↔ ∃r∈l,x=D.lo r∨x=D.hi r:=by
 induction l with
 | nil=>exact ⟨fun h=>(by cases h),fun ⟨r,h,_⟩=>(by cases h)⟩
 | cons r l ih=>
  show x∈D.lo r::D.hi r::D.ends l↔_;rw [AB,AB,ih];constructor
  ·rintro (h | h | ⟨s,hs,h⟩)
   ·exact ⟨r,by simp,.inl h⟩
   ·exact ⟨r,by simp,.inr h⟩
   ·exact ⟨s,by simp [hs],h⟩
  ·rintro ⟨s,hs,h⟩;rcases AB.1 hs with rfl | hs
   ·rcases h with h | h
    ·exact .inl h
    ·exact .inr (.inl h)
   ·exact .inr (.inr ⟨s,hs,h⟩)
theorem cuts_comm (a b:List α):D.cuts (a++b)=D.cuts (b++a):=z2a _ _ (w2q _) (w2q _) fun x=>by
 rw [cuts_mem,cuts_mem,w2o,w2o];constructor <;> exact fun ⟨r,hr,h⟩=>⟨r,by rw [AC] at*;exact hr.symm,h⟩
end Dim
theorem v6c {a b:List R4} (ha: ∀r∈a,Vp r=true) (hb: ∀r∈b,Vp r=true):(rgJ 2 a b).length +(rgJ 2 b a).length ≤(a.length+b.length)*(a.length+b.length):=by
 have hv: ∀r∈a++b,D4.lo r<D4.hi r:=fun r hr=>by
  have hv:Vp r=true:=by
   rcases AC.1 hr with h | h
   ·exact ha r h
   ·exact hb r h
  simp only [Vp,Ac,Aq] at hv;exact hv.1
 have g1:=D4.goS_length (fun x=>spJ 2 (D4.inn a x) (D4.inn b x)) (D4.cuts (a++b)) ((D4.cuts (a++b)).length - 1) 0 ⟨[],[],0,0⟩;have g2:=D4.goS_length (fun x=>spJ 2 (D4.inn b x) (D4.inn a x)) (D4.cuts (a++b)) ((D4.cuts (a++b)).length - 1) 0 ⟨[],[],0,0⟩;have h2:=D4.open_sum (a++b) hv ((D4.cuts (a++b)).length - 1) (Nat.sub_le _ _);have e1:(rgJ 2 b a).length =(D4.goS (fun x=>spJ 2 (D4.inn b x) (D4.inn a x)) (D4.cuts (a++b)) ((D4.cuts (a++b)).length - 1) 0 ⟨[],[],0,0⟩).out.length :=by unfold rgJ;rw [Dim.cuts_comm b a]
 have e2:(rgJ 2 a b).length =(D4.goS (fun x=>spJ 2 (D4.inn a x) (D4.inn b x)) (D4.cuts (a++b)) ((D4.cuts (a++b)).length - 1) 0 ⟨[],[],0,0⟩).out.length :=rfl;rw [e1,e2];rw [Az] at h2;refine AF (Nat.add_le_add g1 g2) (AF ?_ h2);simp only [BV,Ag];generalize (D4.cuts (a++b)).length - 1=k
 induction k with
 | zero=>exact An _
 | succ k ih=>rw [Cf,Bq,Bq,Bq,BW,BW,BW];have:=u4p (Vk ha (rd (D4.cuts (a++b)) k)) (Vk hb (rd (D4.cuts (a++b)) k));simp only [AW,Bg,Bf,List.sum_nil];rw [D4.inn_append,Az];omega
open Go.Proofs Go.Sort Go.Shelf Go.RowKit Go.Lib
def inS (X:List R6) (x y z:Int):Prop:= ∃r∈X,(r.a≤x∧x<r.d)∧(r.b≤y∧y<r.e)∧(r.c≤z∧z<r.f)
theorem v1r (X:List R6) (x y z:Int):inS X x y z↔ptL x2e.inB X (z,x,y):=by
 constructor
 ·rintro ⟨r,hr,h1,h2,h3⟩;exact ⟨r,hr,h3.1,h3.2,h1.1,h1.2,h2.1,h2.2⟩
 ·rintro ⟨r,hr,h1,h2,h3,h4,h5,h6⟩;exact ⟨r,hr,⟨h3,h4⟩,⟨h5,h6⟩,h1,h2⟩
namespace Dim
variable {α β:Type} {D:Dim α β}
theorem u8a (hD:D.Fair) (s:List β) (a b x:Int):D.inn (s.map (D.put a b)) x=if a≤x∧x<b then s else []:=by
 unfold inn;have e:(s.map (D.put a b)).filter (fun r=>decide (D.lo r≤x)&&decide (x<D.hi r))=if a≤x∧x<b then s.map (D.put a b) else []:=by
  split
  ·rename_i h;refine List.filter_eq_self.2 fun r hr=> ?_;obtain ⟨c,_,rfl⟩:=AN.1 hr;rw [hD.lo_put,hD.hi_put,Ah h.1,Ah h.2];rfl
  ·rename_i h;refine BG.2 fun r hr hq=>h ?_;obtain ⟨c,_,rfl⟩:=AN.1 hr;rw [hD.lo_put,hD.hi_put,Ac] at hq;exact ⟨AE hq.1,AE hq.2⟩
 rw [e];split
 ·rw [List.map_map];exact (List.map_congr_left fun c _=>hD.pr_put a b c).trans (List.map_id _)
 ·rfl
theorem inn_can (hD:D.Fair) {γ:Type} (M:Sem β γ) (x:Int): ∀G:List (Qs β),z2c M G→M.can (D.inn (D.flat G) x)
 | [],_=>M.nil
 | g::r,h=>by
  rw [show D.flat (g::r)=g.s.map (D.put g.a g.b)++D.flat r from rfl,D.inn_append,u8a hD];split
  ·rename_i hx;have e:D.inn (D.flat r) x=[]:=by unfold inn;rw [Cl,BG];intro a ha hq;obtain ⟨k,hk,ha⟩:=AO.1 ha;obtain ⟨c,_,rfl⟩:=AN.1 ha;rw [hD.lo_put,Ac] at hq;have h1:=AE hq.1;have:=h.later k hk;omega
   rw [e,AA];exact h.head.2.1
  ·rw [Bk];exact inn_can hD M x r h.tail
end Dim
theorem z4p {L:List R6} (hl:L.length≤400) (hv: ∀r∈L,Qu r=true) (hc:x2e.can L):Xe L=0:=by
 have hi: ∀z,D4.out (D6.inn L z)=D6.inn L z:=fun z=>by obtain ⟨h1,h2⟩:=Km (y5i hv z) (AF (D6.inn_length L z) hl);obtain ⟨G,hG,e⟩:=hc;exact Xt.uniq _ _ h1 (by rw [e];exact Dim.inn_can z3g Xt z G hG) h2
 have hs:Secs L:=fun z=>by rw [hi z];exact AF (D6.inn_length L z) hl
 obtain ⟨h1,h2⟩:=u4y hv hl hs;have e:=x2e.uniq _ _ h1 hc h2;have ok: ∀k i,okF L k i=true:=fun k=>by
  induction k with
  | zero=>intro i;rfl
  | succ k ih=>intro i;show (bif Xm (D6.inn L (rd (D6.cuts L) i)) != 0 then false else okF L k (i+1))=true;rw [(z7d (y5i hv _) (AF (D6.inn_length L _) hl) (hs _)).2];exact ih (i+1)
 unfold Xe;rw [Ay (by omega),As.2 hv,ok,e,Ay (by omega),show Kk L L=true from Ah rfl];rfl
theorem j0n {L:List R6} (hc:x2e.can L) (hb: ∀x y z,inS L x y z→(-1000000≤x∧x<1000000)∧(-1000000≤y∧y<1000000)∧(-1000000≤z∧z<1000000)): ∀r∈L,Qu r=true:=fun r hr=>by
 have hp:r.a<r.d∧r.b<r.e∧r.c<r.f:=by obtain ⟨G,hG,e⟩:=hc;rw [e] at hr;obtain ⟨g,hg,hr⟩:=AO.1 hr;obtain ⟨b,hb,rfl⟩:=AN.1 hr;obtain ⟨h1,⟨H,hH,e2⟩,_⟩:=hG.all g hg;rw [e2] at hb;obtain ⟨k,hk,hb⟩:=AO.1 hb;obtain ⟨c,hc,rfl⟩:=AN.1 hb;obtain ⟨h2,h3,_⟩:=hH.all k hk;exact ⟨h2,Can.pos h3 c hc,h1⟩
 have h1:=hb r.a r.b r.c ⟨r,hr,by omega,by omega,by omega⟩;have h2:=hb (r.d - 1) (r.e - 1) (r.f - 1) ⟨r,hr,by omega,by omega,by omega⟩;rw [v9q];simp only [w6w,Ac,Aq];omega
end Go.Am
end
