/- A part of a proof: several texts in one. -/
import Derived.Test.YtpddoeiakpbkbaaGreatLi3
set_option maxRecDepth 1000000
set_option maxHeartbeats 8000000
set_option linter.unusedVariables false
set_option linter.unusedSimpArgs false
noncomputable section
namespace Go.Am
open IntKind (wrap)
open Go.Proofs.Tryz
open Go.Proofs Go.Sort Go.Shelf Go.RowKit Go.Lib
theorem w6y {i n:Nat} (h:i<n):decide ((i:Int)<(n:Int))=true:=Ai (by omega)
theorem z9x {σ:Type} (step:σ→Xu σ) (a b:Nat) (s:Xu σ):Yy step (a+b) s=Yy step a (Yy step b s):=by
 induction b generalizing s with
 | zero=>cases s <;> simp [Yy]
 | succ b ih=>cases s with
  | to s=>exact ih (step s)
  | ret vs=>simp only [Zp]
  | stuck=>cases a <;> cases b <;> rfl
theorem v8d {i:Nat}:decide ((i:Int)≥0)=true:=Ai (by omega)
def z2g {α:Type} [Xx α] (out:List α):List AVal:=bif decide ((out.length:Int)>400) then [.nils,.int .i64 4] else [.dat out.length (Zz out),.int .i64 0]
def z6p {α:Type} [Xx α] (e:Int) (L:List α):List AVal:=bif e != 0 then [.nils,.int .i64 e] else [.dat L.length (Zz L),.int .i64 0]
def z4t {α:Type} (e:Int) (L:List α):List α:=bif e != 0 then [] else L
theorem Kx {α:Type} [Xx α] (e:Int) (L:List α) (ρ:Rho) (u:Value) (hu:Yw ρ (z0h (z6p e L)) u):Yw ρ (.tup [.dat (z4t e L).length (Zz (z4t e L)),.int .i64 e]) u:=by
 unfold z6p at hu;unfold z4t;by_cases h:e=0
 ·subst h;exact hu
 ·have h:(e != 0)=true:=by simpa using h
  rw [h] at hu ⊢;exact y6b (.cons (z7u α) (RLe.refl _)) ρ u hu
theorem z1c {α:Type} [Xx α] (e:Int) (L:List α):pf 3 (z0h (z6p e L))=true:=by unfold z6p;cases (e != 0) <;> rfl
def y9l (n:Nat):Int:=bif decide ((n:Int)>400) then 4 else 0
theorem y8h {α:Type} [Xx α] (L:List α):z2g L=z6p (y9l L.length) L:=by unfold z2g z6p y9l;cases decide ((L.length:Int)>400) <;> rfl
theorem Wx {α:Type} [Xx α] {e:Int} (L:List α) (h:(e != 0)=true):z6p e L=[.nils,.int .i64 e]:=by unfold z6p;rw [h];rfl
theorem y9v : ∀(L:List R3) (o last:Int) (inn:Bool) (out:List R2),(swF L o last inn out).length ≤out.length+L.length
 | [],_,_,_,out=>Ar _
 | e::r,o,last,inn,out=>by rw [y3x];have:=y9v r (o+e.c) e.a (decide (o+e.c>0)) (Vi out last inn e.a);have:=z4d out last inn e.a;simp only [AU];omega
theorem y6h (l:List R3):(z1x l).length =l.length:=by
 by_cases h:y3l l=true
 ·exact (Qh l h).1.length_eq
 ·unfold z1x;rw [dif_neg h]
theorem x9h (l:List R2):(Xh l).length ≤800:=by
 unfold Xh;by_cases h:400<l.length
 ·rw [Ai h];exact AD _
 ·rw [An h];cases l.all z1j
  ·exact AD _
  ·show (swV l).length ≤800;have h1:=y9v (z1x (Qx l)) 0 0 false [];rw [y6h,z5s] at h1;simp only [Bs] at h1;unfold swV;omega
def Vo (r:R4):Bool:=decide (r.a<r.c)&&(decide (r.b<r.d)&&(decide (r.a≥ -1000000)&&(decide (r.a≤1000000)&&(decide (r.c≥ -1000000)&&(decide (r.c≤1000000)&&(decide (r.b≥ -1000000)&&(decide (r.b≤1000000)&&(decide (r.d≥ -1000000)&&decide (r.d≤1000000)))))))))
def D4 :Dim R4 R2:=⟨R4.a,R4.c,fun r=>⟨r.b,r.d⟩,fun x x' s=>⟨x,s.a,x',s.b⟩,fun x r=>⟨r.a,r.b,x,r.d⟩,Xh,Qu⟩
theorem D4_sec (l:List R4) (x:Int):(D4.sec l x).length ≤1000:=AK (x9h _) (by omega)
section
variable (l:List R4) (hl:l.length≤400)
include hl
theorem j0b (i:Nat) (out:List R4) (last:List R2) (first fin x x':Int): ∀(k j:Nat) (acc:List R2),j+k=l.length→acc.length≤j→
  ∃n,∀N,Yy (Xn l) (N+n) (.to (.h2 (i:Int) (j:Int) out last first fin ((D4.cuts l).length) (Wo (Xf (D4.ends l))) x x' acc))=Yy (Xn l) N (.to (.h2 (i:Int) (l.length:Int) out last first fin ((D4.cuts l).length) (Wo (Xf (D4.ends l))) x x' (acc++D4.inn (l.drop j) x)))
 | 0,j,acc,h,ha=>by refine ⟨0,fun N=> ?_⟩;rw [Au (by omega),show D4.inn ([]:List R4) x=[] from rfl,Az,A3,show j=l.length by omega]
 | k+1,j,acc,h,ha=>by
  have hj:j<l.length:=by omega
  obtain ⟨n,hn⟩:=j0b i out last first fin x x' k (j+1) (acc++D4.inn [rd l j] x) (by omega) (by have:=D4.inn_length [rd l j] x;simp only [Aw,Bo] at*;omega)
  refine ⟨n+1,fun N=> ?_⟩;have e:D4.inn (l.drop j) x=D4.inn [rd l j] x++D4.inn (l.drop (j+1)) x:=by rw [Yg hj,←D4.inn_append];rfl
  rw [e,←AB,Zv,←AL,←hn N];by_cases h1:D4.lo (rd l j)≤x
  ·by_cases h2:x<D4.hi (rd l j)
   ·rw [D4.inn_t _ _ h1 h2];simp only [D4] at h1 h2 ⊢;simp (disch:=omega) only [Xn,Xo,Zg,Zq,Zi,Zf,Yb,Yu,Yp,Zh,Zk,Zx,Yc,Zj,Ag,Av,Ah,Aj,Ab,Aa]
   ·rw [D4.inn_f2 _ _ h2,Az];simp only [D4] at h1 h2;simp (disch:=omega) only [Xn,Xo,Zt,Zg,Zq,Zi,Zf,Yb,Yu,Yp,Zh,Zk,Zx,Yc,Zj,Ag,Av,Ah,Aj,Ab,Aa]
  ·rw [D4.inn_f1 _ _ h1,Az];simp only [D4] at h1;simp (disch:=omega) only [Xn,w3i,Zg,Zq,Zi,Zf,Yb,Yu,Yp,Zh,Zk,Zx,Yc,Zj,Ag,Av,Ah,Aj,Ab,Aa]
theorem j0a (i:Nat) (hi:i≤1000) (x x':Int) (s last:List R2) (first:Int) (inn:List R2) (hs:s.length≤1000): ∀(k j:Nat) (out:List R4),j+k=s.length→out.length≤10000000+j→
  ∃n,∀N,Yy (Xn l) (N+n) (.to (.h3 x x' s (s.length:Int) (j:Int) s (i:Int) out last first ((D4.cuts l).length) (Wo (Xf (D4.ends l))) inn))=Yy (Xn l) N (.to (.h1 ((i+1:Nat):Int) (out++(s.drop j).map (D4.put x x')) last first x' ((D4.cuts l).length) (Wo (Xf (D4.ends l)))))
 | 0,j,out,h,ho=>by have _u:=hl;refine ⟨1,fun N=> ?_⟩;rw [Au (by omega),Zv];simp (disch:=omega) only [Xn,Zt,Zk,Zx,Aa,Bd,Az]
 | k+1,j,out,h,ho=>by
  obtain ⟨n,hn⟩:=j0a i hi x x' s last first inn hs k (j+1) (out++[D4.put x x' (rd s j)]) (by omega) (by simp;omega)
  refine ⟨n+1,fun N=> ?_⟩;have:=hn N;rw [Yg (show j<s.length by omega),AY,←AB,Zv];simp (disch:=omega) only [Xn,Zg,Zq,Zi,Zf,Yb,Yu,Yp,Zh,Zk,Zx,Yc,Zj,Ag,Av,Ah,Aj,Ab,Aa];rw [AL] at this;exact this
theorem u9z (i:Nat) (hi:i≤1000) (x x' fin:Int) (s last:List R2) (first:Int) (inn:List R2): ∀(k j:Nat) (out:List R4),j+k=out.length→out.length≤10000000→
  ∃n,∀N,Yy (Xn l) (N+n) (.to (.h4 x' (j:Int) x s (i:Int) out last first fin ((D4.cuts l).length) (Wo (Xf (D4.ends l))) inn))=Yy (Xn l) N (.to (.h1 ((i+1:Nat):Int) (D4.grow out j x') last first x' ((D4.cuts l).length) (Wo (Xf (D4.ends l)))))
 | 0,j,out,h,ho=>by have _u:=hl;refine ⟨1,fun N=> ?_⟩;rw [D4.grow_nil _ _ _ (by omega),Zv];simp (disch:=omega) only [Xn,Zt,Zk,Zx,Aa]
 | k+1,j,out,h,ho=>by
  obtain ⟨n,hn⟩:=u9z i hi x x' fin s last first inn k (j+1) (out.set j (D4.ext x' (rd out j))) (by simp;omega) (by simpa using ho)
  refine ⟨n+1,fun N=> ?_⟩;have:=hn N;rw [D4.grow_set out j _ (by omega)] at this;rw [←AB,Zv];simp (disch:=omega) only [Xn,Zg,Zq,Zi,Zf,Yb,Yu,Yp,Zh,Zk,Zx,Yc,Zj,Ag,Av,Ah,Aj,Ab,Aa];exact this
theorem v6p : ∀(k i:Nat) (s:Sw R4 R2),k=(D4.cuts l).length - 1 - i→i≤(D4.cuts l).length →s.out.length≤i*1000→s.last.length≤1000→s.first≤s.out.length→
  ∃n,Yy (Xn l) n (.to (.h1 ((i+1:Nat):Int) s.out s.last (s.first:Int) s.fin ((D4.cuts l).length) (Wo (Xf (D4.ends l)))))=.ret (z2g (D4.go l k i s).out)
 | 0,i,s,h,hi,ho,hla,hf=>by
  have hc:=D4.cuts_length l;refine ⟨1,?_⟩;rw [Zv,show D4.go l 0 i s=s from rfl];unfold z2g;by_cases q:(s.out.length:Int)>400
  ·simp (disch:=omega) only [Xn,Zt,Yt,Ab,Aa,Zp]
  ·simp (disch:=omega) only [Xn,Zt,Xc,Ab,Aa,Zp]
 | k +1,i,s,h,hi,ho,hla,hf=>by
  have hc:=D4.cuts_length l;have hi1:i+1<(D4.cuts l).length :=by omega
  have hpl:(Wo (Xf (D4.ends l))).length =2*l.length:=by rw [Ju,Vr,D4.ends_length]
  have r0:rd (Wo (Xf (D4.ends l))) i=rd (D4.cuts l) i:=z6y _ _ (by show i<(D4.cuts l).length;omega);have r1:rd (Wo (Xf (D4.ends l))) (i+1)=rd (D4.cuts l) (i+1):=z6y _ _ (by show i+1<(D4.cuts l).length;omega);have hbig:i*1000≤1000*1000:=AH _ (by omega);have hsl:=D4_sec l (rd (D4.cuts l) i);have hsd:D4.sec l (rd (D4.cuts l) i)=Xh (D4.inn l (rd (D4.cuts l) i)):=rfl;obtain ⟨n3,h3⟩:=j0b l hl (i+1) s.out s.last (s.first:Int) s.fin (rd (D4.cuts l) i) (rd (D4.cuts l) (i+1)) l.length 0 [] (Ag _) (Ar _);simp only [AX,Bc,z4q] at h3;have w1:y6i (D4.inn l (rd (D4.cuts l) i))=true:=rfl;have w2:Vs s.last (Xh (D4.inn l (rd (D4.cuts l) i)))=true:=Ai (by omega);have ol:=D4.one_length l (rd (D4.cuts l) i) (rd (D4.cuts l) (i+1)) s;have st0: ∀N,Yy (Xn l) (N+n3+1) (.to (.h1 ((i+1:Nat):Int) s.out s.last (s.first:Int) s.fin ((D4.cuts l).length) (Wo (Xf (D4.ends l)))))=Yy (Xn l) N (.to (.h2 ((i+1:Nat):Int) (l.length:Int) s.out s.last (s.first:Int) s.fin ((D4.cuts l).length) (Wo (Xf (D4.ends l))) (rd (D4.cuts l) i) (rd (D4.cuts l) (i+1)) (D4.inn l (rd (D4.cuts l) i)))):=fun N=>by
   rw [←h3 N,Zv];have e1:wrap .i64 (((i+1:Nat):Int) - 1)=(i:Int):=by rw [Yz];exact Zk (by omega)
   simp (disch:=omega) only [Xn,e1,r0,r1,Zg,Zq,Zi,Zf,Yb,Yu,Yp,Zh,Zk,Zx,Yc,Zj,Ag,Av,Ah,Aj,Ab,Aa]
  rcases Yx (decide (0<(D4.sec l (rd (D4.cuts l) i)).length)&&((s.fin == rd (D4.cuts l) i)&&D4.same s.last (D4.sec l (rd (D4.cuts l) i)))) with q | q
  ·obtain ⟨n5,h5⟩:=u9z l hl (i+1) (by omega) (rd (D4.cuts l) i) (rd (D4.cuts l) (i+1)) s.fin (D4.sec l (rd (D4.cuts l) i)) s.last (s.first:Int) (D4.inn l (rd (D4.cuts l) i)) (s.out.length - s.first) s.first s.out (by omega) (by omega)
   have e:D4.one l (rd (D4.cuts l) i) (rd (D4.cuts l) (i+1)) s=⟨D4.grow s.out s.first (rd (D4.cuts l) (i+1)),s.last,s.first,rd (D4.cuts l) (i+1)⟩:=by unfold Dim.one;rw [q];rfl
   obtain ⟨n0,h0⟩:=v6p k (i+1) (D4.one l (rd (D4.cuts l) i) (rd (D4.cuts l) (i+1)) s) (by omega) (by omega) (by omega) (by rw [e];exact hla) (by rw [e];simpa [Dim.grow_length] using hf);refine ⟨n0+n5+1+n3+1,?_⟩;rw [st0 (n0+n5+1),Zv];simp only [Ac,As] at q;obtain ⟨q1,q2,q3⟩:=q;have q3':Qu s.last (Xh (D4.inn l (rd (D4.cuts l) i)))=true:=q3;rw [hsd] at q1;simp (disch:=omega) only [Xn,Zg,Zq,Zt,Yt,q2,q3',w1,w2,Ab,Aa];rw [←hsd,h5 n0];simp only [Dim.go];rw [e] at h0 ⊢;exact h0
  ·obtain ⟨n4,h4⟩:=j0a l hl (i+1) (by omega) (rd (D4.cuts l) i) (rd (D4.cuts l) (i+1)) (D4.sec l (rd (D4.cuts l) i)) (D4.sec l (rd (D4.cuts l) i)) (s.out.length:Int) (D4.inn l (rd (D4.cuts l) i)) hsl (D4.sec l (rd (D4.cuts l) i)).length 0 s.out (Ag _) (by omega);simp only [AX,z4q] at h4;have e:D4.one l (rd (D4.cuts l) i) (rd (D4.cuts l) (i+1)) s=⟨s.out++(D4.sec l (rd (D4.cuts l) i)).map (D4.put (rd (D4.cuts l) i) (rd (D4.cuts l) (i+1))),D4.sec l (rd (D4.cuts l) i),s.out.length,rd (D4.cuts l) (i+1)⟩:=by unfold Dim.one;rw [q];rfl
   obtain ⟨n0,h0⟩:=v6p k (i+1) (D4.one l (rd (D4.cuts l) i) (rd (D4.cuts l) (i+1)) s) (by omega) (by omega) (by omega) (by rw [e];exact hsl) (by rw [e];simp);have hg:Yy (Xn l) 1 (.to (.h2 ((i+1:Nat):Int) (l.length:Int) s.out s.last (s.first:Int) s.fin ((D4.cuts l).length) (Wo (Xf (D4.ends l))) (rd (D4.cuts l) i) (rd (D4.cuts l) (i+1)) (D4.inn l (rd (D4.cuts l) i))))=.to (.h3 (rd (D4.cuts l) i) (rd (D4.cuts l) (i+1)) (D4.sec l (rd (D4.cuts l) i)) ((D4.sec l (rd (D4.cuts l) i)).length :Int) 0 (D4.sec l (rd (D4.cuts l) i)) ((i+1:Nat):Int) s.out (D4.sec l (rd (D4.cuts l) i)) (s.out.length:Int) ((D4.cuts l).length) (Wo (Xf (D4.ends l))) (D4.inn l (rd (D4.cuts l) i))):=by
    rw [show (1:Nat)=0+1 from rfl,Zv];rw [hsd] at q ⊢;have e3:D4.same s.last (Xh (D4.inn l (rd (D4.cuts l) i)))=Qu s.last (Xh (D4.inn l (rd (D4.cuts l) i))):=rfl;rw [e3] at q;by_cases q1:0<(Xh (D4.inn l (rd (D4.cuts l) i))).length
    ·rw [Ai q1,Aj] at q;rcases Yx (s.fin == rd (D4.cuts l) i) with q2 | q2
     ·rw [q2,Aj] at q;simp (disch:=omega) only [Xn,Zg,Zq,Zt,Yt,q2,q,w1,w2,Ab,Aa];rfl
     ·simp (disch:=omega) only [Xn,Zg,Zq,Zt,Yt,q2,w1,w2,Ab,Aa];rfl
    ·simp (disch:=omega) only [Xn,Zg,Zq,Zt,Xc,w1,w2,Ab,Aa];rfl
   refine ⟨n0+n4+1+n3+1,?_⟩;rw [st0 (n0+n4+1),z9x _ (n0+n4) 1,hg,h4 n0];simp only [Dim.go];rw [e] at h0 ⊢;exact h0
theorem j0c : ∀(k i:Nat) (acc:List Int),i+k=l.length→acc=D4.ends (l.take i)→ ∃n,Yy (Xn l) n (.to (.h0 (i:Int) acc))=.ret (z2g (D4.go l ((D4.cuts l).length - 1) 0 ⟨[],[],0,0⟩).out)
 | 0,i,acc,h,ha=>by
  have e:acc=D4.ends l:=by rw [ha,AP (by omega)]
  subst e;have hle:=D4.ends_length l;obtain ⟨n,hn⟩:=v6p l hl ((D4.cuts l).length - 1) 0 ⟨[],[],0,0⟩ (by omega) (AD _) (AD _) (AD _) (AD _);refine ⟨n+1,?_⟩;rw [Zv];simp (disch:=omega) only [Xn,Kv,z0t,y2f,Zt,Yu,Yp,Av,Ab,Aa];exact hn
 | k+1,i,acc,h,ha=>by
  have hle:=D4.ends_length (l.take i);have gG:acc.length≤2*i:=by rw [ha,hle];simp;omega
  obtain ⟨n,hn⟩:=j0c k (i+1) (acc++D4.ends [rd l i]) (by omega) (by
   rw [ha,Bg];have:l[i]? =some (rd l i):=by rw [Yi (show i<l.length by omega)];exact Ao _
   rw [this,D4.ends_append];rfl)
  refine ⟨n+1,?_⟩;rw [Zv];simp (disch:=omega) only [Xn,Zg,Zq,Zi,Zf,Yb,Yu,Yp,Zh,Zk,Zx,Yc,Zj,Ag,Av,Ah,Aj,Ab,Aa];exact hn
end
def j0f (l:List R4):Int:=y9l (D4.out l).length
def Wp (l:List R4):List R4:=z4t (j0f l) (D4.out l)
def z2d (l:List R4):Int:=j0f l
def Qn (l:List R4):Bool:=decide (l.length≤400)
theorem j5g (l:List R4) (h:Qn l=true): ∃n,Yy (Xn l) n (x3x l)=.ret (z6p (j0f l) (D4.out l)):=by rw [show z6p (j0f l) (D4.out l)=z2g (D4.out l) from (y8h _).symm];exact j0c l (AA h) l.length 0 [] (Ag _) rfl
def j1b (a b c d:Int):Bool:=Vo ⟨a,b,c,d⟩
theorem j1a (a b c d:Int): ∃N,Yy (x8q a b c d) N (y3u a b c d)=.ret [.bool (j1b a b c d)]:=⟨0,by
 unfold y3u j1b Vo;simp only [y2i];cases decide (a<c) <;> cases decide (b<d) <;> cases decide (a≥ -1000000) <;> cases decide (a≤1000000) <;> cases decide (c≥ -1000000) <;> cases decide (c≤1000000) <;> cases decide (b≥ -1000000) <;> cases decide (b≤1000000) <;> cases decide (d≥ -1000000) <;> rfl⟩
def fVl4 :List AVal→Option (AVal×Bool)
 | [.agg [.int .i64 aJ,.int .i64 aP,.int .i64 aO,.int .i64 aT]]=>some (.bool (j1b aJ aP aO aT),true)
 | _=>none
theorem j6a {S:Specs} (hS:Zu prog S):Zu prog (S.with w5x fVl4):=by
 refine z0v hS (by kernel_rfl) fun args v h=> ?_;unfold fVl4 at h;split at h
 ·rename_i aJ aP aO aT;simp only [Ae,Ad,BZ] at h;subst h;obtain ⟨N,hN⟩:=j1a aJ aP aO aT;exact ⟨_,_,(.cons (.refl _) .nil),rfl,v9x aJ aP aO aT N _ hN,3,rfl⟩
 ·cases h
def fMad :List AVal→Option (AVal×Bool)
 | [a0]=>match asL R4 a0 with
  | some (L0,g0,n0)=>some (.tup [.dat (Wp L0).length (Zz (Wp L0)),.int .i64 (z2d L0)],isT R4 n0 g0&&(Qn L0))
  | _=>none
 | _=>none
theorem j7e {S:Specs} (hS:Zu prog S):Zu prog (S.with v6k fMad):=by
 refine w3d hS (by kernel_rfl) fun args v h=> ?_;unfold fMad at h;split at h
 ·rename_i a0;split at h
  ·rename_i L0 g0 n0 e0;simp only [Ae,Ad,Ac] at h;obtain ⟨rfl,ho0,hw⟩:=h;obtain ⟨N,hN⟩:=j5g L0 hw;exact ⟨_,_,(.cons (Yh e0 ho0) .nil),Kx _ _,u3r L0 N _ hN,3,z1c _ _⟩
  ·cases h
 ·cases h
def T6v :Specs:=(T6.with w5x fVl4)
theorem T6v_ok :Zu prog T6v:=(j6a Qy)
def T6m :Specs:=(T6v.with v6k fMad)
theorem y8z :Zu prog T6m:=(j7e T6v_ok)
inductive rgmS where
 | h0 (v8:Int)
def rgmC (l0:List R4):rgmS→Cfg
 | .h0 v8=>⟨⟨19,0,true⟩,none,(Zc prog 153 [1,0,1,0,0] 0),none,(Zy prog 6),⟨Ya [(0,(.dat l0.length (Zz l0))),(1,(.fn 115 [])),(7,(ii (l0.length:Int))),(8,(ii v8))],Vd [] 0,0,[],true⟩,[⟨⟨9,0,true⟩,(Up prog 114 [1,0] 2),(Zc prog 114 [1,0] 1),none,(Zy prog 6),Ya [(5,(.dat l0.length (Zz l0))),(6,(.fn 115 []))]⟩,⟨⟨13,0,true⟩,(Up prog 83 [1,1,0,0] 1),(Zc prog 83 [1,1,0,0] 1),none,(Zy prog 14),Ya [(0,(.dat l0.length (Zz l0))),(7,(.dat l0.length (Zz l0)))]⟩],.leaf⟩
def rgmN0 :List (Option (List Nat)):=[some [0,1,7,8],some [5,6],some [0,7]]
def rgmM0 :List (Option (List Nat)):=[]
def z5h (l0:List R4):rgmS→Xu rgmS
 | .h0 v8=>(bif (decide (v8<(l0.length:Int))) then (bif ((decide (0≤v8∧v8<(l0.length:Int)))&&true) then (bif (!(j1b (rd l0 v8.toNat).a (rd l0 v8.toNat).b (rd l0 v8.toNat).c (rd l0 v8.toNat).d)) then (bif (decide (v8≥0)) then (.ret [.nils,(.int .i64 8)]) else (bif (Qn (cvT l0)) then (.ret [(.dat (Wp (cvT l0)).length (Zz (Wp (cvT l0)))),(.int .i64 (z2d (cvT l0)))]) else .stuck)) else (.to (.h0 (wrap .i64 (v8+1))))) else .stuck) else (bif (Qn (cvT l0)) then (.ret [(.dat (Wp (cvT l0)).length (Zz (Wp (cvT l0)))),(.int .i64 (z2d (cvT l0)))]) else .stuck))
def z9g (l0:List R4):Xu rgmS:=(bif (decide ((l0.length:Int)>400)) then (.ret [.nils,(.int .i64 4)]) else (.to (.h0 0)))
theorem w9q (l0:List R4): ∀s,Xq prog (Zy prog 83) (rgmC l0) (rgmC l0 s) (z5h l0 s)
 | .h0 v8=>(lb (fun k0=>(lo fun aH=>(lb (fun k1=>(lb (fun k2=>(lr 13 83 [1,1,0,1,0,0] 1 14 [(2,.nils),(3,(ii 8))] (sl y8z 54 [] ⟨[],[],[some [2,3]],[]⟩ ⟨[],[],[]⟩ (trs 3 []) (tt k2 (tt k1 (ww aH (tt k0 nn))))))) (fun k2=>(lo fun o0=>(lr 13 3 [1,1,1,1,0] 1 14 [(2,(.dat (Wp (cvT l0)).length (Zz (Wp (cvT l0))))),(3,(ii (z2d (cvT l0))))] (sl y8z 59 [] ⟨[],[],[some [2,3]],[]⟩ ⟨[],[],[]⟩ (bl 3 3) (pp (pp (xr l0) (xw o0)) (tt k2 (tt k1 (ww aH (tt k0 nn))))))))))) (fun k1=>(sl y8z 44 [] ⟨[],[],rgmN0,rgmM0⟩ ⟨[],[],[]⟩ (bl 2 1) (tt k1 (ww aH (tt k0 nn)))))))) (fun k0=>(lo fun o0=>(lr 13 3 [1,1,1,1,0] 1 14 [(2,(.dat (Wp (cvT l0)).length (Zz (Wp (cvT l0))))),(3,(ii (z2d (cvT l0))))] (sl y8z 28 [] ⟨[],[],[some [2,3]],[]⟩ ⟨[],[],[]⟩ (bl 2 0) (pp (pp (xr l0) (xw o0)) (tt k0 nn)))))))
theorem w1a (l0:List R4):Xq prog (Zy prog 83) (rgmC l0) (Zb prog 83 [(.dat l0.length (Zz l0))] true []) (z9g l0):=(lb (fun k0=>(lr 13 83 [1,0,1,0,0] 1 14 [(2,.nils),(3,(ii 4))] (sl y8z 18 [] ⟨[],[],[some [2,3]],[]⟩ ⟨[],[],[]⟩ [true] (tt k0 nn)))) (fun k0=>(sl y8z 41 [] ⟨[],[],rgmN0,rgmM0⟩ ⟨[],[],[]⟩ [false] (tt k0 nn))))
theorem u2k (l0:List R4) (n:Nat) (vs:List AVal) (h:Yy (z5h l0) n (z9g l0)=.ret vs):Jx prog (Zy prog 83) (Zb prog 83 [(.dat l0.length (Zz l0))] true []) vs:=by have:=Zd (w9q l0) n _ (w1a l0);rwa [h] at this
theorem u8p (l:List R4) (hl:l.length≤400): ∀(k i:Nat),i+k=l.length→(∀s∈l.take i,Vo s=true)→ ∃n,Yy (z5h l) n (.to (.h0 (i:Int)))=.ret (bif l.all Vo then [.dat (Wp l).length (Zz (Wp l)),.int .i64 (z2d l)] else [.nils,.int .i64 8])
 | 0,i,h,ht=>by have hv:l.all Vo=true:=At.2 fun s hs=>ht s (by rw [AP (by omega)];exact hs);have w:Qn l=true:=Ai hl;refine ⟨1,?_⟩;rw [Zv,hv,Ab];simp (disch:=omega) only [z5h,Zg,w,Zt,Ab,Aa,Zp]
 | k+1,i,h,ht=>by
  have hi:i<l.length:=by omega
  have hs:z5h l (.h0 (i:Int))=bif Vo (rd l i) then .to (.h0 ((i+1:Nat):Int)) else .ret [.nils,.int .i64 8]:=by have e:j1b (rd l i).a (rd l i).b (rd l i).c (rd l i).d =Vo (rd l i):=rfl;simp (disch:=omega) only [z5h,e,y2h,w6y,v8d,Zf,Zk,Zx,Zj,Ah,Ab,Aa]
  rcases Yx (Vo (rd l i)) with q | q
  ·obtain ⟨n,hn⟩:=u8p l hl k (i+1) (by omega) (fun s hs=>by
    rw [Bg] at hs;have e:l[i]? =some (rd l i):=by rw [Yi hi];exact Ao _
    rw [e] at hs;simp only [Cq,AF,AT] at hs;rcases hs with hs | rfl
    ·exact ht s hs
    ·exact q)
   refine ⟨n+1,?_⟩;rw [Zv,hs,q,Ab];exact hn
  ·have hv:l.all Vo=false:=A4.2 fun e=>by have:=At.1 e (rd l i) (by rw [Yi hi];exact AM hi);rw [this] at q;cases q
   refine ⟨1,?_⟩;rw [Zv,hv,Aa,hs,q,Aa,Zp]
theorem u2j (l:List R4): ∃n,Yy (z5h l) n (z9g l)=.ret (bif decide (400<l.length) then [.nils,.int .i64 4] else bif l.all Vo then [.dat (Wp l).length (Zz (Wp l)),.int .i64 (z2d l)] else [.nils,.int .i64 8]):=by
 unfold z9g;by_cases h:400<l.length
 ·refine ⟨0,?_⟩;rw [Ai h,Yt (show (l.length:Int)>400 by omega)];rfl
 ·obtain ⟨n,hn⟩:=u8p l (by omega) l.length 0 (Ag _) (fun s hs=>by simp at hs);refine ⟨n,?_⟩;rw [An h,Xc (show¬(l.length:Int)>400 by omega),Aa,Aa];exact hn
def Ze (l:List R4):List R4:=bif decide (400<l.length) then [] else bif l.all Vo then (bif decide (((D4.out l).length :Int)>400) then [] else D4.out l) else []
def Ww (l:List R4):Int:=bif decide (400<l.length) then 4 else bif l.all Vo then (bif decide (((D4.out l).length :Int)>400) then 4 else 0) else 8
def Jn (l:List R4):Bool:=true
theorem j4i (l:List R4) (h:Jn l=true): ∃n,Yy (z5h l) n (z9g l)=.ret (bif decide (400<l.length) then [.nils,.int .i64 4] else bif l.all Vo then [.dat (Ze l).length (Zz (Ze l)),.int .i64 (Ww l)] else [.nils,.int .i64 8]):=by
 obtain ⟨n,hn⟩:=u2j l;refine ⟨n,hn.trans ?_⟩;cases h1:decide (400<l.length) <;> cases h2:l.all Vo <;> simp only [Ab,Aa];have e0:Wp l=Ze l:=by unfold Wp j0f z4t y9l Ze;rw [h1,h2];cases decide (((D4.out l).length :Int)>400) <;> rfl
 have e1:z2d l=Ww l:=by unfold z2d j0f y9l Ww;rw [h1,h2];rfl
 rw [e0,e1]
def fRgm :List AVal→Option (AVal×Bool)
 | [a0]=>match asL R4 a0 with
  | some (L0,g0,n0)=>some (.tup [.dat (Ze L0).length (Zz (Ze L0)),.int .i64 (Ww L0)],isT R4 n0 g0&&(Jn L0))
  | _=>none
 | _=>none
theorem j6x {S:Specs} (hS:Zu prog S):Zu prog (S.with w5z fRgm):=by
 refine w3d hS (by kernel_rfl) fun args v h=> ?_;unfold fRgm at h;split at h
 ·rename_i a0;split at h
  ·rename_i L0 g0 n0 e0;simp only [Ae,Ad,Ac] at h;obtain ⟨rfl,ho0,hw⟩:=h;obtain ⟨N,hN⟩:=j4i L0 hw;refine ⟨_,_,(.cons (Yh e0 ho0) .nil),?_,u2k L0 N _ hN,3,?_⟩
   ·cases h1:decide (400<L0.length) <;> cases h2:L0.all Vo <;> simp only [Ze,Ww,h1,h2,Ab,Aa]
    ·exact fun ρ u hu=>y6b (.cons (z7u R4) (RLe.refl _)) ρ u hu
    ·exact fun ρ u hu=>hu
    ·exact fun ρ u hu=>y6b (.cons (z7u R4) (RLe.refl _)) ρ u hu
    ·exact fun ρ u hu=>y6b (.cons (z7u R4) (RLe.refl _)) ρ u hu
   ·cases decide (400<L0.length) <;> cases L0.all Vo <;> rfl
  ·cases h
 ·cases h
def T7 :Specs:=(T6m.with w5z fRgm)
theorem x8f :Zu prog T7:=(j6x y8z)
inductive vl6S where
def vl6C (aJ:Int) (aP:Int) (aO:Int) (aT:Int) (aW:Int) (aU:Int):vl6S→Cfg
 :=nofun
def x8o (aJ:Int) (aP:Int) (aO:Int) (aT:Int) (aW:Int) (aU:Int):vl6S→Xu vl6S
 :=nofun
def y3t (aJ:Int) (aP:Int) (aO:Int) (aT:Int) (aW:Int) (aU:Int):Xu vl6S:=(bif (decide (aJ<aT)) then (bif (decide (aP<aW)) then (bif (decide (aO<aU)) then (bif (decide ((z1m (z1m aJ aP) aO)≥(-1000000))) then (bif (decide ((z1n (z1n aJ aP) aO)≤1000000)) then (bif (decide ((z1m (z1m aT aW) aU)≥(-1000000))) then (.ret [(.bool (decide ((z1n (z1n aT aW) aU)≤1000000)))]) else (.ret [(.bool false)])) else (.ret [(.bool false)])) else (.ret [(.bool false)])) else (.ret [(.bool false)])) else (.ret [(.bool false)])) else (.ret [(.bool false)]))
theorem w7p (aJ:Int) (aP:Int) (aO:Int) (aT:Int) (aW:Int) (aU:Int): ∀s,Xq prog (Zy prog 92) (vl6C aJ aP aO aT aW aU) (vl6C aJ aP aO aT aW aU s) (x8o aJ aP aO aT aW aU s)
 :=nofun
theorem x8p (aJ:Int) (aP:Int) (aO:Int) (aT:Int) (aW:Int) (aU:Int):Xq prog (Zy prog 92) (vl6C aJ aP aO aT aW aU) (Zb prog 92 [(.agg [(.int .i64 aJ),(.int .i64 aP),(.int .i64 aO),(.int .i64 aT),(.int .i64 aW),(.int .i64 aU)])] true []) (y3t aJ aP aO aT aW aU):=(lb (fun k0=>(lb (fun k1=>(lb (fun k2=>(lb (fun k3=>(lb (fun k4=>(lb (fun k5=>(lr 38 3 [1,1,1,1,0] 1 9 [(2,(.bool (decide ((z1n (z1n aT aW) aU)≤1000000))))] (sl x8f 100 [] ⟨[],[],[some [2]],[]⟩ ⟨[],[],[]⟩ (trs 36 []) (tt k5 (tt k4 (tt k3 (tt k2 (tt k1 (tt k0 nn))))))))) (fun k5=>(lr 38 3 [1,1,1,1,0] 1 9 [(2,(.bool false))] (sl x8f 100 [] ⟨[],[],[some [2]],[]⟩ ⟨[],[],[]⟩ (trs 28 [false,false,false,false,false,false,false,false]) (tt k5 (tt k4 (tt k3 (tt k2 (tt k1 (tt k0 nn))))))))))) (fun k4=>(lr 38 3 [1,1,1,1,0] 1 9 [(2,(.bool false))] (sl x8f 72 [] ⟨[],[],[some [2]],[]⟩ ⟨[],[],[]⟩ (trs 25 [false,false,false]) (tt k4 (tt k3 (tt k2 (tt k1 (tt k0 nn)))))))))) (fun k3=>(lr 38 3 [1,1,1,1,0] 1 9 [(2,(.bool false))] (sl x8f 72 [] ⟨[],[],[some [2]],[]⟩ ⟨[],[],[]⟩ (trs 17 [false,false,false,false,false,false,false,false,false,false,false]) (tt k3 (tt k2 (tt k1 (tt k0 nn))))))))) (fun k2=>(lr 38 3 [1,1,1,1,0] 1 9 [(2,(.bool false))] (sl x8f 44 [] ⟨[],[],[some [2]],[]⟩ ⟨[],[],[]⟩ (trs 14 [false,false,false,false,false,false]) (tt k2 (tt k1 (tt k0 nn)))))))) (fun k1=>(lr 38 3 [1,1,1,1,0] 1 9 [(2,(.bool false))] (sl x8f 44 [] ⟨[],[],[some [2]],[]⟩ ⟨[],[],[]⟩ (trs 7 [false,false,false,false,false,false,false,false,false,false,false,false,false]) (tt k1 (tt k0 nn))))))) (fun k0=>(lr 38 3 [1,1,1,1,0] 1 9 [(2,(.bool false))] (sl x8f 44 [] ⟨[],[],[some [2]],[]⟩ ⟨[],[],[]⟩ [false,false,false,false,false,false,false,false,false,false,false,false,false,false,false,false,false,false,false,false] (tt k0 nn)))))
theorem v9w (aJ:Int) (aP:Int) (aO:Int) (aT:Int) (aW:Int) (aU:Int) (n:Nat) (vs:List AVal) (h:Yy (x8o aJ aP aO aT aW aU) n (y3t aJ aP aO aT aW aU)=.ret vs):Jx prog (Zy prog 92) (Zb prog 92 [(.agg [(.int .i64 aJ),(.int .i64 aP),(.int .i64 aO),(.int .i64 aT),(.int .i64 aW),(.int .i64 aU)])] true []) vs:=by have:=Zd (w7p aJ aP aO aT aW aU) n _ (x8p aJ aP aO aT aW aU);rwa [h] at this
def z3k (r:R6):Bool:=decide (r.a<r.d)&&(decide (r.b<r.e)&&(decide (r.c<r.f)&&(decide ((z1m (z1m r.a r.b) r.c)≥(-1000000))&&(decide ((z1n (z1n r.a r.b) r.c)≤1000000)&&(decide ((z1m (z1m r.d r.e) r.f)≥(-1000000))&&decide ((z1n (z1n r.d r.e) r.f)≤1000000))))))
def vl6V (a b c d e f:Int):Bool:=z3k ⟨a,b,c,d,e,f⟩
theorem j0z (a b c d e f:Int): ∃N,Yy (x8o a b c d e f) N (y3t a b c d e f)=.ret [.bool (vl6V a b c d e f)]:=⟨0,by
 unfold y3t vl6V z3k;simp only [y2i];cases decide (a<d) <;> cases decide (b<e) <;> cases decide (c<f) <;> cases decide ((z1m (z1m a b) c)≥(-1000000)) <;> cases decide ((z1n (z1n a b) c)≤1000000) <;> cases decide ((z1m (z1m d e) f)≥(-1000000)) <;> rfl⟩
def fVl6 :List AVal→Option (AVal×Bool)
 | [.agg [.int .i64 aJ,.int .i64 aP,.int .i64 aO,.int .i64 aT,.int .i64 aW,.int .i64 aU]]=>some (.bool (vl6V aJ aP aO aT aW aU),true)
 | _=>none
theorem j5z {S:Specs} (hS:Zu prog S):Zu prog (S.with w5v fVl6):=by
 refine z0v hS (by kernel_rfl) fun args v h=> ?_;unfold fVl6 at h;split at h
 ·rename_i aJ aP aO aT aW aU;simp only [Ae,Ad,BZ] at h;subst h;obtain ⟨N,hN⟩:=j0z aJ aP aO aT aW aU;exact ⟨_,_,(.cons (.refl _) .nil),rfl,v9w aJ aP aO aT aW aU N _ hN,3,rfl⟩
 ·cases h
def T7v :Specs:=(T7.with w5v fVl6)
theorem Vn :Zu prog T7v:=(j5z x8f)
inductive sckS where
 | h0 (v8:Int)
 | h1 (v16:Int) (aC:List Int)
 | h2 (v4:Int) (aI:List R6) (aX:List R4) (bE:Int) (bF:Int) (aG:Nat) (aL:List Int)
 | h3 (v4:Int) (v38:Int) (aI:List R6) (aX:List R4) (bE:Int) (bF:Int) (aG:Nat) (aL:List Int) (aE:Int) (bB:Int) (aB:List R4)
 | h4 (v1:Int) (v2:Int) (v72:List R4) (v73:Int) (v74:Int) (bW:List R4) (bC:Int) (aD:List R6) (bH:List R4) (bD:Int) (aG:Nat) (aL:List Int) (aE:List R4)
 | h5 (v2:Int) (v8:Int) (cD:Int) (bW:List R4) (bC:Int) (aD:List R6) (bH:List R4) (bD:Int) (bS:Int) (bO:Nat) (bV:List Int) (aB:List R4)
abbrev x0r (aD:List R6) (v8:Int) (v2:Int):=(aD.set (0+(tn v8)) (R6.mk (rd aD (0+(tn v8))).a (rd aD (0+(tn v8))).b (rd aD (0+(tn v8))).c (rd aD (0+(tn v8))).d (rd aD (0+(tn v8))).e v2))
def v3y (l0:List R6):AFr:=⟨⟨25,0,true⟩,(Up prog 52 [1,1,1,0,0] 3),(Zc prog 52 [1,1,1,0,0] 1),none,(Zy prog 9),Ya [(0,(.dat l0.length (Zz l0))),(11,(.agg [.nilf])),(13,(.sl 8 0 1 (.un 1)))]⟩
abbrev x0q (aC:List Int):=(Wo (Ye aC.length (cOf (Zz (Xf (Ye aC.length (cOf (Zz aC))))))))
abbrev x0p (aB:List R4) (l0:List R6) (v38:Int):=(aB++[(R4.mk (rd l0 (tn v38)).a (rd l0 (tn v38)).b (rd l0 (tn v38)).d (rd l0 (tn v38)).e)])
abbrev x0o (aD:List R6) (v72:List R4) (v74:Int) (v1:Int) (v2:Int):=(aD++[(R6.mk (rd v72 (tn v74)).a (rd v72 (tn v74)).b v1 (rd v72 (tn v74)).c (rd v72 (tn v74)).d v2)])
def u7i :=(y5l [(0,⟨.ready,none,65,Ya [(2,(.ptr 1 0)),(4,(.ptr 2 0)),(5,(.ptr 3 0)),(6,(.ptr 4 0))],[15],(Vy prog 93 [1,1,0,1,0,0]),(Vy prog 93 [1,1,0,1,0,1])⟩)])
def z2r (l0:List R6):AVal:=(.dat l0.length (Zz l0))
def u7h :AFr:=⟨⟨65,0,true⟩,none,(.inRangeFunc 0::(Zc prog 93 [1,1,0,1,0] 1)),none,(Zy prog 93),Ya [(4,(.ptr 2 0)),(5,(.ptr 3 0)),(6,(.ptr 4 0))]⟩
abbrev x0n (aC:List Int) (l0:List R6) (v16:Int):=(aC++[(rd l0 (tn v16)).c,(rd l0 (tn v16)).f])
def sckC (l0:List R6):sckS→Cfg
 | .h0 v8=>⟨⟨19,0,true⟩,none,(Zc prog 95 [1,0,1,0,0] 0),none,(Zy prog 6),⟨Ya [(0,(z2r l0)),(1,(.fn 91 [])),(7,(ii (l0.length:Int))),(8,(ii v8))],Vd [] 0,0,[],true⟩,[⟨⟨9,0,true⟩,(Up prog 57 [1,0] 2),(Zc prog 57 [1,0] 1),none,(Zy prog 6),Ya [(5,(z2r l0)),(6,(.fn 91 []))]⟩,⟨⟨25,0,true⟩,(Up prog 52 [1,1,0,0] 1),(Zc prog 52 [1,1,0,0] 1),none,(Zy prog 9),Ya [(0,(z2r l0)),(8,(z2r l0))]⟩],.leaf⟩
 | .h1 v16 aC=>⟨⟨36,0,true⟩,none,(Zc prog 135 [1,1,0,1,0,0,1,1,0,0,1,1,0,0] 0),none,(Zy prog 9),⟨Ya [(1,(.ptr 0 0)),(3,(.ptr 2 0)),(8,(.sl 1 0 1 (.un 1))),(9,(ii 1)),(10,(ii 0)),(14,(z2r l0)),(15,(ii (l0.length:Int))),(16,(ii v16))],Vd [⟨[(.sl 1 0 1 (.un 1))],177,none⟩,⟨[(z2r l0)],32,none⟩,⟨[(.sla 7 1 0 aC.length (.un 1))],125,none⟩,⟨[.nilf],101,none⟩,⟨[.nils],33,none⟩,⟨[(ii 0)],24,none⟩,⟨[.nils,.nils,(ii 0),(ii 0)],179,none⟩,⟨Yq aC.length (Zz aC),3,some ⟨1,aC.length,(Zz aC)⟩⟩] 0,8,[],true⟩,[⟨⟨65,0,true⟩,(Up prog 93 [1,1,0,0] 1),(Zc prog 93 [1,1,0,0] 1),none,(Zy prog 93),Ya [(2,(.ptr 3 0)),(4,(.ptr 4 0)),(5,(.ptr 5 0)),(6,(.ptr 6 0)),(13,(.sl 1 0 1 (.un 1)))]⟩,⟨⟨25,0,true⟩,(Up prog 52 [1,1,1,0,0] 3),(Zc prog 52 [1,1,1,0,0] 1),none,(Zy prog 9),Ya [(0,(z2r l0)),(11,(.agg [.nilf])),(13,(.sl 1 0 1 (.un 1)))]⟩],.leaf⟩
 | .h2 v4 aI aX bE bF aG aL=>⟨⟨86,0,true⟩,none,(Zc prog 162 [1,0,0] 0),none,[],⟨Ya [(0,(.yld 0)),(1,(.ptr 5 0)),(2,(.ptr 7 0)),(4,(ii v4))],z8j [(1,⟨[.nilf],101,none⟩),(2,⟨[.nils],33,none⟩),(3,⟨[(ii 0)],24,none⟩),(4,⟨[(.sla 9 6 0 aI.length (.un 6)),(.dat aX.length (Zz aX)),(ii bE),(ii bF)],179,none⟩),(5,⟨[(.sla 6 1 0 aG (.un 1))],125,none⟩),(6,⟨Yq aL.length (Zz aL),3,some ⟨1,aL.length,(Zz aL)⟩⟩),(7,⟨[(.sl 8 0 1 (.un 1))],177,none⟩),(8,⟨[(z2r l0)],32,none⟩),(9,⟨Yq aI.length (Zz aI),57,some ⟨6,aI.length,(Zz aI)⟩⟩)],10,[],true⟩,[u7h,(v3y l0)],u7i⟩
 | .h3 v4 v38 aI aX bE bF aG aL aE bB aB=>⟨⟨86,0,true⟩,none,(Zc prog 162 [1,0,0,1,0,0,1,0,1,0,0,1,1,0,0,1,1,0,0] 0),none,[],⟨Ya [(0,(.yld 0)),(1,(.ptr 5 0)),(2,(.ptr 7 0)),(4,(ii v4)),(5,(.ptr 9 0)),(6,(ii 0)),(29,(.sl 8 0 1 (.un 1))),(30,(ii 1)),(31,(ii 0)),(36,(z2r l0)),(37,(ii (l0.length:Int))),(38,(ii v38))],z8j [(1,⟨[.nilf],101,none⟩),(2,⟨[.nils],33,none⟩),(3,⟨[(ii 0)],24,none⟩),(4,⟨[(.sla 12 6 0 aI.length (.un 6)),(.dat aX.length (Zz aX)),(ii bE),(ii bF)],179,none⟩),(5,⟨[(.sla 6 1 0 aG (.un 1))],125,none⟩),(6,⟨Yq aL.length (Zz aL),3,some ⟨1,aL.length,(Zz aL)⟩⟩),(7,⟨[(.sl 8 0 1 (.un 1))],177,none⟩),(8,⟨[(z2r l0)],32,none⟩),(9,⟨[(ii aE),(ii bB),(.sl 10 0 1 (.ex 1))],184,none⟩),(10,⟨[(.sla 11 4 0 aB.length (.un 4))],80,none⟩),(11,⟨Yq aB.length (Zz aB),116,some ⟨4,aB.length,(Zz aB)⟩⟩),(12,⟨Yq aI.length (Zz aI),57,some ⟨6,aI.length,(Zz aI)⟩⟩)],13,[],true⟩,[u7h,(v3y l0)],u7i⟩
 | .h4 v1 v2 v72 v73 v74 bW bC aD bH bD aG aL aE=>⟨⟨101,0,true⟩,none,(Zc prog 136 [1,1,1,0,0] 0),none,[],⟨Ya [(0,(.ptr 0 0)),(1,(ii v1)),(2,(ii v2)),(72,(.dat v72.length (Zz v72))),(73,(ii v73)),(74,(ii v74))],z8j [(0,⟨[(.sla 10 6 0 aD.length (.un 6)),(.dat bH.length (Zz bH)),(ii bD),(ii v2)],179,none⟩),(2,⟨[.nilf],101,none⟩),(3,⟨[.nils],33,none⟩),(4,⟨[(ii 0)],24,none⟩),(5,⟨[(.sla 6 1 0 aG (.un 1))],125,none⟩),(6,⟨Yq aL.length (Zz aL),3,some ⟨1,aL.length,(Zz aL)⟩⟩),(7,⟨[(.sl 8 0 1 (.un 1))],177,none⟩),(8,⟨[(z2r l0)],32,none⟩),(9,⟨[(.dat aE.length (Zz aE))],80,none⟩),(10,⟨Yq aD.length (Zz aD),57,some ⟨6,aD.length,(Zz aD)⟩⟩)],11,[],true⟩,[⟨⟨65,0,true⟩,(Up prog 93 [1,1,0,1,0,1,0,1,1,1] 5),(Zc prog 93 [1,1,0,1,0,1,0,1,1,1] 1),(some 1),[],Ya [(6,(.ptr 0 0)),(54,(ii v1)),(56,(ii v2)),(57,(.dat bW.length (Zz bW)))]⟩,⟨⟨86,0,true⟩,(Up prog 162 [1,0,0,1,0,0,1,1,0] 2),(Zc prog 162 [1,0,0,1,0,0,1,1,0] 1),none,[],Ya [(0,(.yld 1)),(1,(.ptr 5 0)),(2,(.ptr 7 0)),(4,(ii bC)),(82,(.yld 1)),(83,(.agg [(ii v1),(ii v2),(.sl 9 0 1 (.ex 1))]))]⟩,⟨⟨65,0,true⟩,none,(.inRangeFunc 1::(Zc prog 93 [1,1,0,1,0] 1)),none,(Zy prog 93),Ya [(4,(.ptr 3 0)),(5,(.ptr 4 0)),(6,(.ptr 0 0))]⟩,(v3y l0)],(y5l [(1,⟨.busy,none,65,Ya [(2,(.ptr 2 0)),(4,(.ptr 3 0)),(5,(.ptr 4 0)),(6,(.ptr 0 0))],[15],(Vy prog 93 [1,1,0,1,0,0]),(Vy prog 93 [1,1,0,1,0,1])⟩)])⟩
 | .h5 v2 v8 cD bW bC aD bH bD bS bO bV aB=>⟨⟨101,0,true⟩,none,(Zc prog 136 [0,1,0,0,1,0,0] 0),none,[],⟨Ya [(0,(.ptr 0 0)),(2,(ii v2)),(8,(ii v8))],z8j [(0,⟨[(.sla 1 6 0 aD.length (.un 6)),(.dat bH.length (Zz bH)),(ii bD),(ii bS)],179,none⟩),(1,⟨Yq aD.length (Zz aD),57,some ⟨6,aD.length,(Zz aD)⟩⟩),(3,⟨[.nilf],101,none⟩),(4,⟨[.nils],33,none⟩),(5,⟨[(ii 0)],24,none⟩),(6,⟨[(.sla 7 1 0 bO (.un 1))],125,none⟩),(7,⟨Yq bV.length (Zz bV),3,some ⟨1,bV.length,(Zz bV)⟩⟩),(8,⟨[(.sl 9 0 1 (.un 1))],177,none⟩),(9,⟨[(z2r l0)],32,none⟩),(10,⟨[(.dat aB.length (Zz aB))],80,none⟩)],11,[],true⟩,[⟨⟨65,0,true⟩,(Up prog 93 [1,1,0,1,0,1,0,1,1,1] 5),(Zc prog 93 [1,1,0,1,0,1,0,1,1,1] 1),(some 2),[],Ya [(6,(.ptr 0 0)),(54,(ii cD)),(56,(ii v2)),(57,(.dat bW.length (Zz bW)))]⟩,⟨⟨86,0,true⟩,(Up prog 162 [1,0,0,1,0,0,1,1,0] 2),(Zc prog 162 [1,0,0,1,0,0,1,1,0] 1),none,[],Ya [(0,(.yld 2)),(1,(.ptr 6 0)),(2,(.ptr 8 0)),(4,(ii bC)),(82,(.yld 2)),(83,(.agg [(ii cD),(ii v2),(.sl 10 0 1 (.ex 1))]))]⟩,⟨⟨65,0,true⟩,none,(.inRangeFunc 2::(Zc prog 93 [1,1,0,1,0] 1)),none,(Zy prog 93),Ya [(4,(.ptr 4 0)),(5,(.ptr 5 0)),(6,(.ptr 0 0))]⟩,⟨⟨25,0,true⟩,(Up prog 52 [1,1,1,0,0] 3),(Zc prog 52 [1,1,1,0,0] 1),none,(Zy prog 9),Ya [(0,(z2r l0)),(11,(.agg [.nilf])),(13,(.sl 9 0 1 (.un 1)))]⟩],(y5l [(2,⟨.busy,none,65,Ya [(2,(.ptr 3 0)),(4,(.ptr 4 0)),(5,(.ptr 5 0)),(6,(.ptr 0 0))],[15],(Vy prog 93 [1,1,0,1,0,0]),(Vy prog 93 [1,1,0,1,0,1])⟩)])⟩
def sckN0 :List (Option (List Nat)):=[some [0,1,7,8],some [5,6],some [0,8]]
def sckM0 :List (Option (List Nat)):=[]
def j2s :List (Option (List Nat)):=[some [1,3,8,9,10,14,15,16],some [2,4,5,6,13],some [0,11,13]]
def j2u :List (Option (List Nat)):=[]
def j2r :List (Option (List Nat)):=[some [0,1,2,4],some [4,5,6],some [0,11,13]]
def j2t :List (Option (List Nat)):=[some [2,4,5,6],none,none,none,none,none,none,none,none,none]
def u1a :List (Option (List Nat)):=[some [0,1,2,4,5,6,29,30,31,36,37,38],some [4,5,6],some [0,11,13]]
def u1c :List (Option (List Nat)):=[some [2,4,5,6],none,none,none,none,none,none,none,none,none,none,none,none]
def u0z :List (Option (List Nat)):=[some [0,1,2,72,73,74],some [6,54,56,57],some [0,1,2,4,82,83],some [4,5,6],some [0,11,13]]
def u1b :List (Option (List Nat)):=[none,some [2,4,5,6],none,none,none,none,none,none,none,none,none]
def sckN5 :List (Option (List Nat)):=[some [0,2,8],some [6,54,56,57],some [0,1,2,4,82,83],some [4,5,6],some [0,11,13]]
def sckM5 :List (Option (List Nat)):=[none,none,some [2,4,5,6],none,none,none,none,none,none,none,none]
def Xg (l0:List R6):sckS→Xu sckS
 | .h0 v8=>(bif (decide (v8<(l0.length:Int))) then (bif ((decide (0≤v8∧v8<(l0.length:Int)))&&true) then (bif (!(vl6V (rd l0 v8.toNat).a (rd l0 v8.toNat).b (rd l0 v8.toNat).c (rd l0 v8.toNat).d (rd l0 v8.toNat).e (rd l0 v8.toNat).f)) then (bif (decide (v8≥0)) then (.ret [(.int .i64 8)]) else (.to (.h1 0 ([]:List Int)))) else (.to (.h0 (wrap .i64 (v8+1))))) else .stuck) else (.to (.h1 0 ([]:List Int))))
 | .h1 v16 aC=>(bif (decide (v16<(l0.length:Int))) then (bif ((decide (0≤v16∧v16<(l0.length:Int)))&&true) then (bif (Nat.beq 1 1&&((decide (0+aC.length=aC.length))&&decide ((aC.length+2+1)*(8+1)≤Jh))) then (.to (.h1 (wrap .i64 (v16+1)) (aC++[(rd l0 v16.toNat).c,(rd l0 v16.toNat).f]))) else .stuck) else .stuck) else (bif (decide (aC.length<4611686018427387904)) then (bif (decide (aC.length=aC.length)) then (.to (.h2 1 ([]:List R6) ([]:List R4) 0 0 (v8p (Ye aC.length (cOf (Zz (Xf (Ye aC.length (cOf (Zz aC)))))))) (Wo (Ye aC.length (cOf (Zz (Xf (Ye aC.length (cOf (Zz aC)))))))))) else .stuck) else .stuck))
 | .h2 v4 aI aX bE bF aG aL=>(bif (decide (v4<((aG:Nat):Int))) then (bif ((decide (0≤(wrap .i64 (v4 - 1))∧(wrap .i64 (v4 - 1))<((aG:Nat):Int)))&&true) then (bif (decide ((0+(Int.toNat (wrap .i64 (v4 - 1))))<aL.length)) then (bif ((decide (0≤v4∧v4<((aG:Nat):Int)))&&true) then (bif (decide ((0+v4.toNat)<aL.length)) then (.to (.h3 v4 0 aI aX bE bF aG aL (rd aL (0+(Int.toNat (wrap .i64 (v4 - 1))))) (rd aL (0+v4.toNat)) ([]:List R4))) else .stuck) else .stuck) else .stuck) else .stuck) else (bif (decide ((aI.length:Int)>400)) then (.ret [(.int .i64 8)]) else (bif (Nat.beq 6 6&&(decide (0+aI.length≤aI.length)&&z1g (Zz aI))) then (bif (Ws (lst R6 (aI.length) (fun k=>(Zz aI) (0+k))) (cvT l0)) then (bif (!(Uo (lst R6 (aI.length) (fun k=>(Zz aI) (0+k))) (cvT l0))) then (.ret [(.int .i64 8)]) else (.ret [(.int .i64 0)])) else .stuck) else .stuck)))
 | .h3 v4 v38 aI aX bE bF aG aL aE bB aB=>(bif (decide (v38<(l0.length:Int))) then (bif ((decide (0≤v38∧v38<(l0.length:Int)))&&true) then (bif (decide ((rd l0 v38.toNat).c ≤aE)) then (bif (decide (aE<(rd l0 v38.toNat).f)) then (bif (Nat.beq 4 4&&((decide (0+aB.length=aB.length))&&decide ((aB.length+1+1)*(32+1)≤Jh))) then (.to (.h3 v4 (wrap .i64 (v38+1)) aI aX bE bF aG aL aE bB (aB++[(R4.mk (rd l0 v38.toNat).a (rd l0 v38.toNat).b (rd l0 v38.toNat).d (rd l0 v38.toNat).e)]))) else .stuck) else (.to (.h3 v4 (wrap .i64 (v38+1)) aI aX bE bF aG aL aE bB aB))) else (.to (.h3 v4 (wrap .i64 (v38+1)) aI aX bE bF aG aL aE bB aB))) else .stuck) else (bif (Jn (cvT aB)) then (bif ((Ww (cvT aB)) != 0) then (.ret [(.int .i64 8)]) else (bif (decide ((((Ze (cvT aB)).length :Nat):Int)>0)) then (bif (bF == aE) then (bif (Wd (cvT aX) (cvT (Ze (cvT aB)))) then (bif (Ur (cvT aX) (cvT (Ze (cvT aB)))) then (.to (.h5 bB bE aE (Ze (cvT aB)) v4 aI aX bE bF aG aL aB)) else (.to (.h4 aE bB (Ze (cvT aB)) (((Ze (cvT aB)).length :Nat):Int) 0 (Ze (cvT aB)) v4 aI (Ze (cvT aB)) (aI.length:Int) aG aL aB))) else .stuck) else (.to (.h4 aE bB (Ze (cvT aB)) (((Ze (cvT aB)).length :Nat):Int) 0 (Ze (cvT aB)) v4 aI (Ze (cvT aB)) (aI.length:Int) aG aL aB))) else (.to (.h4 aE bB (Ze (cvT aB)) (((Ze (cvT aB)).length :Nat):Int) 0 (Ze (cvT aB)) v4 aI (Ze (cvT aB)) (aI.length:Int) aG aL aB)))) else .stuck))
 | .h4 v1 v2 v72 v73 v74 bW bC aD bH bD aG aL aE=>(bif (decide (v74<v73)) then (bif ((decide (0≤v74∧v74<(v72.length:Int)))&&true) then (bif (Nat.beq 6 6&&((decide (0+aD.length=aD.length))&&decide ((aD.length+1+1)*(48+1)≤Jh))) then (.to (.h4 v1 v2 v72 v73 (wrap .i64 (v74+1)) bW bC (aD++[(R6.mk (rd v72 v74.toNat).a (rd v72 v74.toNat).b v1 (rd v72 v74.toNat).c (rd v72 v74.toNat).d v2)]) bH bD aG aL aE)) else .stuck) else .stuck) else (.to (.h2 (wrap .i64 (bC+1)) aD bH bD v2 aG aL)))
 | .h5 v2 v8 cD bW bC aD bH bD bS bO bV aB=>(bif (decide (v8<(aD.length:Int))) then (bif ((decide (0≤v8∧v8<(aD.length:Int)))&&true) then (bif (decide ((0+v8.toNat)<aD.length)) then (.to (.h5 v2 (wrap .i64 (v8+1)) cD bW bC (aD.set (0+v8.toNat) (R6.mk (rd aD (0+v8.toNat)).a (rd aD (0+v8.toNat)).b (rd aD (0+v8.toNat)).c (rd aD (0+v8.toNat)).d (rd aD (0+v8.toNat)).e v2)) bH bD bS bO bV aB)) else .stuck) else .stuck) else (.to (.h2 (wrap .i64 (bC+1)) aD bH bD v2 bO bV)))
def y4h (l0:List R6):Xu sckS:=(bif (decide ((l0.length:Int)>400)) then (.ret [(.int .i64 4)]) else (.to (.h0 0)))
theorem w8o (l0:List R6): ∀s,Xq prog (Zy prog 52) (sckC l0) (sckC l0 s) (Xg l0 s)
 | .h0 v8=>(lb (fun k0=>(lo fun aH=>(lb (fun k1=>(lb (fun k2=>(lr 25 52 [1,1,0,1,0,0] 1 9 [(2,(ii 8))] (sl Vn 53 [] ⟨[],[],[some [2]],[]⟩ ⟨[],[],[]⟩ (trs 3 []) (tt k2 (tt k1 (ww aH (tt k0 nn))))))) (fun k2=>(sl Vn 113 [(3,1,Zz ([]:List Int))] ⟨[6,1,7,2,3,4,5,8],[],j2s,j2u⟩ ⟨[],[.keep,.keep,.cells [.grow 7 1],.keep,.keep,.keep,.keep,.keep],[]⟩ (bl 4 11) (pp (fl ([]:List Int) nn) (tt k2 (tt k1 (ww aH (tt k0 nn))))))))) (fun k1=>(sl Vn 44 [] ⟨[],[],sckN0,sckM0⟩ ⟨[],[],[]⟩ (bl 2 1) (tt k1 (ww aH (tt k0 nn)))))))) (fun k0=>(sl Vn 82 [(3,1,Zz ([]:List Int))] ⟨[5,0,6,1,2,3,4,7],[],j2s,j2u⟩ ⟨[],[.keep,.keep,.cells [.grow 7 1],.keep,.keep,.keep,.keep,.keep],[]⟩ (bl 3 4) (pp (fl ([]:List Int) nn) (tt k0 nn)))))
 | .h1 v16 aC=>(lb (fun k0=>(lo fun o0=>(lo fun o1=>(sl Vn 34 [] ⟨[0,1,2,3,4,5,6,10],[],j2s,j2u⟩ ⟨[],[.keep,.keep,.cells [.len (x0n aC l0 v16).length],.keep,.keep,.keep,.keep,.rowed 1 (x0n aC l0 v16).length (Zz (x0n aC l0 v16))],[]⟩ [true] (pp (xL (aC.length+2) (x0n aC l0 v16).length) (pp (xL (aC.length+2) (x0n aC l0 v16).length) (pp (xS (aC.length+2) (Zr (Zz aC) 0 aC.length 1 [(ii (rd l0 (tn v16)).c),(ii (rd l0 (tn v16)).f)]) (Zz (x0n aC l0 v16))) (pp (pp (xF (Zr (Zz aC) 0 aC.length 1 [(ii (rd l0 (tn v16)).c),(ii (rd l0 (tn v16)).f)])) nn) (ww o1 (ww o0 (tt k0 nn))))))))))) (fun k0=>(lo fun o0=>(lo fun o1=>(sl Vn 46 [(57,6,Zz ([]:List R6))] ⟨[8,3,4,5,6,2,7,0,1,9],[],j2r,j2t⟩ ⟨[],(kpB 4 [.cells [.grow 9 6,.list 0 (Zz ([]:List R4)),.keep,.keep],.keep,.rowed 1 (x0q aC).length (Zz (x0q aC)),.keep,.keep,.keep]),[]⟩ (bl 2 0) (pp (xL aC.length (x0q aC).length (by first | exact z2z _ _ | exact Uz rfl)) (pp (xS aC.length (Zz (x0q aC)) (Zz (x0q aC))) (pp (fl (x0q aC) (fl ([]:List R6) nn)) (pp (pp (xG (Nat.beq 1 1)) (pp (xG (Nat.beq 1 1)) (pp (xG (Nat.beq 0 0)) (pp (xG (decide (aC.length=aC.length))) (pp (xG (isI (Zz (Xf (Ye aC.length (cOf (Zz aC))))))) (xG (decide (aC.length<4611686018427387904)))))))) (pp (pp (xG (Nat.beq 1 1)) (pp (xG (Nat.beq 1 1)) (pp (xG (Nat.beq 0 0)) (pp (xG (decide (aC.length=aC.length))) (pp (xG (isI (Zz aC))) (xG (decide (aC.length<4611686018427387904)))))))) (tt k0 nn)))))))))))
 | .h2 v4 aI aX bE bF aG aL=>(lb (fun k0=>(lo fun o0=>(lo fun o1=>(lo fun o2=>(lo fun o3=>(sl Vn 48 [(116,4,Zz ([]:List R4))] ⟨[0,1,2,3,4,5,6,7,8,10,11,12,9],[],u1a,u1c⟩ ⟨[],(kpB 10 [.cells [.grow 11 4],.keep,.keep]),[]⟩ (trs 3 []) (pp (fl aL (fl ([]:List R4) (fl aI nn))) (ww o3 (ww o2 (ww o1 (ww o0 (tt k0 nn)))))))))))) (fun k0=>(lb (fun k1=>(lr 25 52 [1,1,1,0,1,1,0,0] 1 9 [(2,(ii 8))] (sl Vn 50 [] ⟨[],[],[some [2]],[]⟩ ⟨[],[],[]⟩ (bl 7 126) (tt k1 (tt k0 nn))))) (fun k1=>(lo fun bL=>(lo fun dP=>(lb (fun k2=>(lr 25 52 [1,1,1,0,1,1,0,0] 1 9 [(2,(ii 8))] (sl Vn 53 [] ⟨[],[],[some [2]],[]⟩ ⟨[],[],[]⟩ (bl 7 64) (tt k2 (pp (pp (pp (xw bL) (pp nn nn)) (pp (xI R6 (aI.length) (fun k=>(Zz aI) (0+k))) (pp (xr l0) (xw dP)))) (tt k1 (tt k0 nn))))))) (fun k2=>(lr 25 3 [1,1,1,1,0] 1 9 [(2,(ii 0))] (sl Vn 54 [] ⟨[],[],[some [2]],[]⟩ ⟨[],[],[]⟩ (bl 7 0) (tt k2 (pp (pp (pp (xw bL) (pp nn nn)) (pp (xI R6 (aI.length) (fun k=>(Zz aI) (0+k))) (pp (xr l0) (xw dP)))) (tt k1 (tt k0 nn))))))))))))))
 | .h3 v4 v38 aI aX bE bF aG aL aE bB aB=>(lb (fun k0=>(lo fun aH=>(lb (fun k1=>(lb (fun k2=>(lo fun o0=>(sl Vn 41 [] ⟨[0,1,2,3,4,5,6,7,8,9,10,15,12],[],u1a,u1c⟩ ⟨[],(kpB 10 [.cells [.len (x0p aB l0 v38).length],.rowed 4 (x0p aB l0 v38).length (Zz (x0p aB l0 v38)),.keep]),[]⟩ (trs 8 []) (pp (xL (aB.length+1) (x0p aB l0 v38).length) (pp (xL (aB.length+1) (x0p aB l0 v38).length) (pp (xS (aB.length+1) (Zr (Zz aB) 0 aB.length 4 [(ii (rd l0 (tn v38)).a),(ii (rd l0 (tn v38)).b),(ii (rd l0 (tn v38)).d),(ii (rd l0 (tn v38)).e)]) (Zz (x0p aB l0 v38))) (pp (fl aL (pp (xF (Zr (Zz aB) 0 aB.length 4 [(ii (rd l0 (tn v38)).a),(ii (rd l0 (tn v38)).b),(ii (rd l0 (tn v38)).d),(ii (rd l0 (tn v38)).e)])) (fl aI nn))) (ww o0 (tt k2 (tt k1 (ww aH (tt k0 nn)))))))))))) (fun k2=>(sl Vn 41 [] ⟨(List.range 13),[],u1a,u1c⟩ ⟨[],[],[]⟩ (trs 7 [false]) (pp (fl aL (fl aB (fl aI nn))) (tt k2 (tt k1 (ww aH (tt k0 nn))))))))) (fun k1=>(sl Vn 41 [] ⟨(List.range 13),[],u1a,u1c⟩ ⟨[],[],[]⟩ (bl 8 1) (pp (fl aL (fl aB (fl aI nn))) (tt k1 (ww aH (tt k0 nn))))))))) (fun k0=>(Ve (sl Vn (C':=⟨⟨65,0,true⟩,(Up prog 93 [1,1,0,1,0,1,0,0] 4),(Zc prog 93 [1,1,0,1,0,1,0,0] 1),(some 0),[],⟨Ya [(2,(.ptr 1 0)),(4,(.ptr 2 0)),(5,(.ptr 3 0)),(6,(.ptr 4 0)),(7,(.ptr 6 0)),(20,(.dat aB.length (Zz aB)))],z8j [(1,⟨[.nilf],101,none⟩),(2,⟨[.nils],33,none⟩),(3,⟨[(ii 0)],24,none⟩),(4,⟨[(.sla 5 6 0 aI.length (.un 6)),(.dat aX.length (Zz aX)),(ii bE),(ii bF)],179,none⟩),(5,⟨Yq aI.length (Zz aI),57,some ⟨6,aI.length,(Zz aI)⟩⟩),(6,⟨[(ii aE),(ii bB),(.sl 7 0 1 (.ex 1))],184,none⟩),(7,⟨[(.dat aB.length (Zz aB))],80,none⟩),(8,⟨[(.sla 9 1 0 aG (.un 1))],125,none⟩),(9,⟨Yq aL.length (Zz aL),3,some ⟨1,aL.length,(Zz aL)⟩⟩),(10,⟨[(.sl 11 0 1 (.un 1))],177,none⟩),(11,⟨[(.dat l0.length (Zz l0))],32,none⟩)],12,[],true⟩,[⟨⟨86,0,true⟩,(Up prog 162 [1,0,0,1,0,0,1,1,0] 2),(Zc prog 162 [1,0,0,1,0,0,1,1,0] 1),none,[],Ya [(0,(.yld 0)),(1,(.ptr 8 0)),(2,(.ptr 10 0)),(4,(ii v4)),(82,(.yld 0)),(83,(.agg [(ii aE),(ii bB),(.sl 7 0 1 (.ex 1))]))]⟩,⟨⟨65,0,true⟩,none,(.inRangeFunc 0::(Zc prog 93 [1,1,0,1,0] 1)),none,(Zy prog 93),Ya [(4,(.ptr 2 0)),(5,(.ptr 3 0)),(6,(.ptr 4 0))]⟩,⟨⟨25,0,true⟩,(Up prog 52 [1,1,1,0,0] 3),(Zc prog 52 [1,1,1,0,0] 1),none,(Zy prog 9),Ya [(0,(.dat l0.length (Zz l0))),(11,(.agg [.nilf])),(13,(.sl 11 0 1 (.un 1)))]⟩],(y5l [(0,⟨.busy,none,65,Ya [(2,(.ptr 1 0)),(4,(.ptr 2 0)),(5,(.ptr 3 0)),(6,(.ptr 4 0))],[15],(Vy prog 93 [1,1,0,1,0,0]),(Vy prog 93 [1,1,0,1,0,1])⟩)])⟩) 37 [] ⟨[0,1,2,3,4,12,13,10,5,6,7,8],[11],[some [2,4,5,6,7,20],some [0,1,2,4,82,83],some [4,5,6],some [0,11,13]],[some [2,4,5,6],none,none,none,none,none,none,none,none,none,none,none]⟩ ⟨[(20,.frz aB.length aB.length (Zz aB) (Zz aB))],[.keep,.keep,.keep,.keep,.keep,.keep,.keep,.cells [.frz aB.length aB.length (Zz aB) (Zz aB)],.keep,.keep,.keep,.keep],[]⟩ (bl 2 0) (pp (xZ (z5q 4 4 0 aB.length aB.length (Zz aB)) aB.length (Zz aB)) (pp (xL aB.length aB.length) (pp (xS aB.length (Zz aB) (Zz aB)) (pp (xZ (z5q 4 4 0 aB.length aB.length (Zz aB)) aB.length (Zz aB)) (pp (xL aB.length aB.length) (pp (xS aB.length (Zz aB) (Zz aB)) (pp (fl aI (fl aL nn)) (pp (fl aB nn) (tt k0 nn)))))))))) (lo fun aH=>(lb (fun k1=>(lr 25 52 [1,1,1,0,1,1,0,0] 1 9 [(2,(ii 8))] (sl Vn 67 [] ⟨[],[],[some [2]],[]⟩ ⟨[],[],[]⟩ (bl 8 254) (tt k1 (tt k1 (pp (pp (xr aB) (xw aH)) nn)))))) (fun k1=>(lb (fun k2=>(lb (fun k3=>(lo fun bZ=>(lb (fun k4=>(sl Vn 75 [] ⟨[4,5,0,1,2,3,8,9,10,11,7],[],sckN5,sckM5⟩ ⟨[],[],[]⟩ (bl 15 32764) (pp (fl aI (fl aL nn)) (tt k4 (pp (pp (xr aX) (pp (xI R4 (Ze (cvT aB)).length (Zz (Ze (cvT aB)))) (xw bZ))) (tt k3 (tt k2 (tt k1 (pp (pp (xr aB) (xw aH)) nn))))))))) (fun k4=>(sl Vn 95 [] ⟨[4,0,1,2,3,8,9,10,11,7,5],[],u0z,u1b⟩ ⟨[],[],[]⟩ (bl 15 16380) (pp (fl aL (fl aI nn)) (tt k4 (pp (pp (xr aX) (pp (xI R4 (Ze (cvT aB)).length (Zz (Ze (cvT aB)))) (xw bZ))) (tt k3 (tt k2 (tt k1 (pp (pp (xr aB) (xw aH)) nn)))))))))))) (fun k3=>(sl Vn 95 [] ⟨[4,0,1,2,3,8,9,10,11,7,5],[],u0z,u1b⟩ ⟨[],[],[]⟩ (bl 15 252) (pp (fl aL (fl aI nn)) (tt k3 (tt k2 (tt k1 (pp (pp (xr aB) (xw aH)) nn))))))))) (fun k2=>(sl Vn 95 [] ⟨[4,0,1,2,3,8,9,10,11,7,5],[],u0z,u1b⟩ ⟨[],[],[]⟩ (bl 15 0) (pp (fl aL (fl aI nn)) (tt k2 (tt k1 (pp (pp (xr aB) (xw aH)) nn)))))))))))))
 | .h4 v1 v2 v72 v73 v74 bW bC aD bH bD aG aL aE=>(lb (fun k0=>(lo fun o0=>(lo fun o1=>(sl Vn 23 [] ⟨[0,1,2,3,4,5,6,7,8,9,13],[],u0z,u1b⟩ ⟨[],[.cells [.len (x0o aD v72 v74 v1 v2).length,.keep,.keep,.keep],.keep,.keep,.keep,.keep,.keep,.keep,.keep,.keep,.keep,.rowed 6 (x0o aD v72 v74 v1 v2).length (Zz (x0o aD v72 v74 v1 v2))],[]⟩ [true] (pp (xL (aD.length+1) (x0o aD v72 v74 v1 v2).length) (pp (xL (aD.length+1) (x0o aD v72 v74 v1 v2).length) (pp (xS (aD.length+1) (Zr (Zz aD) 0 aD.length 6 [(ii (rd v72 (tn v74)).a),(ii (rd v72 (tn v74)).b),(ii v1),(ii (rd v72 (tn v74)).c),(ii (rd v72 (tn v74)).d),(ii v2)]) (Zz (x0o aD v72 v74 v1 v2))) (pp (fl aL (pp (xF (Zr (Zz aD) 0 aD.length 6 [(ii (rd v72 (tn v74)).a),(ii (rd v72 (tn v74)).b),(ii v1),(ii (rd v72 (tn v74)).c),(ii (rd v72 (tn v74)).d),(ii v2)])) nn)) (ww o1 (ww o0 (tt k0 nn))))))))))) (fun k0=>(sl Vn 22 [] ⟨[1,2,3,4,0,5,6,7,8,10],[],j2r,j2t⟩ ⟨[],[],[]⟩ (bl 2 0) (pp (fl aL (fl aD nn)) (tt k0 nn)))))
 | .h5 v2 v8 cD bW bC aD bH bD bS bO bV aB=>(lb (fun k0=>(lo fun o0=>(lo fun o1=>(sl Vn 34 [] ⟨(List.range 11),[],sckN5,sckM5⟩ ⟨[],[.cells [.len (x0r aD v8 v2).length,.keep,.keep,.keep],.rowed 6 (x0r aD v8 v2).length (Zz (x0r aD v8 v2)),.keep,.keep,.keep,.keep,.keep,.keep,.keep,.keep,.keep],[]⟩ [true] (pp (xL aD.length (x0r aD v8 v2).length) (pp (xL aD.length (x0r aD v8 v2).length) (pp (xS aD.length (Xr (Zz aD) (0+(tn v8)) 5 [(ii v2)]) (Zz (x0r aD v8 v2))) (pp (pp (xF (Xr (Zz aD) (0+(tn v8)) 5 [(ii v2)])) (fl bV nn)) (ww o1 (ww o0 (tt k0 nn))))))))))) (fun k0=>(sl Vn 36 [] ⟨[2,3,4,5,0,6,7,8,9,1],[],j2r,j2t⟩ ⟨[],[],[]⟩ (bl 2 0) (pp (fl bV (fl aD nn)) (tt k0 nn)))))
theorem x9p (l0:List R6):Xq prog (Zy prog 52) (sckC l0) (Zb prog 52 [(.dat l0.length (Zz l0))] true []) (y4h l0):=(lb (fun k0=>(lr 25 52 [1,0,1,0,0] 1 9 [(2,(ii 4))] (sl Vn 16 [] ⟨[],[],[some [2]],[]⟩ ⟨[],[],[]⟩ [true] (tt k0 nn)))) (fun k0=>(sl Vn 40 [] ⟨[],[],sckN0,sckM0⟩ ⟨[],[],[]⟩ [false] (tt k0 nn))))
theorem u0x (l0:List R6) (n:Nat) (vs:List AVal) (h:Yy (Xg l0) n (y4h l0)=.ret vs):Jx prog (Zy prog 52) (Zb prog 52 [(.dat l0.length (Zz l0))] true []) vs:=by have:=Zd (w8o l0) n _ (x9p l0);rwa [h] at this
theorem w1b (l:List R4):(Ze l).length ≤400:=by
 unfold Ze;by_cases h:400<l.length
 ·rw [Ai h];exact AD _
 ·rw [An h];cases l.all Vo
  ·exact AD _
  ·show (bif decide (((D4.out l).length :Int)>400) then [] else D4.out l).length ≤400;by_cases h2:((D4.out l).length :Int)>400
   ·rw [Ai h2];exact AD _
   ·rw [An h2];show (D4.out l).length ≤400;omega
def D6 :Dim R6 R4:=⟨R6.c,R6.f,fun r=>⟨r.a,r.b,r.d,r.e⟩,fun x x' s=>⟨s.a,s.b,x,s.c,s.d,x'⟩,fun x r=>⟨r.a,r.b,r.c,r.d,r.e,x⟩,Ze,Ur⟩
theorem D6_sec (l:List R6) (x:Int):(D6.sec l x).length ≤1000:=AK (w1b _) (by omega)
def sckErr :List AVal:=[.int .i64 8]
def x5s (l out:List R6):List AVal:=bif decide ((out.length:Int)>400) then [.int .i64 8] else bif Uo out l then [.int .i64 0] else [.int .i64 8]
def badS (l:List R6) (x:Int):Bool:=Ww (D6.inn l x) != 0
def okF (l:List R6):Nat→Nat→Bool
 | 0,_=>true
 | k+1,i=>bif badS l (rd (D6.cuts l) i) then false else okF l k (i+1)
section
variable (l:List R6) (hl:l.length≤400)
include hl
theorem u7e (i:Nat) (out:List R6) (last:List R4) (first fin x x':Int): ∀(k j:Nat) (acc:List R4),j+k=l.length→acc.length≤j→
  ∃n,∀N,Yy (Xg l) (N+n) (.to (.h3 (i:Int) (j:Int) out last first fin ((D6.cuts l).length) (Wo (Xf (D6.ends l))) x x' acc))=Yy (Xg l) N (.to (.h3 (i:Int) (l.length:Int) out last first fin ((D6.cuts l).length) (Wo (Xf (D6.ends l))) x x' (acc++D6.inn (l.drop j) x)))
 | 0,j,acc,h,ha=>by refine ⟨0,fun N=> ?_⟩;rw [Au (by omega),show D6.inn ([]:List R6) x=[] from rfl,Az,A3,show j=l.length by omega]
 | k+1,j,acc,h,ha=>by
  have hj:j<l.length:=by omega
  obtain ⟨n,hn⟩:=u7e i out last first fin x x' k (j+1) (acc++D6.inn [rd l j] x) (by omega) (by have:=D6.inn_length [rd l j] x;simp only [Aw,Bo] at*;omega)
  refine ⟨n+1,fun N=> ?_⟩;have e:D6.inn (l.drop j) x=D6.inn [rd l j] x++D6.inn (l.drop (j+1)) x:=by rw [Yg hj,←D6.inn_append];rfl
  rw [e,←AB,Zv,←AL,←hn N];by_cases h1:D6.lo (rd l j)≤x
  ·by_cases h2:x<D6.hi (rd l j)
   ·rw [D6.inn_t _ _ h1 h2];simp only [D6] at h1 h2 ⊢;simp (disch:=omega) only [Xg,Xo,Zg,Zq,Zi,Zf,Yb,Yu,Yp,Zh,Zk,Zx,Yc,Zj,Ag,Av,Ah,Aj,Ab,Aa]
   ·rw [D6.inn_f2 _ _ h2,Az];simp only [D6] at h1 h2;simp (disch:=omega) only [Xg,Xo,Zt,Zg,Zq,Zi,Zf,Yb,Yu,Yp,Zh,Zk,Zx,Yc,Zj,Ag,Av,Ah,Aj,Ab,Aa]
  ·rw [D6.inn_f1 _ _ h1,Az];simp only [D6] at h1;simp (disch:=omega) only [Xg,w3i,Zg,Zq,Zi,Zf,Yb,Yu,Yp,Zh,Zk,Zx,Yc,Zj,Ag,Av,Ah,Aj,Ab,Aa]
theorem u7d (i:Nat) (hi:i≤1000) (x x':Int) (s last:List R4) (first:Int) (inn:List R4) (hs:s.length≤1000): ∀(k j:Nat) (out:List R6),j+k=s.length→out.length≤10000000+j→
  ∃n,∀N,Yy (Xg l) (N+n) (.to (.h4 x x' s (s.length:Int) (j:Int) s (i:Int) out last first ((D6.cuts l).length) (Wo (Xf (D6.ends l))) inn))=Yy (Xg l) N (.to (.h2 ((i+1:Nat):Int) (out++(s.drop j).map (D6.put x x')) last first x' ((D6.cuts l).length) (Wo (Xf (D6.ends l)))))
 | 0,j,out,h,ho=>by have _u:=hl;refine ⟨1,fun N=> ?_⟩;rw [Au (by omega),Zv];simp (disch:=omega) only [Xg,Zt,Zk,Zx,Aa,Bd,Az]
 | k+1,j,out,h,ho=>by
  obtain ⟨n,hn⟩:=u7d i hi x x' s last first inn hs k (j+1) (out++[D6.put x x' (rd s j)]) (by omega) (by simp;omega)
  refine ⟨n+1,fun N=> ?_⟩;have:=hn N;rw [Yg (show j<s.length by omega),AY,←AB,Zv];simp (disch:=omega) only [Xg,Zg,Zq,Zi,Zf,Yb,Yu,Yp,Zh,Zk,Zx,Yc,Zj,Ag,Av,Ah,Aj,Ab,Aa];rw [AL] at this;exact this
theorem u7c (i:Nat) (hi:i≤1000) (x x' fin:Int) (s last:List R4) (first:Int) (inn:List R4): ∀(k j:Nat) (out:List R6),j+k=out.length→out.length≤10000000→
  ∃n,∀N,Yy (Xg l) (N+n) (.to (.h5 x' (j:Int) x s (i:Int) out last first fin ((D6.cuts l).length) (Wo (Xf (D6.ends l))) inn))=Yy (Xg l) N (.to (.h2 ((i+1:Nat):Int) (D6.grow out j x') last first x' ((D6.cuts l).length) (Wo (Xf (D6.ends l)))))
 | 0,j,out,h,ho=>by have _u:=hl;refine ⟨1,fun N=> ?_⟩;rw [D6.grow_nil _ _ _ (by omega),Zv];simp (disch:=omega) only [Xg,Zt,Zk,Zx,Aa]
 | k+1,j,out,h,ho=>by
  obtain ⟨n,hn⟩:=u7c i hi x x' fin s last first inn k (j+1) (out.set j (D6.ext x' (rd out j))) (by simp;omega) (by simpa using ho)
  refine ⟨n+1,fun N=> ?_⟩;have:=hn N;rw [D6.grow_set out j _ (by omega)] at this;rw [←AB,Zv];simp (disch:=omega) only [Xg,Zg,Zq,Zi,Zf,Yb,Yu,Yp,Zh,Zk,Zx,Yc,Zj,Ag,Av,Ah,Aj,Ab,Aa];exact this
theorem v3x : ∀(k i:Nat) (s:Sw R6 R4),k=(D6.cuts l).length - 1 - i→i≤(D6.cuts l).length →s.out.length≤i*1000→s.last.length≤1000→s.first≤s.out.length→
  ∃n,Yy (Xg l) n (.to (.h2 ((i+1:Nat):Int) s.out s.last (s.first:Int) s.fin ((D6.cuts l).length) (Wo (Xf (D6.ends l)))))=.ret ((bif okF l k i then x5s l (D6.go l k i s).out else sckErr))
 | 0,i,s,h,hi,ho,hla,hf=>by
  have hc:=D6.cuts_length l;refine ⟨1,?_⟩;rw [Zv,show D6.go l 0 i s=s from rfl,show okF l 0 i=true from rfl,Ab];unfold x5s;by_cases q:(s.out.length:Int)>400
  ·simp (disch:=omega) only [Xg,Zt,Yt,Ab,Aa,Zp]
  ·have e:lst R6 s.out.length (fun k=>(Zz s.out) k)=s.out:=Zq s.out;have w:Ws s.out l=true:=Ai (by omega);have f:z1g (Zz s.out)=true:=Xa _;rcases Yx (Uo s.out l) with q2 | q2 <;>
   simp (disch:=omega) only [Xg,Zg,e,w,f,q2,Zt,Xc,Yb,Yc,Ag,AE,AG,Ah,Ab,Aa,Zp]
 | k +1,i,s,h,hi,ho,hla,hf=>by
  have hc:=D6.cuts_length l;have hi1:i+1<(D6.cuts l).length :=by omega
  have hpl:(Wo (Xf (D6.ends l))).length =2*l.length:=by rw [Ju,Vr,D6.ends_length]
  have r0:rd (Wo (Xf (D6.ends l))) i=rd (D6.cuts l) i:=z6y _ _ (by show i<(D6.cuts l).length;omega);have r1:rd (Wo (Xf (D6.ends l))) (i+1)=rd (D6.cuts l) (i+1):=z6y _ _ (by show i+1<(D6.cuts l).length;omega);have hbig:i*1000≤1000*1000:=AH _ (by omega);have hsl:=D6_sec l (rd (D6.cuts l) i);have hsd:D6.sec l (rd (D6.cuts l) i)=Ze (D6.inn l (rd (D6.cuts l) i)):=rfl;obtain ⟨n3,h3⟩:=u7e l hl (i+1) s.out s.last (s.first:Int) s.fin (rd (D6.cuts l) i) (rd (D6.cuts l) (i+1)) l.length 0 [] (Ag _) (Ar _);simp only [AX,Bc,z4q] at h3;have w1:Jn (D6.inn l (rd (D6.cuts l) i))=true:=rfl;have w2:Wd s.last (Ze (D6.inn l (rd (D6.cuts l) i)))=true:=Ai (by omega);have ol:=D6.one_length l (rd (D6.cuts l) i) (rd (D6.cuts l) (i+1)) s;have st0: ∀N,Yy (Xg l) (N+n3+1) (.to (.h2 ((i+1:Nat):Int) s.out s.last (s.first:Int) s.fin ((D6.cuts l).length) (Wo (Xf (D6.ends l)))))=Yy (Xg l) N (.to (.h3 ((i+1:Nat):Int) (l.length:Int) s.out s.last (s.first:Int) s.fin ((D6.cuts l).length) (Wo (Xf (D6.ends l))) (rd (D6.cuts l) i) (rd (D6.cuts l) (i+1)) (D6.inn l (rd (D6.cuts l) i)))):=fun N=>by
   rw [←h3 N,Zv];have e1:wrap .i64 (((i+1:Nat):Int) - 1)=(i:Int):=by rw [Yz];exact Zk (by omega)
   simp (disch:=omega) only [Xg,e1,r0,r1,Zg,Zq,Zi,Zf,Yb,Yu,Yp,Zh,Zk,Zx,Yc,Zj,Ag,Av,Ah,Aj,Ab,Aa]
  rcases Yx (badS l (rd (D6.cuts l) i)) with q0 | q0
  ·refine ⟨1+n3+1,?_⟩;rw [st0 1,Zv];simp only [okF,q0,Ab,Aa];have q0':(Ww (D6.inn l (rd (D6.cuts l) i)) != 0)=true:=q0;simp (disch:=omega) only [Xg,Zg,Zq,Zt,q0',w1,Ab,Aa,Zp];rfl
  have q0':(Ww (D6.inn l (rd (D6.cuts l) i)) != 0)=false:=q0;rcases Yx (decide (0<(D6.sec l (rd (D6.cuts l) i)).length)&&((s.fin == rd (D6.cuts l) i)&&D6.same s.last (D6.sec l (rd (D6.cuts l) i)))) with q | q
  ·obtain ⟨n5,h5⟩:=u7c l hl (i+1) (by omega) (rd (D6.cuts l) i) (rd (D6.cuts l) (i+1)) s.fin (D6.sec l (rd (D6.cuts l) i)) s.last (s.first:Int) (D6.inn l (rd (D6.cuts l) i)) (s.out.length - s.first) s.first s.out (by omega) (by omega)
   have e:D6.one l (rd (D6.cuts l) i) (rd (D6.cuts l) (i+1)) s=⟨D6.grow s.out s.first (rd (D6.cuts l) (i+1)),s.last,s.first,rd (D6.cuts l) (i+1)⟩:=by unfold Dim.one;rw [q];rfl
   obtain ⟨n0,h0⟩:=v3x k (i+1) (D6.one l (rd (D6.cuts l) i) (rd (D6.cuts l) (i+1)) s) (by omega) (by omega) (by omega) (by rw [e];exact hla) (by rw [e];simpa [Dim.grow_length] using hf);refine ⟨n0+n5+1+n3+1,?_⟩;rw [st0 (n0+n5+1),Zv];simp only [Ac,As] at q;obtain ⟨q1,q2,q3⟩:=q;have q3':Ur s.last (Ze (D6.inn l (rd (D6.cuts l) i)))=true:=q3;rw [hsd] at q1;simp (disch:=omega) only [Xg,Zg,Zq,Zt,Yt,q0',q2,q3',w1,w2,Ab,Aa];rw [←hsd,h5 n0];simp only [okF,q0,Aa];simp only [Dim.go];rw [e] at h0 ⊢;exact h0
  ·obtain ⟨n4,h4⟩:=u7d l hl (i+1) (by omega) (rd (D6.cuts l) i) (rd (D6.cuts l) (i+1)) (D6.sec l (rd (D6.cuts l) i)) (D6.sec l (rd (D6.cuts l) i)) (s.out.length:Int) (D6.inn l (rd (D6.cuts l) i)) hsl (D6.sec l (rd (D6.cuts l) i)).length 0 s.out (Ag _) (by omega);simp only [AX,z4q] at h4;have e:D6.one l (rd (D6.cuts l) i) (rd (D6.cuts l) (i+1)) s=⟨s.out++(D6.sec l (rd (D6.cuts l) i)).map (D6.put (rd (D6.cuts l) i) (rd (D6.cuts l) (i+1))),D6.sec l (rd (D6.cuts l) i),s.out.length,rd (D6.cuts l) (i+1)⟩:=by unfold Dim.one;rw [q];rfl
   obtain ⟨n0,h0⟩:=v3x k (i+1) (D6.one l (rd (D6.cuts l) i) (rd (D6.cuts l) (i+1)) s) (by omega) (by omega) (by omega) (by rw [e];exact hsl) (by rw [e];simp);have hg:Yy (Xg l) 1 (.to (.h3 ((i+1:Nat):Int) (l.length:Int) s.out s.last (s.first:Int) s.fin ((D6.cuts l).length) (Wo (Xf (D6.ends l))) (rd (D6.cuts l) i) (rd (D6.cuts l) (i+1)) (D6.inn l (rd (D6.cuts l) i))))=.to (.h4 (rd (D6.cuts l) i) (rd (D6.cuts l) (i+1)) (D6.sec l (rd (D6.cuts l) i)) ((D6.sec l (rd (D6.cuts l) i)).length :Int) 0 (D6.sec l (rd (D6.cuts l) i)) ((i+1:Nat):Int) s.out (D6.sec l (rd (D6.cuts l) i)) (s.out.length:Int) ((D6.cuts l).length) (Wo (Xf (D6.ends l))) (D6.inn l (rd (D6.cuts l) i))):=by
    rw [show (1:Nat)=0+1 from rfl,Zv];rw [hsd] at q ⊢;have e3:D6.same s.last (Ze (D6.inn l (rd (D6.cuts l) i)))=Ur s.last (Ze (D6.inn l (rd (D6.cuts l) i))):=rfl;rw [e3] at q;by_cases q1:0<(Ze (D6.inn l (rd (D6.cuts l) i))).length
    ·rw [Ai q1,Aj] at q;rcases Yx (s.fin == rd (D6.cuts l) i) with q2 | q2
     ·rw [q2,Aj] at q;simp (disch:=omega) only [Xg,Zg,Zq,Zt,Yt,q0',q2,q,w1,w2,Ab,Aa];rfl
     ·simp (disch:=omega) only [Xg,Zg,Zq,Zt,Yt,q0',q2,w1,w2,Ab,Aa];rfl
    ·simp (disch:=omega) only [Xg,Zg,Zq,Zt,Xc,q0',w1,w2,Ab,Aa];rfl
   refine ⟨n0+n4+1+n3+1,?_⟩;rw [st0 (n0+n4+1),z9x _ (n0+n4) 1,hg,h4 n0];simp only [okF,q0,Aa];simp only [Dim.go];rw [e] at h0 ⊢;exact h0
theorem u7f : ∀(k i:Nat) (acc:List Int),i+k=l.length→acc=D6.ends (l.take i)→ ∃n,Yy (Xg l) n (.to (.h1 (i:Int) acc))=.ret ((bif okF l ((D6.cuts l).length - 1) 0 then x5s l (D6.go l ((D6.cuts l).length - 1) 0 ⟨[],[],0,0⟩).out else sckErr))
 | 0,i,acc,h,ha=>by
  have e:acc=D6.ends l:=by rw [ha,AP (by omega)]
  subst e;have hle:=D6.ends_length l;obtain ⟨n,hn⟩:=v3x l hl ((D6.cuts l).length - 1) 0 ⟨[],[],0,0⟩ (by omega) (AD _) (AD _) (AD _) (AD _);refine ⟨n+1,?_⟩;rw [Zv];simp (disch:=omega) only [Xg,Kv,z0t,y2f,Zt,Yu,Yp,Av,Ab,Aa];exact hn
 | k+1,i,acc,h,ha=>by
  have hle:=D6.ends_length (l.take i);have gG:acc.length≤2*i:=by rw [ha,hle];simp;omega
  obtain ⟨n,hn⟩:=u7f k (i+1) (acc++D6.ends [rd l i]) (by omega) (by
   rw [ha,Bg];have:l[i]? =some (rd l i):=by rw [Yi (show i<l.length by omega)];exact Ao _
   rw [this,D6.ends_append];rfl)
  refine ⟨n+1,?_⟩;rw [Zv];simp (disch:=omega) only [Xg,Zg,Zq,Zi,Zf,Yb,Yu,Yp,Zh,Zk,Zx,Yc,Zj,Ag,Av,Ah,Aj,Ab,Aa];exact hn
theorem u7g : ∀(k i:Nat),i+k=l.length→(∀s∈l.take i,z3k s=true)→ ∃n,Yy (Xg l) n (.to (.h0 (i:Int)))=.ret (bif l.all z3k then (bif okF l ((D6.cuts l).length - 1) 0 then x5s l (D6.go l ((D6.cuts l).length - 1) 0 ⟨[],[],0,0⟩).out else sckErr) else sckErr)
 | 0,i,h,ht=>by have hv:l.all z3k=true:=At.2 fun s hs=>ht s (by rw [AP (by omega)];exact hs);obtain ⟨n,hn⟩:=u7f l hl l.length 0 [] (Ag _) rfl;refine ⟨n+1,?_⟩;rw [Zv,hv,Ab];simp (disch:=omega) only [Xg,Zt,Aa];exact hn
 | k+1,i,h,ht=>by
  have hi:i<l.length:=by omega
  have hs:Xg l (.h0 (i:Int))=bif z3k (rd l i) then .to (.h0 ((i+1:Nat):Int)) else .ret sckErr:=by have e:vl6V (rd l i).a (rd l i).b (rd l i).c (rd l i).d (rd l i).e (rd l i).f =z3k (rd l i):=rfl;simp (disch:=omega) only [Xg,e,y2h,w6y,v8d,Zf,Zk,Zx,Zj,Ah,Ab,Aa];rfl
  rcases Yx (z3k (rd l i)) with q | q
  ·obtain ⟨n,hn⟩:=u7g k (i+1) (by omega) (fun s hs=>by
    rw [Bg] at hs;have e:l[i]? =some (rd l i):=by rw [Yi hi];exact Ao _
    rw [e] at hs;simp only [Cq,AF,AT] at hs;rcases hs with hs | rfl
    ·exact ht s hs
    ·exact q)
   refine ⟨n+1,?_⟩;rw [Zv,hs,q,Ab];exact hn
  ·have hv:l.all z3k=false:=A4.2 fun e=>by have:=At.1 e (rd l i) (by rw [Yi hi];exact AM hi);rw [this] at q;cases q
   refine ⟨1,?_⟩;rw [Zv,hv,Aa,hs,q,Aa,Zp]
end
def Yd (l:List R6):Int:=bif decide (400<l.length) then 4 else bif l.all z3k then (bif okF l ((D6.cuts l).length - 1) 0 then (bif decide (((D6.out l).length :Int)>400) then 8 else bif Uo (D6.out l) l then 0 else 8) else 8) else 8
def v3z (l:List R6):Bool:=true
theorem j2q (l:List R6): ∃n,Yy (Xg l) n (y4h l)=.ret [.int .i64 (Yd l)]:=by
 unfold y4h Yd;by_cases h:400<l.length
 ·refine ⟨0,?_⟩;rw [Ai h,Yt (show (l.length:Int)>400 by omega)];rfl
 ·obtain ⟨n,hn⟩:=u7g l (by omega) l.length 0 (Ag _) (fun s hs=>by simp at hs);refine ⟨n,?_⟩;rw [An h,Xc (show¬(l.length:Int)>400 by omega),Aa,Aa];rw [z4q] at hn;rw [hn];unfold sckErr x5s;cases l.all z3k <;> simp only [Ab,Aa];cases okF l ((D6.cuts l).length - 1) 0 <;> simp only [Ab,Aa];show Xu.ret (bif decide (((D6.out l).length :Int)>400) then _ else bif Uo (D6.out l) l then _ else _)=_;cases decide (((D6.out l).length :Int)>400) <;> simp only [Ab,Aa];cases Uo (D6.out l) l <;> rfl
def fSck :List AVal→Option (AVal×Bool)
 | [a1]=>match asL R6 a1 with
  | some (L1,g1,n1)=>some (.int .i64 (Yd L1),isT R6 n1 g1&&v3z L1)
  | _=>none
 | _=>none
theorem j6k {S:Specs} (hS:Zu prog S):Zu prog (S.with x6u fSck):=by
 refine z0v hS (by kernel_rfl) fun args v h=> ?_;unfold fSck at h;split at h
 ·rename_i a1;split at h
  ·rename_i L1 g1 n1 e1;simp only [Ae,Ad,Ac] at h;obtain ⟨rfl,ho1,hw⟩:=h;obtain ⟨N,hN⟩:=j2q L1;exact ⟨_,_,(.cons (Yh e1 ho1) .nil),rfl,u0x L1 N _ hN,3,rfl⟩
  ·cases h
 ·cases h
def T8 :Specs:=T7v.with x6u fSck
theorem z1p :Zu prog T8:=j6k Vn
def Kw (l:List R6):Bool:=true
def z1d (l:List R6):Bool:=true
inductive rchkS where
 | h0 (v3:Int)
def j4q (l0:List R6):rchkS→Cfg
 | .h0 v3=>⟨⟨34,0,true⟩,none,(Zc prog 59 [1,1,0,1,0,0] 0),none,(Zy prog 9),⟨Ya [(0,(.dat l0.length (Zz l0))),(3,(ii v3))],Vd [] 0,0,[],true⟩,[],.leaf⟩
def u9e :List (Option (List Nat)):=[some [0,3]]
def u9f :List (Option (List Nat)):=[]
def z1z (l0:List R6):rchkS→Xu rchkS
 | .h0 v3=>(bif (decide (v3<(l0.length:Int))) then (bif ((decide (0≤v3∧v3<(l0.length:Int)))&&true) then (bif (decide ((rd l0 v3.toNat).a ≥(-1000000))) then (bif (decide ((rd l0 v3.toNat).b ≥(-1000000))) then (bif (decide ((rd l0 v3.toNat).c ≥(-1000000))) then (bif (decide ((rd l0 v3.toNat).a ≤1000000)) then (bif (decide ((rd l0 v3.toNat).b ≤1000000)) then (bif (decide ((rd l0 v3.toNat).c ≤1000000)) then (bif (decide ((rd l0 v3.toNat).d ≥(-1000000))) then (bif (decide ((rd l0 v3.toNat).e ≥(-1000000))) then (bif (decide ((rd l0 v3.toNat).f ≥(-1000000))) then (bif (decide ((rd l0 v3.toNat).d ≤1000000)) then (bif (decide ((rd l0 v3.toNat).e ≤1000000)) then (bif (decide ((rd l0 v3.toNat).f ≤1000000)) then (bif (decide ((rd l0 v3.toNat).a <(rd l0 v3.toNat).d)) then (bif (decide ((rd l0 v3.toNat).b <(rd l0 v3.toNat).e)) then (bif (!(decide ((rd l0 v3.toNat).c <(rd l0 v3.toNat).f))) then (.ret [(.int .i64 8)]) else (.to (.h0 (wrap .i64 (v3+1))))) else (.ret [(.int .i64 8)])) else (.ret [(.int .i64 8)])) else (.ret [(.int .i64 8)])) else (.ret [(.int .i64 8)])) else (.ret [(.int .i64 8)])) else (.ret [(.int .i64 8)])) else (.ret [(.int .i64 8)])) else (.ret [(.int .i64 8)])) else (.ret [(.int .i64 8)])) else (.ret [(.int .i64 8)])) else (.ret [(.int .i64 8)])) else (.ret [(.int .i64 8)])) else (.ret [(.int .i64 8)])) else (.ret [(.int .i64 8)])) else .stuck) else (bif (z4a 2 (cvT l0) ([]:List R6)) then (bif (!(z2n 2 (cvT l0) ([]:List R6))) then (.ret [(.int .i64 8)]) else (bif (Ws (cvT (Qq 2 (cvT l0) ([]:List R6))) (cvT l0)) then (bif (!(Uo (cvT (Qq 2 (cvT l0) ([]:List R6))) (cvT l0))) then (.ret [(.int .i64 8)]) else (.ret [(.int .i64 0)])) else .stuck)) else .stuck))
def z9k (l0:List R6):Xu rchkS:=(bif (decide ((l0.length:Int)>400)) then (.ret [(.int .i64 4)]) else (.to (.h0 0)))
theorem w1k (l0:List R6): ∀s,Xq prog (Zy prog 59) (j4q l0) (j4q l0 s) (z1z l0 s)
 | .h0 v3=>(lb (fun k0=>(lo fun aH=>(lb (fun k1=>(lb (fun k2=>(lb (fun k3=>(lb (fun k4=>(lb (fun k5=>(lb (fun k6=>(lb (fun k7=>(lb (fun k8=>(lb (fun k9=>(lb (fun k10=>(lb (fun k11=>(lb (fun k12=>(lb (fun k13=>(lb (fun k14=>(lb (fun k15=>(lr 34 59 [1,1,0,1,0,0,1,0,0,1,0,0] 1 9 [(2,(ii 8))] (sl z1p 158 [] ⟨[],[],[some [2]],[]⟩ ⟨[],[],[]⟩ (trs 60 []) (tt k15 (tt k14 (tt k13 (tt k12 (tt k11 (tt k10 (tt k9 (tt k8 (tt k7 (tt k6 (tt k5 (tt k4 (tt k3 (tt k2 (tt k1 (ww aH (tt k0 nn)))))))))))))))))))) (fun k15=>(sl z1p 162 [] ⟨[],[],u9e,u9f⟩ ⟨[],[],[]⟩ (trs 59 [false]) (tt k15 (tt k14 (tt k13 (tt k12 (tt k11 (tt k10 (tt k9 (tt k8 (tt k7 (tt k6 (tt k5 (tt k4 (tt k3 (tt k2 (tt k1 (ww aH (tt k0 nn))))))))))))))))))))) (fun k14=>(lr 34 59 [1,1,0,1,0,0,1,0,0,1,0,0] 1 9 [(2,(ii 8))] (sl z1p 158 [] ⟨[],[],[some [2]],[]⟩ ⟨[],[],[]⟩ (trs 52 (bl 8 128)) (tt k14 (tt k13 (tt k12 (tt k11 (tt k10 (tt k9 (tt k8 (tt k7 (tt k6 (tt k5 (tt k4 (tt k3 (tt k2 (tt k1 (ww aH (tt k0 nn))))))))))))))))))))) (fun k13=>(lr 34 59 [1,1,0,1,0,0,1,0,0,1,0,0] 1 9 [(2,(ii 8))] (sl z1p 158 [] ⟨[],[],[some [2]],[]⟩ ⟨[],[],[]⟩ (trs 45 (bl 15 16384)) (tt k13 (tt k12 (tt k11 (tt k10 (tt k9 (tt k8 (tt k7 (tt k6 (tt k5 (tt k4 (tt k3 (tt k2 (tt k1 (ww aH (tt k0 nn)))))))))))))))))))) (fun k12=>(lr 34 59 [1,1,0,1,0,0,1,0,0,1,0,0] 1 9 [(2,(ii 8))] (sl z1p 158 [] ⟨[],[],[some [2]],[]⟩ ⟨[],[],[]⟩ (trs 38 (bl 22 2097152)) (tt k12 (tt k11 (tt k10 (tt k9 (tt k8 (tt k7 (tt k6 (tt k5 (tt k4 (tt k3 (tt k2 (tt k1 (ww aH (tt k0 nn))))))))))))))))))) (fun k11=>(lr 34 59 [1,1,0,1,0,0,1,0,0,1,0,0] 1 9 [(2,(ii 8))] (sl z1p 158 [] ⟨[],[],[some [2]],[]⟩ ⟨[],[],[]⟩ (trs 35 (bl 25 16777216)) (tt k11 (tt k10 (tt k9 (tt k8 (tt k7 (tt k6 (tt k5 (tt k4 (tt k3 (tt k2 (tt k1 (ww aH (tt k0 nn)))))))))))))))))) (fun k10=>(lr 34 59 [1,1,0,1,0,0,1,0,0,1,0,0] 1 9 [(2,(ii 8))] (sl z1p 158 [] ⟨[],[],[some [2]],[]⟩ ⟨[],[],[]⟩ (trs 32 (bl 28 134217728)) (tt k10 (tt k9 (tt k8 (tt k7 (tt k6 (tt k5 (tt k4 (tt k3 (tt k2 (tt k1 (ww aH (tt k0 nn))))))))))))))))) (fun k9=>(lr 34 59 [1,1,0,1,0,0,1,0,0,1,0,0] 1 9 [(2,(ii 8))] (sl z1p 158 [] ⟨[],[],[some [2]],[]⟩ ⟨[],[],[]⟩ (trs 29 (bl 31 1073741824)) (tt k9 (tt k8 (tt k7 (tt k6 (tt k5 (tt k4 (tt k3 (tt k2 (tt k1 (ww aH (tt k0 nn)))))))))))))))) (fun k8=>(lr 34 59 [1,1,0,1,0,0,1,0,0,1,0,0] 1 9 [(2,(ii 8))] (sl z1p 158 [] ⟨[],[],[some [2]],[]⟩ ⟨[],[],[]⟩ (trs 25 (bl 35 17179869184)) (tt k8 (tt k7 (tt k6 (tt k5 (tt k4 (tt k3 (tt k2 (tt k1 (ww aH (tt k0 nn))))))))))))))) (fun k7=>(lr 34 59 [1,1,0,1,0,0,1,0,0,1,0,0] 1 9 [(2,(ii 8))] (sl z1p 158 [] ⟨[],[],[some [2]],[]⟩ ⟨[],[],[]⟩ (trs 21 (bl 39 274877906944)) (tt k7 (tt k6 (tt k5 (tt k4 (tt k3 (tt k2 (tt k1 (ww aH (tt k0 nn)))))))))))))) (fun k6=>(lr 34 59 [1,1,0,1,0,0,1,0,0,1,0,0] 1 9 [(2,(ii 8))] (sl z1p 117 [] ⟨[],[],[some [2]],[]⟩ ⟨[],[],[]⟩ (trs 18 (bl 25 16777216)) (tt k6 (tt k5 (tt k4 (tt k3 (tt k2 (tt k1 (ww aH (tt k0 nn))))))))))))) (fun k5=>(lr 34 59 [1,1,0,1,0,0,1,0,0,1,0,0] 1 9 [(2,(ii 8))] (sl z1p 117 [] ⟨[],[],[some [2]],[]⟩ ⟨[],[],[]⟩ (trs 15 (bl 28 134217728)) (tt k5 (tt k4 (tt k3 (tt k2 (tt k1 (ww aH (tt k0 nn)))))))))))) (fun k4=>(lr 34 59 [1,1,0,1,0,0,1,0,0,1,0,0] 1 9 [(2,(ii 8))] (sl z1p 117 [] ⟨[],[],[some [2]],[]⟩ ⟨[],[],[]⟩ (trs 12 (bl 31 1073741824)) (tt k4 (tt k3 (tt k2 (tt k1 (ww aH (tt k0 nn))))))))))) (fun k3=>(lr 34 59 [1,1,0,1,0,0,1,0,0,1,0,0] 1 9 [(2,(ii 8))] (sl z1p 117 [] ⟨[],[],[some [2]],[]⟩ ⟨[],[],[]⟩ (trs 9 (bl 34 8589934592)) (tt k3 (tt k2 (tt k1 (ww aH (tt k0 nn)))))))))) (fun k2=>(lr 34 59 [1,1,0,1,0,0,1,0,0,1,0,0] 1 9 [(2,(ii 8))] (sl z1p 117 [] ⟨[],[],[some [2]],[]⟩ ⟨[],[],[]⟩ (trs 5 (bl 38 137438953472)) (tt k2 (tt k1 (ww aH (tt k0 nn))))))))) (fun k1=>(lr 34 59 [1,1,0,1,0,0,1,0,0,1,0,0] 1 9 [(2,(ii 8))] (sl z1p 117 [] ⟨[],[],[some [2]],[]⟩ ⟨[],[],[]⟩ (bl 43 4398046511105) (tt k1 (ww aH (tt k0 nn))))))))) (fun k0=>(lo fun aH=>(lb (fun k1=>(lr 34 59 [1,1,1,1,0,1,0,0] 1 9 [(2,(ii 8))] (sl z1p 37 [] ⟨[],[],[some [2]],[]⟩ ⟨[],[],[]⟩ (bl 6 62) (tt k1 (pp (pp (xr l0) (pp (xI R6 0 (fun _=>[])) (xw aH))) (tt k0 nn)))))) (fun k1=>(lo fun bL=>(lb (fun k2=>(lr 34 59 [1,1,1,1,0,1,0,0] 1 9 [(2,(ii 8))] (sl z1p 37 [] ⟨[],[],[some [2]],[]⟩ ⟨[],[],[]⟩ (bl 6 32) (tt k2 (pp (pp (xI R6 (Qq 2 (cvT l0) ([]:List R6)).length (Zz (Qq 2 (cvT l0) ([]:List R6)))) (pp (xr l0) (xw bL))) (tt k1 (pp (pp (xr l0) (pp (xI R6 0 (fun _=>[])) (xw aH))) (tt k0 nn)))))))) (fun k2=>(lr 34 3 [1,1,1,1,0] 1 9 [(2,(ii 0))] (sl z1p 38 [] ⟨[],[],[some [2]],[]⟩ ⟨[],[],[]⟩ (bl 6 0) (tt k2 (pp (pp (xI R6 (Qq 2 (cvT l0) ([]:List R6)).length (Zz (Qq 2 (cvT l0) ([]:List R6)))) (pp (xr l0) (xw bL))) (tt k1 (pp (pp (xr l0) (pp (xI R6 0 (fun _=>[])) (xw aH))) (tt k0 nn)))))))))))))))
theorem x6i (l0:List R6):Xq prog (Zy prog 59) (j4q l0) (Zb prog 59 [(.dat l0.length (Zz l0))] true []) (z9k l0):=(lb (fun k0=>(lr 34 59 [1,0,1,0,0] 1 9 [(2,(ii 4))] (sl z1p 16 [] ⟨[],[],[some [2]],[]⟩ ⟨[],[],[]⟩ [true] (tt k0 nn)))) (fun k0=>(sl z1p 20 [] ⟨[],[],u9e,u9f⟩ ⟨[],[],[]⟩ [false] (tt k0 nn))))
theorem v5q (l0:List R6) (n:Nat) (vs:List AVal) (h:Yy (z1z l0) n (z9k l0)=.ret vs):Jx prog (Zy prog 59) (Zb prog 59 [(.dat l0.length (Zz l0))] true []) vs:=by have:=Zd (w1k l0) n _ (x6i l0);rwa [h] at this
def x8j (r:R6):Bool:=decide (r.a≥ -1000000)&&(decide (r.b≥ -1000000)&&(decide (r.c≥ -1000000)&&(decide (r.a≤1000000)&&(decide (r.b≤1000000)&&(decide (r.c≤1000000)&&(decide (r.d≥ -1000000)&&(decide (r.e≥ -1000000)&&(decide (r.f≥ -1000000)&&(decide (r.d≤1000000)&&(decide (r.e≤1000000)&&(decide (r.f≤1000000)&&(decide (r.a<r.d)&&(decide (r.b<r.e)&&decide (r.c<r.f))))))))))))))
def rckF (l:List R6):Int:=bif z2n 2 l [] then (bif Uo (Qq 2 l []) l then 0 else 8) else 8
def Wr (l:List R6):Int:=bif decide (400<l.length) then 4 else bif l.all x8j then rckF l else 8
def v5o (l:List R6):Bool:=true
theorem x1v (k:Int) (l m:List R6):(Qq k l m).length ≤400∨z2n k l m=false:=by
 unfold Qq z2n;cases jsO k l m with
 | none=>exact .inl (AD _)
 | some out=>
  by_cases h:(out.length:Int)≤400
  ·left;show out.length≤400;omega
  ·right;exact An h
section
variable (l:List R6) (hl:l.length≤400)
include hl
theorem v5p : ∀(k i:Nat),i+k=l.length→(∀s∈l.take i,x8j s=true)→ ∃n,Yy (z1z l) n (.to (.h0 (i:Int)))=.ret [.int .i64 (bif l.all x8j then rckF l else 8)]
 | 0,i,h,ht=>by
  have hv:l.all x8j=true:=At.2 fun s hs=>ht s (by rw [AP (by omega)];exact hs);have w1:z4a 2 l []=true:=jsV_ow (by omega) (by simp);refine ⟨1,?_⟩;rw [Zv,hv,Ab];unfold rckF;rcases Yx (z2n 2 l []) with q | q
  ·have w2:Ws (Qq 2 l []) l=true:=Ai (by
    rcases x1v 2 l [] with h | h
    ·omega
    ·rw [h] at q;cases q)
   rcases Yx (Uo (Qq 2 l []) l) with q2 | q2 <;>
   simp (disch:=omega) only [z1z,Zg,Zt,q,q2,w1,w2,AE,AG,Ab,Aa,Zp]
  ·simp (disch:=omega) only [z1z,Zg,Zt,q,w1,AE,AG,Ab,Aa,Zp]
 | k+1,i,h,ht=>by
  have hi:i<l.length:=by omega
  have hs:z1z l (.h0 (i:Int))=bif x8j (rd l i) then .to (.h0 ((i+1:Nat):Int)) else .ret [.int .i64 8]:=by simp (disch:=omega) only [z1z,x8j,y2i,y2h,w6y,Zf,Zk,Zx,Zj,Ah,Ab,Aa]
  rcases Yx (x8j (rd l i)) with q | q
  ·obtain ⟨n,hn⟩:=v5p k (i+1) (by omega) (fun s hs=>by
    rw [Bg] at hs;have e:l[i]? =some (rd l i):=by rw [Yi hi];exact Ao _
    rw [e] at hs;simp only [Cq,AF,AT] at hs;rcases hs with hs | rfl
    ·exact ht s hs
    ·exact q)
   refine ⟨n+1,?_⟩;rw [Zv,hs,q,Ab];exact hn
  ·have hv:l.all x8j=false:=A4.2 fun e=>by have:=At.1 e (rd l i) (by rw [Yi hi];exact AM hi);rw [this] at q;cases q
   refine ⟨1,?_⟩;rw [Zv,hv,Aa,hs,q,Aa,Zp]
end
theorem u2y (l:List R6): ∃n,Yy (z1z l) n (z9k l)=.ret [.int .i64 (Wr l)]:=by
 unfold z9k Wr;by_cases h:400<l.length
 ·refine ⟨0,?_⟩;rw [Ai h,Yt (show (l.length:Int)>400 by omega)];rfl
 ·obtain ⟨n,hn⟩:=v5p l (by omega) l.length 0 (Ag _) (fun s hs=>by simp at hs);refine ⟨n,?_⟩;rw [An h,Xc (show¬(l.length:Int)>400 by omega),Aa,Aa];exact hn
def fRck :List AVal→Option (AVal×Bool)
 | [a1]=>match asL R6 a1 with
  | some (L1,g1,n1)=>some (.int .i64 (Wr L1),isT R6 n1 g1&&v5o L1)
  | _=>none
 | _=>none
theorem j7a {S:Specs} (hS:Zu prog S):Zu prog (S.with v6l fRck):=by
 refine z0v hS (by kernel_rfl) fun args v h=> ?_;unfold fRck at h;split at h
 ·rename_i a1;split at h
  ·rename_i L1 g1 n1 e1;simp only [Ae,Ad,Ac] at h;obtain ⟨rfl,ho1,hw⟩:=h;obtain ⟨N,hN⟩:=u2y L1;exact ⟨_,_,(.cons (Yh e1 ho1) .nil),rfl,v5q L1 N _ hN,3,rfl⟩
  ·cases h
 ·cases h
def T9 :Specs:=T8.with v6l fRck
theorem z6s :Zu prog T9:=j7a z1p
def pt (L:List R2) (y:Int):Prop:= ∃s∈L,s.a≤y∧y<s.b
structure Can (L:List R2):Prop where
 pos: ∀s∈L,s.a<s.b
 sep:L.Pairwise fun s t=>s.b<t.a
theorem Can.nil :Can []:=⟨by simp,.nil⟩
theorem Can.tail {s:R2} {L:List R2} (h:Can (s::L)):Can L:=⟨fun t ht=>h.pos t (List.mem_cons_of_mem _ ht),(A1.1 h.sep).2⟩
theorem Can.head {s:R2} {L:List R2} (h:Can (s::L)): ∀t∈L,s.b<t.a:=(A1.1 h.sep).1
theorem j0q {s:R2} {L:List R2} (h:Can (s::L)) {y:Int} (hy:pt (s::L) y):s.a≤y:=by
 obtain ⟨t,ht,h1,h2⟩:=hy;rcases AI.1 ht with rfl | ht
 ·exact h1
 ·have:=h.head t ht;have:=h.pos s (by simp);omega
theorem w7d : ∀(L M:List R2),Can L→Can M→(∀y,pt L y↔pt M y)→L=M
 | [],[],_,_,_=>rfl
 | [],t::M,_,hM,h=>by have:=(h t.a).2 ⟨t,by simp,AV _,hM.pos t (by simp)⟩;obtain ⟨s,hs,_⟩:=this;cases hs
 | s::L,[],hL,_,h=>by have:=(h s.a).1 ⟨s,by simp,AV _,hL.pos s (by simp)⟩;obtain ⟨s,hs,_⟩:=this;cases hs
 | s::L,t::M,hL,hM,h=>by
  have p1:=hL.pos s (by simp);have p2:=hM.pos t (by simp);have a1:t.a≤s.a:=j0q hM ((h s.a).1 ⟨s,by simp,AV _,p1⟩);have a2:s.a≤t.a:=j0q hL ((h t.a).2 ⟨t,by simp,AV _,p2⟩);have b1: ¬s.b<t.b:=fun hb=>by
   obtain ⟨u,hu,h1,h2⟩:=(h s.b).2 ⟨t,by simp,by omega,hb⟩;rcases AI.1 hu with rfl | hu
   ·omega
   ·have:=hL.head u hu;omega
  have b2: ¬t.b<s.b:=fun hb=>by
   obtain ⟨u,hu,h1,h2⟩:=(h t.b).1 ⟨s,by simp,by omega,hb⟩;rcases AI.1 hu with rfl | hu
   ·omega
   ·have:=hM.head u hu;omega
  have e:s=t:=by
   obtain ⟨sa,sb⟩:=s;obtain ⟨ta,tb⟩:=t;simp only at a1 a2 b1 b2;have:sa=ta:=by omega
   have:sb=tb:=by omega
   subst_vars;rfl
  subst e
  congr 1
  refine w7d L M hL.tail hM.tail fun y=>⟨fun hy=> ?_,fun hy=> ?_⟩
  ·obtain ⟨u,hu,h1,h2⟩:=hy;have g:=hL.head u hu;obtain ⟨v,hv,h3,h4⟩:=(h y).1 ⟨u,by simp [hu],h1,h2⟩;rcases AI.1 hv with rfl | hv
   ·omega
   ·exact ⟨v,hv,h3,h4⟩
  ·obtain ⟨u,hu,h1,h2⟩:=hy;have g:=hM.head u hu;obtain ⟨v,hv,h3,h4⟩:=(h y).2 ⟨u,by simp [hu],h1,h2⟩;rcases AI.1 hv with rfl | hv
   ·omega
   ·exact ⟨v,hv,h3,h4⟩
def push (out:List R2) (x x':Int):List R2:=
 bif decide (0<out.length)&&((rd out (out.length - 1)).b == x) then out.set (out.length - 1) ⟨(rd out (out.length - 1)).a,x'⟩ else out++[⟨x,x'⟩]
theorem v5t (out:List R2) (s:R2) (x x':Int):push (out++[s]) x x'=bif s.b == x then out++[⟨s.a,x'⟩] else out++[s]++[⟨x,x'⟩]:=by
 have e:rd (out++[s]) ((out++[s]).length - 1)=s:=by rw [Jv (by simp)];simp [rd]
 unfold push;rw [e,Ai (by simp),Aj];cases (s.b == x)
 ·rfl
 ·simp
theorem w5r {out:List R2} {x x':Int} (hc:Can out) (hb: ∀s∈out,s.b≤x) (hx:x<x'):
  Can (push out x x')∧(∀s∈push out x x',s.b≤x')∧ ∀y,pt (push out x x') y↔pt out y∨(x≤y∧y<x'):=by
 rcases List.eq_nil_or_concat out with rfl | ⟨L,s,rfl⟩
 ·refine ⟨⟨?_,?_⟩,?_,fun y=> ?_⟩
  ·intro s hs;simp [push] at hs;subst hs;exact hx
  ·simp [push]
  ·intro s hs;simp [push] at hs;subst hs;exact AV _
  ·simp [push,pt]
 ·rw [List.concat_eq_append] at*;rw [v5t];have hs:=hb s (by simp);have hp:=hc.pos s (by simp);have sep:=BN.1 hc.sep;rcases Yx (s.b == x) with q | q
  ·rw [q,Ab];have q:s.b=x:=by simpa using q
   refine ⟨⟨?_,?_⟩,?_,fun y=> ?_⟩
   ·intro t ht;rcases AF.1 ht with ht | ht
    ·exact hc.pos t (by simp [ht])
    ·rw [AT.1 ht];show s.a<x';omega
   ·refine BN.2 ⟨sep.1,List.pairwise_singleton _ _,fun t ht u hu=> ?_⟩;rw [AT.1 hu];exact sep.2.2 t ht s (by simp)
   ·intro t ht;rcases AF.1 ht with ht | ht
    ·have:=hb t (by simp [ht]);omega
    ·rw [AT.1 ht];exact AV _
   ·constructor
    ·rintro ⟨t,ht,h1,h2⟩;rcases AF.1 ht with ht | ht
     ·exact .inl ⟨t,by simp [ht],h1,h2⟩
     ·rw [AT.1 ht] at h1 h2;by_cases hy:y<s.b
      ·exact .inl ⟨s,by simp,h1,hy⟩
      ·exact .inr ⟨by omega,h2⟩
    ·rintro (⟨t,ht,h1,h2⟩ | ⟨h1,h2⟩)
     ·rcases AF.1 ht with ht | ht
      ·exact ⟨t,by simp [ht],h1,h2⟩
      ·rw [AT.1 ht] at h1 h2;exact ⟨⟨s.a,x'⟩,by simp,h1,by show y<x';omega⟩
     ·exact ⟨⟨s.a,x'⟩,by simp,by show s.a≤y;omega,h2⟩
  ·rw [q,Aa];have q:s.b≠x:=by simpa using q
   refine ⟨⟨?_,?_⟩,?_,fun y=> ?_⟩
   ·intro t ht;rcases AF.1 ht with ht | ht
    ·exact hc.pos t ht
    ·rw [AT.1 ht];exact hx
   ·refine BN.2 ⟨hc.sep,List.pairwise_singleton _ _,fun t ht u hu=> ?_⟩;rw [AT.1 hu];show t.b<x;rcases AF.1 ht with h | h
    ·have h1:=sep.2.2 t h s (by simp);omega
    ·rw [AT.1 h];omega
   ·intro t ht;rcases AF.1 ht with ht | ht
    ·have:=hb t ht;omega
    ·rw [AT.1 ht];exact AV _
   ·constructor
    ·rintro ⟨t,ht,h1,h2⟩;rcases AF.1 ht with ht | ht
     ·exact .inl ⟨t,ht,h1,h2⟩
     ·rw [AT.1 ht] at h1 h2;exact .inr ⟨h1,h2⟩
    ·rintro (⟨t,ht,h1,h2⟩ | ⟨h1,h2⟩)
     ·exact ⟨t,AF.2 (.inl ht),h1,h2⟩
     ·exact ⟨⟨x,x'⟩,by simp,h1,h2⟩
theorem z9s {l:List Int} (h:l.Pairwise (· < ·)) {i j:Nat} (hij:i<j) (hj:j<l.length):rd l i<rd l j:=by rw [Yi (by omega),Yi hj];exact Bk.1 h i j (by omega) hj hij
theorem x4s (cuts:List Int) (ins:List Bool) (hc:cuts.Pairwise (· < ·)): ∀(k i:Nat) (out:List R2),i+k<cuts.length∨k=0→Can out→(∀s∈out,s.b≤rd cuts i)→
  Can (v2e cuts ins k i out)∧ ∀y,pt (v2e cuts ins k i out) y↔pt out y∨ ∃j,i≤j∧j<i+k∧rd ins j=true∧rd cuts j≤y∧y<rd cuts (j+1)
 | 0,i,out,h,ho,hb=>⟨ho,fun y=>⟨.inl,fun hy=>hy.elim id fun ⟨j,h1,h2,_⟩=>by omega⟩⟩
 | k +1,i,out,h,ho,hb=>by
  have hlt:rd cuts i<rd cuts (i+1):=z9s hc (B4 _) (by omega);obtain ⟨p1,p2,p3⟩:=w5r ho hb hlt;have e:v2e cuts ins (k+1) i out=v2e cuts ins k (i+1) (bif rd ins i then push out (rd cuts i) (rd cuts (i+1)) else out):=rfl;rw [e];rcases Yx (rd ins i) with q | q
  ·rw [q,Ab];obtain ⟨r1,r2⟩:=x4s cuts ins hc k (i+1) (push out (rd cuts i) (rd cuts (i+1))) (by omega) p1 p2;refine ⟨r1,fun y=> ?_⟩;rw [r2,p3];constructor
   ·rintro ((h | h) | ⟨j,h1,h2,h3⟩)
    ·exact .inl h
    ·exact .inr ⟨i,Ar _,by omega,q,h⟩
    ·exact .inr ⟨j,by omega,by omega,h3⟩
   ·rintro (h | ⟨j,h1,h2,h3⟩)
    ·exact .inl (.inl h)
    ·rcases Bb h1 with rfl | h1
     ·exact .inl (.inr h3.2)
     ·exact .inr ⟨j,h1,by omega,h3⟩
  ·rw [q,Aa];obtain ⟨r1,r2⟩:=x4s cuts ins hc k (i+1) out (by omega) ho (fun s hs=>by have:=hb s hs;omega);refine ⟨r1,fun y=> ?_⟩;rw [r2];constructor
   ·rintro (h | ⟨j,h1,h2,h3⟩)
    ·exact .inl h
    ·exact .inr ⟨j,by omega,by omega,h3⟩
   ·rintro (h | ⟨j,h1,h2,h3⟩)
    ·exact .inl h
    ·rcases Bb h1 with rfl | h1
     ·rw [q] at h3;cases h3.1
     ·exact .inr ⟨j,h1,by omega,h3⟩
theorem w3t {cuts:List Int}: ∀(k:Nat),k<cuts.length→ ∀y,rd cuts 0≤y→y<rd cuts k→ ∃j,j<k∧rd cuts j≤y∧y<rd cuts (j+1)
 | 0,_,y,h1,h2=>by omega
 | k+1,hk,y,h1,h2=>by
  by_cases h:rd cuts k≤y
  ·exact ⟨k,B4 _,h,h2⟩
  ·obtain ⟨j,h3,h4⟩:=w3t k (by omega) y h1 (by omega);exact ⟨j,by omega,h4⟩
theorem w7e (cuts:List Int) (hc:cuts.Pairwise (· < ·)) (P:Int→Bool) (S:List R2) (hS: ∀s∈S,s.a∈cuts∧s.b∈cuts) (hP: ∀y,P y=true↔pt S y):
  Can (y3g cuts (cuts.map P))∧ ∀y,pt (y3g cuts (cuts.map P)) y↔pt S y:=by
 obtain ⟨r1,r2⟩:=x4s cuts (cuts.map P) hc (cuts.length - 1) 0 [] (by omega) .nil (by simp);refine ⟨r1,fun y=> ?_⟩;unfold y3g;rw [r2];have hin: ∀x,x∈cuts→ ∃i,i<cuts.length∧rd cuts i=x:=fun x hx=>by obtain ⟨i,hi,h⟩:=AS hx;exact ⟨i,hi,by rw [Yi hi];exact h⟩
 have hmap: ∀j,j<cuts.length→rd (cuts.map P) j=P (rd cuts j):=fun j hj=>by rw [Yi (by simpa using hj),Yi hj,B5]
 have le_of: ∀i j,i<cuts.length→j<cuts.length→i≤j→rd cuts i≤rd cuts j:=fun i j hi hj hij=>by
  rcases Bb hij with rfl | h
  ·exact AV _
  ·exact Cu (z9s hc h hj)
 constructor
 ·rintro (⟨s,hs,_⟩ | ⟨j,h1,h2,h3,h4,h5⟩)
  ·cases hs
  ·have hj:j+1<cuts.length:=by omega
   rw [hmap j (by omega)] at h3;obtain ⟨s,hs,a1,a2⟩:=(hP _).1 h3;obtain ⟨ca,cb⟩:=hS s hs;obtain ⟨m,hm,em⟩:=hin s.b cb;refine ⟨s,hs,by omega,?_⟩;have:j<m:=by
    rcases Bm j m with h | h
    ·exact h
    ·have:=le_of m j hm (by omega) h;omega
   have:=le_of (j+1) m hj hm this;omega
 ·rintro ⟨s,hs,a1,a2⟩;right;obtain ⟨ca,cb⟩:=hS s hs;obtain ⟨n,hn,en⟩:=hin s.a ca;obtain ⟨m,hm,em⟩:=hin s.b cb;have h0:=le_of 0 n (by omega) hn (AD _);obtain ⟨j,h1,h2,h3⟩:=w3t m hm y (by omega) (by omega);refine ⟨j,AD _,by omega,?_,h2,h3⟩;rw [hmap j (by omega),hP];refine ⟨s,hs,?_,?_⟩
  ·have:n≤j:=by
    rcases Bm j n with h | h
    ·have:=le_of (j+1) n (by omega) hn h;omega
    ·exact h
   have:=le_of n j hn (by omega) this;omega
  ·omega
def net (E:List R3) (y:Int):Int:=(E.map fun e=>if e.a≤y then e.c else 0).sum
theorem z0m (e:R3) (E:List R3) (y:Int):net (e::E) y=(if e.a≤y then e.c else 0)+net E y:=by simp [net]
theorem u3k {E F:List R3} (h:E.Perm F) (y:Int):net E y=net F y:=by
 induction h with
 | nil=>rfl
 | cons e _ ih=>rw [z0m,z0m,ih]
 | swap a b l=>simp only [z0m];omega
 | trans _ _ i1 i2=>rw [i1,i2]
theorem w5t (E:List R3) (y:Int) (h: ∀e∈E,y<e.a):net E y=0:=by
 induction E with
 | nil=>rfl
 | cons e E ih=>rw [z0m,Ay (by have:=h e (by simp);omega),ih fun f hf=>h f (by simp [hf])];rfl
theorem v8q (out:List R2) (last:Int) (inn:Bool) (x:Int):Vi out last inn x=bif inn&& !(last == x) then push out last x else out:=by
 unfold Vi push;cases inn
 ·rfl
 ·cases (last == x) <;> rfl
theorem x2j {out:List R2} {last x:Int} (inn:Bool) (hc:Can out) (hb: ∀s∈out,s.b≤last) (hx:last≤x):
  Can (Vi out last inn x)∧(∀s∈Vi out last inn x,s.b≤x)∧ ∀y,pt (Vi out last inn x) y↔pt out y∨(inn=true∧last≤y∧y<x):=by
 rw [v8q];rcases Yx (inn&& !(last == x)) with q | q
 ·rw [q,Ab];simp only [Ac,BE,beq_eq_false_iff_ne,ne_eq] at q;obtain ⟨p1,p2,p3⟩:=w5r hc hb (show last<x by omega);refine ⟨p1,p2,fun y=> ?_⟩;rw [p3];simp [q.1]
 ·rw [q,Aa];refine ⟨hc,fun s hs=>by have:=hb s hs;omega,fun y=>⟨.inl,fun h=>h.elim id fun ⟨h1,h2,h3⟩=> ?_⟩⟩;rw [h1,Aj] at q;have:last=x:=by simpa using q
  omega
def Asc (E:List R3):Prop:=E.Pairwise fun e f=>e.a≤f.a
theorem v2t : ∀(E:List R3) (o last:Int) (out:List R2),Asc E→(∀e∈E,last≤e.a)→Can out→(∀s∈out,s.b≤last)→
  Can (swF E o last (decide (o>0)) out)∧ ∀y,pt (swF E o last (decide (o>0)) out) y↔pt out y∨(last≤y∧0<o+net E y∧ ∃e∈E,y<e.a)
 | [],o,last,out,_,_,hc,_=>⟨hc,fun y=>⟨.inl,fun h=>h.elim id fun ⟨_,_,e,he,_⟩=>by cases he⟩⟩
 | e ::r,o,last,out,hE,hl,hc,hb=>by
  have he:=hl e (by simp);have hr:=A1.1 hE;obtain ⟨p1,p2,p3⟩:=x2j (decide (o>0)) hc hb he;obtain ⟨q1,q2⟩:=v2t r (o+e.c) e.a (Vi out last (decide (o>0)) e.a) hr.2 hr.1 p1 p2;rw [y3x];refine ⟨q1,fun y=> ?_⟩;rw [q2,p3,z0m];constructor
  ·rintro ((h | ⟨h1,h2,h3⟩) | ⟨h1,h2,f,hf,h3⟩)
   ·exact .inl h
   ·right;have h1:=AA h1;refine ⟨h2,?_,e,by simp,h3⟩;rw [Ay (by omega),w5t r y fun f hf=>by have:=hr.1 f hf;omega];omega
   ·right;refine ⟨by omega,?_,f,by simp [hf],h3⟩;rw [AC h1];omega
  ·rintro (h | ⟨h1,h2,f,hf,h3⟩)
   ·exact .inl (.inl h)
   ·by_cases hy:e.a≤y
    ·right;rw [AC hy] at h2;refine ⟨hy,by omega,f,?_,h3⟩;rcases AI.1 hf with rfl | hf
     ·omega
     ·exact hf
    ·left;right;rw [Ay hy,w5t r y fun f hf=>by have:=hr.1 f hf;omega] at h2;exact ⟨Ai (by omega),h1,by omega⟩
theorem u3l (l:List R2) (hv: ∀s∈l,s.a<s.b) (y:Int):0≤net (Qx l) y∧(0<net (Qx l) y↔pt l y):=by
 induction l with
 | nil=>exact ⟨AV _,by simp [net,Qx,pt]⟩
 | cons s l ih=>
  obtain ⟨i1,i2⟩:=ih fun t ht=>hv t (by simp [ht]);have hs:=hv s (by simp);have e:net (Qx (s::l)) y=(if s.a≤y∧y<s.b then 1 else 0)+net (Qx l) y:=by
   show net (⟨s.a,0,1⟩::⟨s.b,0,-1⟩::Qx l) y=_;rw [z0m,z0m];show (if s.a≤y then (1:Int) else 0)+((if s.b≤y then (-1:Int) else 0)+net (Qx l) y)=_;by_cases h1:s.a≤y
   ·by_cases h2:s.b≤y
    ·rw [AC h1,AC h2,Ay (show¬(s.a≤y∧y<s.b) by omega)];omega
    ·rw [AC h1,Ay h2,AC (show s.a≤y∧y<s.b by omega)];omega
   ·rw [Ay h1,Ay (show¬s.b≤y by omega),Ay (show¬(s.a≤y∧y<s.b) by omega)];omega
  rw [e];by_cases h:s.a≤y∧y<s.b
  ·rw [AC h];exact ⟨by omega,⟨fun _=>⟨s,by simp,h⟩,fun _=>by omega⟩⟩
  ·rw [Ay h];refine ⟨by omega,?_⟩;rw [Int.zero_add,i2];constructor
   ·rintro ⟨t,ht,h2⟩;exact ⟨t,by simp [ht],h2⟩
   ·rintro ⟨t,ht,h2⟩;rcases AI.1 ht with rfl | ht
    ·exact absurd h2 h
    ·exact ⟨t,ht,h2⟩
theorem y8c {l:List R2} {s:R2} (h:s∈l):(⟨s.b,0,-1⟩:R3)∈Qx l∧(⟨s.a,0,1⟩:R3)∈Qx l:=
 ⟨AN.2 ⟨s,h,by simp⟩,AN.2 ⟨s,h,by simp⟩⟩
theorem w4t (l:List R3) (h:y3l l=true):Asc (z1x l):=by refine Bk.2 fun i j hi hj hij=> ?_;have:=(Qh l h).2 i j hij hj;rwa [Yi hi,Yi hj] at this
theorem y0x (l:List R2) (hv:l.all z1j=true):Can (swV l)∧ ∀y,pt (swV l) y↔pt l y:=by
 have hb:y3l (Qx l)=true:=At.2 fun e he=>by obtain ⟨s,hs,h1⟩:=AN.1 he;have hv:=At.1 hv s hs;simp only [z1j,Ac,As] at hv;simp only [AI,BC,Cm] at h1;rcases h1 with rfl | rfl <;> exact Ai (by simp only;omega)
 have hpos: ∀s∈l,s.a<s.b:=fun s hs=>by have:=At.1 hv s hs;simp only [z1j,Ac,As] at this;exact this.1
 obtain ⟨hp,_⟩:=Qh (Qx l) hb;have ha:=w4t (Qx l) hb;have hn: ∀y,net (z1x (Qx l)) y=net (Qx l) y:=fun y=>u3k hp y;unfold swV;generalize z1x (Qx l)=E at hp ha hn;cases E with
 | nil=>refine ⟨.nil,fun y=>⟨fun ⟨s,hs,_⟩=>(by cases hs),fun ⟨s,hs,_⟩=> ?_⟩⟩;have:=hp.mem_iff.2 (y8c hs).1;cases this
 | cons e r=>
  have hr:=A1.1 ha;rw [y3x,Int.zero_add];have e0:Vi [] 0 false e.a=[]:=rfl;rw [e0];obtain ⟨q1,q2⟩:=v2t r e.c e.a [] hr.2 hr.1 .nil (by simp);refine ⟨q1,fun y=> ?_⟩;rw [q2];obtain ⟨n1,n2⟩:=u3l l hpos y;rw [←n2,←hn,z0m];constructor
  ·rintro (⟨s,hs,_⟩ | ⟨h1,h2,_⟩)
   ·cases hs
   ·rw [AC h1];omega
  ·intro h;have hpt:=n2.1 (by rw [←hn,z0m];exact h);obtain ⟨s,hs,s1,s2⟩:=hpt;have m1:=hp.mem_iff.2 (y8c hs).1;have m2:=hp.mem_iff.2 (y8c hs).2;have hea:e.a≤y:=by
    rcases AI.1 m2 with h' | h'
    ·rw [←h'];exact s1
    ·have h'':e.a≤s.a:=hr.1 _ h';omega
   right;rw [AC hea] at h;refine ⟨hea,h,⟨s.b,0,-1⟩,?_,s2⟩;rcases AI.1 m1 with h' | h'
   ·have h'':e.a=s.b:=(by rw [←h']);omega
   ·exact h'
theorem x6n (out:List Int) (hs:out.Pairwise (· < ·)) (x:Int): ∀k,k≤out.length→w1q out x k≤k∧(∀i,w1q out x k≤i→i<k→x<rd out i)∧(0<w1q out x k→rd out (w1q out x k - 1)≤x)
 | 0,_=>⟨Ar _,fun i h1 h2=>by omega,fun h=>by simp [w1q] at h⟩
 | k+1,hk=>by
  unfold w1q;rcases Yx (decide (rd out k>x)) with q | q
  ·rw [q,Ab];obtain ⟨h1,h2,h3⟩:=x6n out hs x k (by omega);refine ⟨by omega,fun i a b=> ?_,h3⟩;rcases Bb (B0 b) with rfl | b
   ·exact AA q
   ·exact h2 i a b
  ·rw [q,Aa];exact ⟨Ar _,fun i a b=>by omega,fun _=>by have:=of_decide_eq_false q;simp only [Nat.add_sub_cancel];omega⟩
theorem v6y (out:List Int) (hs:out.Pairwise (· < ·)) (x:Int):(y7t out x).Pairwise (· < ·)∧ ∀y,y∈y7t out x↔y∈out∨y=x:=by
 obtain ⟨h1,h2,h3⟩:=x6n out hs x out.length (Ar _);unfold y7t;split
 ·rename_i h0;rw [h0] at h2;refine ⟨A1.2 ⟨fun y hy=> ?_,hs⟩,fun y=>by simp [or_comm]⟩;obtain ⟨i,hi,rfl⟩:=AS hy;have:=h2 i (AD _) hi;rwa [Yi hi] at this
 ·rename_i k hk;rw [hk] at h1 h2 h3;have h3:rd out k≤x:=h3 (Nat.succ_pos _);have hkl:k<out.length:=by omega
  rcases Yx (rd out k == x) with q | q
  ·rw [q,Ab];have q:rd out k=x:=by simpa using q
   refine ⟨hs,fun y=>⟨.inl,fun h=>h.elim id fun e=> ?_⟩⟩;rw [e,←q,Yi hkl];exact AM hkl
  ·rw [q,Aa];have q:rd out k≠x:=by simpa using q
   refine ⟨?_,fun y=> ?_⟩
   ·have st:(out.take (k+1)).Pairwise (· < ·):=hs.sublist (List.take_sublist _ _);have sd:(out.drop (k+1)).Pairwise (· < ·):=hs.sublist (List.drop_sublist _ _);have ht: ∀y∈out.take (k+1),y<x:=fun y hy=>by
     obtain ⟨i,hi,rfl⟩:=AS hy;have hi':i<k+1:=by simp at hi;omega
     rw [Bf];have:rd out i≤rd out k:=by
      rcases Bb (B0 hi') with rfl | h
      ·exact AV _
      ·exact Cu (z9s hs h hkl)
     rw [Yi (show i<out.length by omega)] at this;omega
    have hd: ∀y∈out.drop (k+1),x<y:=fun y hy=>by
     obtain ⟨i,hi,rfl⟩:=AS hy;have hi':k+1+i<out.length:=by simp at hi;omega
     rw [List.getElem_drop,←Yi hi'];exact h2 _ (by omega) hi'
    refine BN.2 ⟨st,A1.2 ⟨hd,sd⟩,fun a ha b hb=> ?_⟩;rcases AI.1 hb with rfl | hb
    ·exact ht a ha
    ·exact Int.lt_trans (ht a ha) (hd b hb)
   ·rw [AF,AI];constructor
    ·rintro (h | h | h)
     ·exact .inl (Cj h)
     ·exact .inr h
     ·exact .inl (List.mem_of_mem_drop h)
    ·rintro (h | h)
     ·rw [←List.take_append_drop (k+1) out,AF] at h;exact h.elim .inl fun h=>.inr (.inr h)
     ·exact .inr (.inl h)
theorem Xm (l:List Int):(z1w l).Pairwise (· < ·)∧ ∀y,y∈z1w l↔y∈l:=by
 have: ∀(l out:List Int),out.Pairwise (· < ·)→(l.foldl y7t out).Pairwise (· < ·)∧ ∀y,y∈l.foldl y7t out↔y∈out∨y∈l:=by
  intro l
  induction l with
  | nil=>intro out h;exact ⟨h,fun y=>by simp⟩
  | cons x l ih=>intro out h;obtain ⟨a,b⟩:=v6y out h x;obtain ⟨c,d⟩:=ih (y7t out x) a;refine ⟨c,fun y=> ?_⟩;show y∈l.foldl y7t (y7t out x)↔_;rw [d,b,AI,or_assoc]
 obtain ⟨a,b⟩:=this l [] .nil;exact ⟨a,fun y=>by rw [z1w,b];simp⟩
theorem y3d : ∀(l m:List Int),l.Pairwise (· < ·)→m.Pairwise (· < ·)→(∀x,x∈l↔x∈m)→l=m
 | [],[],_,_,_=>rfl
 | [],b::m,_,_,h=>by have:=(h b).2 (by simp);cases this
 | a::l,[],_,_,h=>by have:=(h a).1 (by simp);cases this
 | a::l,b::m,hl,hm,h=>by
  obtain ⟨a1,a2⟩:=A1.1 hl;obtain ⟨b1,b2⟩:=A1.1 hm;have e:a=b:=by
   have x1:=(h a).1 (by simp);have x2:=(h b).2 (by simp);rcases AI.1 x1 with x1 | x1
   ·exact x1
   rcases AI.1 x2 with x2 | x2
   ·exact x2.symm
   have:=b1 a x1;have:=a1 b x2;omega
  subst e
  congr 1
  refine y3d l m a2 b2 fun x=>⟨fun hx=> ?_,fun hx=> ?_⟩
  ·rcases AI.1 ((h x).1 (by simp [hx])) with e | e
   ·have:=a1 x hx;omega
   ·exact e
  ·rcases AI.1 ((h x).2 (by simp [hx])) with e | e
   ·have:=b1 x hx;omega
   ·exact e
theorem y3f (zs:List Int) (hs:zs.Pairwise (· ≤ ·)): ∀m,m≤zs.length→(compactUpTo zs.toArray m).Pairwise (· < ·)∧ ∀x,x∈compactUpTo zs.toArray m↔x∈zs.take m
 | 0,_=>by simp [compactUpTo]
 | m +1,h=>by
  obtain ⟨h1,h2⟩:=y3f zs hs m (by omega);have hg: ∀j (hj:j<zs.length),zs.toArray[j]! =zs[j]:=fun j hj=>by simp [hj]
  have hle: ∀i j (hi:i<zs.length) (hj:j<zs.length),i<j→zs[i]≤zs[j]:=fun i j hi hj hij=>Bk.1 hs i j hi hj hij;have hm:m<zs.length:=by omega
  rw [compactUpTo_succ,hg m hm,List.take_succ_eq_append_getElem hm];by_cases hk:keeps zs.toArray m=true
  ·rw [AC hk];refine ⟨BN.2 ⟨h1,List.pairwise_singleton _ _,fun x hx y hy=> ?_⟩,fun x=>by rw [AF,AF,h2 x]⟩;rw [AT.1 hy];obtain ⟨i,hi,rfl⟩:=AS ((h2 x).1 hx);have hi':i<m:=by simp at hi;omega
   rw [Bf];simp only [keeps,As] at hk;rcases hk with hk | hk
   ·omega
   ·rw [hg m hm,hg (m - 1) (by omega)] at hk;have k1:zs[i]≤zs[m - 1]:=by
     rcases Bm i (m - 1) with q | q
     ·exact hle i (m - 1) _ _ q
     ·have e:i=m - 1:=(by omega);subst e;exact AV _
    have k2:=hle (m - 1) m (by omega) hm (by omega);omega
  ·rw [Ay hk,Az];refine ⟨h1,fun x=> ?_⟩;rw [h2 x,AF,AT];refine ⟨.inl,fun hx=>hx.elim id fun e=> ?_⟩;simp only [keeps,As,not_or,Decidable.not_not] at hk;rw [hg m hm,hg (m - 1) (by omega)] at hk;rw [e,hk.2];have:m - 1<(zs.take m).length :=by simp;omega
   have e2:(zs.take m)[m - 1]=zs[m - 1]:=Bf;rw [←e2];exact AM this
theorem srt_le (zs:List Int):(Xf zs).Pairwise (· ≤ ·):=by have:=List.pairwise_mergeSort (le:=fun x y:Int=>decide (x≤y)) (fun a b c h1 h2=>by simp at*;omega) (fun a b=>by simp;omega) zs;exact this.imp fun h=>by simpa using h
theorem j1q (zs:List Int) (x:Int):x∈Xf zs↔x∈zs:=List.mem_mergeSort
theorem Kr (zs:List Int):Js zs=z1w zs:=by obtain ⟨h1,h2⟩:=y3f (Xf zs) (srt_le zs) (Xf zs).length (Ar _);obtain ⟨s1,s2⟩:=Xm zs;refine y3d _ _ h1 s1 fun x=> ?_;rw [show Js zs=compactUpTo (Xf zs).toArray (Xf zs).length from rfl,h2 x,List.take_length,j1q,s2]
namespace Dim
variable {α β:Type} (D:Dim α β)
def ref (sec:Int→List β) (cs:List Int):Nat→Nat→List α→List β→Nat→List α
 | 0,_,out,_,_=>out
 | k+1,i,out,last,first=>
  bif decide (0<i)&&D.same (sec (rd cs i)) last then ref sec cs k (i+1) (D.grow out first (rd cs (i+1))) last first
  else ref sec cs k (i+1) (out++(sec (rd cs i)).map (D.put (rd cs i) (rd cs (i+1)))) (sec (rd cs i)) out.length
theorem ref_eq (hs: ∀a b,D.same a b=true↔a=b) (l:List α): ∀(k i:Nat) (s:Sw α β) (out:List α) (last:List β) (first:Nat),
  s.out=out→s.last=last→(last≠ []→s.first=first)→(last=[]→out.length≤first)→(0<i→s.fin=rd (D.cuts l) i)→(i=0→last=[])→
  (D.go l k i s).out =D.ref (D.sec l) (D.cuts l) k i out last first
 | 0,i,s,out,last,first,h1,h2,h3,h4,h5,h6=>h1
 | k +1,i,s,out,last,first,h1,h2,h3,h4,h5,h6=>by
  subst h1 h2;have e1:D.go l (k+1) i s=D.go l k (i+1) (D.one l (rd (D.cuts l) i) (rd (D.cuts l) (i+1)) s):=rfl;rw [e1];unfold ref;rcases Yx (decide (0<(D.sec l (rd (D.cuts l) i)).length)&&((s.fin == rd (D.cuts l) i)&&D.same s.last (D.sec l (rd (D.cuts l) i)))) with q | q
  ·have e:D.one l (rd (D.cuts l) i) (rd (D.cuts l) (i+1)) s=⟨D.grow s.out s.first (rd (D.cuts l) (i+1)),s.last,s.first,rd (D.cuts l) (i+1)⟩:=by unfold one;rw [q];rfl
   simp only [Ac,As] at q;obtain ⟨q1,q2,q3⟩:=q;have q3:=(hs _ _).1 q3;have hne:s.last≠ []:=fun h=>by rw [h] at q3;rw [←q3] at q1;exact Co _ q1
   have hi:0<i:=Nat.pos_of_ne_zero fun h=>hne (h6 h);have e2:(decide (0<i)&&D.same (D.sec l (rd (D.cuts l) i)) s.last)=true:=by rw [Ai hi,Aj,hs,q3]
   rw [e2,Ab,e];refine ref_eq hs l k (i+1) _ _ _ _ ?_ rfl h3 (fun h=>absurd h hne) (fun _=>rfl) (fun h=>by omega);rw [h3 hne]
  ·have e:D.one l (rd (D.cuts l) i) (rd (D.cuts l) (i+1)) s=⟨s.out++(D.sec l (rd (D.cuts l) i)).map (D.put (rd (D.cuts l) i) (rd (D.cuts l) (i+1))),D.sec l (rd (D.cuts l) i),s.out.length,rd (D.cuts l) (i+1)⟩:=by unfold one;rw [q];rfl
   rcases Yx (decide (0<i)&&D.same (D.sec l (rd (D.cuts l) i)) s.last) with q2 | q2
   ·rw [q2,Ab,e];simp only [Ac,As] at q2;obtain ⟨hi,q3⟩:=q2;have q3:=(hs _ _).1 q3;rw [(hs s.last (D.sec l (rd (D.cuts l) i))).2 q3.symm,Ah,h5 hi] at q;have hz:D.sec l (rd (D.cuts l) i)=[]:=by
     cases h:D.sec l (rd (D.cuts l) i) with
     | nil=>rfl
     | cons a b=>rw [h] at q;simp at q
    have hl:s.last=[]:=(by rw [←q3,hz]);have hf:=h4 hl;rw [hz,Bd,Az];refine ref_eq hs l k (i+1) _ _ _ _ ?_ hl.symm (fun h=>absurd hl h) (fun _=> ?_) (fun _=>rfl) (fun h=>by omega)
    ·exact (D.grow_nil _ _ _ hf).symm
    ·rw [D.grow_length];exact hf
   ·rw [q2,Aa,e];exact ref_eq hs l k (i+1) _ _ _ _ rfl rfl (fun _=>rfl) (fun h=>by rw [h];simp) (fun _=>rfl) (fun h=>by omega)
theorem out_eq (hs: ∀a b,D.same a b=true↔a=b) (l:List α):D.out l=D.ref (D.sec l) (D.cuts l) ((D.cuts l).length - 1) 0 [] [] 0:=
 D.ref_eq hs l _ 0 _ [] [] 0 rfl rfl (fun _=>rfl) (fun _=>Ar _) (fun h=>absurd h (Co _)) (fun _=>rfl)
end Dim
theorem v9r (l:List R4):D4.cuts l=xsV l []:=by unfold Dim.cuts xsV;rw [Kr,show z3j ([]:List R4)=[] from rfl,Az];rfl
theorem v8m (l:List R4) (x y:Int):v8n 2 l [] x y=has4V l x y:=by unfold v8n y3c;show (has4V l x y||has4V [] x y)=_;rw [show has4V [] x y=false from rfl,Cg]
theorem z7x {l:List R4} {x:Int} {s:R2} (h:s∈D4.inn l x): ∃r∈l,r.a≤x∧x<r.c∧s=⟨r.b,r.d⟩:=by obtain ⟨r,hr,e⟩:=AQ.1 h;obtain ⟨h1,h2⟩:=A2.1 hr;simp only [Ac,As] at h2;exact ⟨r,h1,h2.1,h2.2,e.symm⟩
theorem v6n {l:List R4} {x:Int} {r:R4} (h:r∈l) (h1:r.a≤x) (h2:x<r.c):(⟨r.b,r.d⟩:R2)∈D4.inn l x:=by refine AQ.2 ⟨r,A2.2 ⟨h,?_⟩,rfl⟩;simp only [Ac,As];exact ⟨h1,h2⟩
theorem sec_eq (l:List R4) (hv:l.all Vo=true) (hl:l.length≤400) (x:Int):D4.sec l x=y9a 2 l [] x:=by
 have hin:=D4.inn_length l x;have hvi:(D4.inn l x).all z1j=true:=At.2 fun s hs=>by obtain ⟨r,hr,_,_,rfl⟩:=z7x hs;have:=At.1 hv r hr;simp only [Vo,z1j,Ac,As] at this ⊢;omega
 have e1:D4.sec l x=swV (D4.inn l x):=by show Xh (D4.inn l x)=_;unfold Xh;rw [An (by omega),hvi];rfl
 obtain ⟨c1,c2⟩:=y0x _ hvi;obtain ⟨y1,y2⟩:=Xm (z1o l++z1o []);have e2:y9a 2 l [] x=y3g (ysV l []) ((ysV l []).map fun y=>has4V l x y):=by
  unfold y9a
  congr 1
  exact BT fun y _=>v8m l x y
 obtain ⟨d1,d2⟩:=w7e (ysV l []) y1 (fun y=>has4V l x y) (D4.inn l x) (fun s hs=>by
  obtain ⟨r,hr,_,_,rfl⟩:=z7x hs;unfold ysV;exact ⟨(y2 _).2 (AF.2 (.inl (AN.2 ⟨r,hr,by simp⟩))),(y2 _).2 (AF.2 (.inl (AN.2 ⟨r,hr,by simp⟩)))⟩) (fun y=>by
  unfold has4V;rw [Cv];constructor
  ·rintro ⟨r,hr,h⟩;simp only [in4,Ac,As] at h;exact ⟨_,v6n hr h.1 h.2.1,h.2.2.1,h.2.2.2⟩
  ·rintro ⟨s,hs,h1,h2⟩;obtain ⟨r,hr,r1,r2,rfl⟩:=z7x hs;refine ⟨r,hr,?_⟩;simp only [in4,Ac,As];exact ⟨r1,r2,h1,h2⟩)
 rw [e1,e2];exact w7d _ _ c1 d1 fun y=>by rw [c2,d2]
theorem w6k (l:List R4): ∀(k i:Nat) (out:List R4) (last:List R2) (first:Nat),jF 2 l [] k i out last first=D4.ref (y9a 2 l []) (xsV l []) k i out last first
 | 0,_,_,_,_=>rfl
 | k+1,i,out,last,first=>by unfold jF Dim.ref;rw [w6k l k,w6k l k];rfl
theorem joV_eq (l:List R4) (hv:l.all Vo=true) (hl:l.length≤400):D4.out l=joV 2 l []:=by
 rw [D4.out_eq (fun a b=>Cd) l,joV,w6k,←v9r]
 congr 1
 funext x
 exact sec_eq l hv hl x
theorem w4o (l:List R6):D6.cuts l=Vu l []:=by unfold Dim.cuts Vu;rw [Kr,show z3i ([]:List R6)=[] from rfl,Az];rfl
theorem j0x (l:List R6) (z:Int):D6.inn l z=atV l z:=rfl
theorem y9t (r:R6):z3k r=x8j r:=by
 unfold z3k x8j;simp only [x4g,x4h];rw [Bool.eq_iff_iff];simp only [Ac,As];have m1: ∀x y z:Int,x≤min y z↔x≤y∧x≤z:=fun x y z=>by omega
 have m2: ∀x y z:Int,max y z≤x↔y≤x∧z≤x:=fun x y z=>by omega
 simp only [ge_iff_le,m1,m2];constructor <;> intro h <;> (repeat' apply And.intro) <;> omega
theorem v9a (l:List R6) (hv:l.all z3k=true) (z:Int):(atV l z).all Vo=true:=At.2 fun s hs=>by
 obtain ⟨r,hr,rfl⟩:=AQ.1 hs;have:=At.1 hv r (A2.1 hr).1;rw [y9t] at this;simp only [x8j,Ac,As] at this;show Vo ⟨r.a,r.b,r.d,r.e⟩=true;simp only [Vo,Ac,As]
 (repeat' apply And.intro) <;> omega
section
variable (l:List R6) (hv:l.all z3k=true) (hl:l.length≤400)
include hv hl
theorem j0u (z:Int):D4.out (atV l z)=joV 2 (atV l z) []:=joV_eq _ (v9a l hv z) (AK (z6n l z) hl)
theorem j0t (z:Int):badS l z=z5n 2 l [] z:=by
 have h1:=j0u l hv hl z;have h2:=z6n l z;have e:joV 2 (atV [] z) []=[]:=rfl;unfold badS z5n y1f;rw [e,show atV ([]:List R6) z=[] from rfl,j0x];unfold Ww;rw [An (by omega),v9a l hv z,h1,Aa,Ab];by_cases h:400<(joV 2 (atV l z) []).length
 ·rw [Ai (show ((joV 2 (atV l z) []).length :Int)>400 by omega),Ai h];rfl
 ·rw [An (show¬((joV 2 (atV l z) []).length :Int)>400 by omega),An h];rfl
theorem j2o (z:Int) (h:badS l z=false):D6.sec l z=y1f 2 l [] z:=by
 have h1:=j0u l hv hl z;have h2:=z6n l z;rw [j0t l hv hl] at h;show Ze (D6.inn l z)=joV 2 (atV l z) (atV [] z);rw [j0x];unfold Ze;have h3: ¬400<(joV 2 (atV l z) []).length :=fun hh=>by unfold z5n y1f at h;rw [show atV ([]:List R6) z=[] from rfl,Ai hh] at h;cases h
 rw [An (by omega),v9a l hv z,h1,Aa,Ab,An (by omega)];rfl
theorem w2n : ∀(k i:Nat) (out:List R6) (last:List R4) (first:Nat),jsF 2 l [] k i out last first=bif okF l k i then some (D6.ref (D6.sec l) (D6.cuts l) k i out last first) else none
 | 0,_,_,_,_=>rfl
 | k+1,i,out,last,first=>by
  unfold jsF okF Dim.ref;rw [←w4o,←j0t l hv hl];rcases Yx (badS l (rd (D6.cuts l) i)) with q | q
  ·rw [q];rfl
  ·have:=j2o l hv hl _ q;rw [q,Aa,Aa,this,w2n k,w2n k];have e:D6.same (y1f 2 l [] (rd (D6.cuts l) i)) last=Ur (y1f 2 l [] (rd (D6.cuts l) i)) last:=rfl;rw [e];cases (decide (0<i)&&Ur (y1f 2 l [] (rd (D6.cuts l) i)) last) <;> rfl
theorem jsO_eq :jsO 2 l []=bif okF l ((D6.cuts l).length - 1) 0 then some (D6.out l) else none:=by unfold jsO;rw [w2n l hv hl,←w4o,D6.out_eq (fun a b=>Cd) l]
end
theorem y0k (l:List R6):Yd l=Wr l:=by
 unfold Yd Wr;by_cases h:400<l.length
 ·rw [Ai h];rfl
 ·rw [An h,Aa,Aa,show l.all x8j=l.all z3k from by congr 1;funext r;exact (y9t r).symm];rcases Yx (l.all z3k) with hv | hv
  ·rw [hv,Ab,Ab];unfold rckF z2n Qq;rw [jsO_eq l hv (by omega)];rcases Yx (okF l ((D6.cuts l).length - 1) 0) with q | q
   ·rw [q,Ab,Ab];show _=bif decide (((D6.out l).length :Int)≤400) then (bif Uo (D6.out l) l then 0 else 8) else 8;by_cases h2:((D6.out l).length :Int)>400
    ·rw [Ai h2,An (by omega)];rfl
    ·rw [An h2,Ai (by omega)];rfl
   ·rw [q];rfl
  ·rw [hv];rfl
open Go.Proofs Go.Sort Go.Shelf Go.RowKit Go.Lib
namespace Dim
variable {α β:Type} (D:Dim α β)
structure Fair :Prop where
 lo_put: ∀x x' b,D.lo (D.put x x' b)=x
 hi_put: ∀x x' b,D.hi (D.put x x' b)=x'
 pr_put: ∀x x' b,D.pr (D.put x x' b)=b
 ext_put: ∀x x' x'' b,D.ext x'' (D.put x x' b)=D.put x x'' b
def Ap (R:β→β→Prop) (a b:α):Prop:=D.hi a≤D.lo b∨D.hi b≤D.lo a∨R (D.pr a) (D.pr b)
theorem v5j {D:Dim α β} (hD:D.Fair) (R:β→β→Prop) (sec:Int→List β) (cs:List Int) (hc:cs.Pairwise (· < ·)) (fC: ∀x,(sec x).Pairwise R):
  ∀(k i:Nat) (pre:List α) (last:List β) (x0:Int),(i+k<cs.length∨k=0)→pre.Pairwise (D.Ap R)→(∀a∈pre,D.hi a≤x0)→(last≠ []→x0≤rd cs i)→(last=[]→x0≤rd cs i)→last.Pairwise R→
  (D.ref sec cs k i (pre++last.map (D.put x0 (rd cs i))) last pre.length).Pairwise (D.Ap R):=by
 have fin: ∀(pre:List α) (last:List β) (x0 x':Int),pre.Pairwise (D.Ap R)→(∀a∈pre,D.hi a≤x0)→last.Pairwise R→(pre++last.map (D.put x0 x')).Pairwise (D.Ap R):=fun pre last x0 x' h1 h2 h3=>by
  refine BN.2 ⟨h1,?_,fun a ha b hb=> ?_⟩
  ·refine List.pairwise_map.2 (h3.imp fun {a b} h=>.inr (.inr ?_));rw [hD.pr_put,hD.pr_put];exact h
  ·obtain ⟨c,_,rfl⟩:=AQ.1 hb;exact .inl (by rw [hD.lo_put];exact h2 a ha)
 intro k
 induction k with
 | zero=>intro i pre last x0 _ h1 h2 _ _ h3;exact fin pre last x0 _ h1 h2 h3
 | succ k ih=>
  intro i pre last x0 hk h1 h2 h4 h5 h3;have hlt:rd cs i<rd cs (i+1):=z9s hc (B4 _) (by omega);unfold ref;cases hq:(decide (0<i)&&D.same (sec (rd cs i)) last) with
  | true=>
   rw [Ab];have e:D.grow (pre++last.map (D.put x0 (rd cs i))) pre.length (rd cs (i+1))=pre++last.map (D.put x0 (rd cs (i+1))):=by
    unfold grow;rw [List.take_left,List.drop_left,List.map_map]
    congr 1
    exact BT fun b _=>hD.ext_put _ _ _ _
   rw [e];exact ih (i+1) pre last x0 (by omega) h1 h2 (fun h=>by have:=h4 h;omega) (fun h=>by have:=h5 h;omega) h3
  | false=>
   rw [Aa];refine ih (i+1) (pre++last.map (D.put x0 (rd cs i))) (sec (rd cs i)) (rd cs i) (by omega) (fin pre last x0 _ h1 h2 h3) (fun a ha=> ?_) (fun _=>by omega) (fun _=>by omega) (fC _);rcases AF.1 ha with ha | ha
   ·have:=h2 a ha;by_cases e:last=[]
    ·have:=h5 e;omega
    ·have:=h4 e;omega
   ·obtain ⟨c,_,rfl⟩:=AQ.1 ha;rw [hD.hi_put];exact AV _
theorem out_apart {D:Dim α β} (hD:D.Fair) (R:β→β→Prop) (hs: ∀a b,D.same a b=true↔a=b) (l:List α) (fC: ∀x,(D.sec l x).Pairwise R):(D.out l).Pairwise (D.Ap R):=by
 rw [D.out_eq hs l];have hc:(D.cuts l).Pairwise (· < ·):=by show (Js (D.ends l)).Pairwise (· < ·);rw [Kr];exact (Xm _).1
 have:=v5j hD R (D.sec l) (D.cuts l) hc fC ((D.cuts l).length - 1) 0 [] [] (rd (D.cuts l) 0) (by omega) .nil (by simp) (fun _=>AV _) (fun _=>AV _) .nil;exact this
end Dim
theorem z2q :D4.Fair:=⟨fun _ _ _=>rfl,fun _ _ _=>rfl,fun _ _ _=>rfl,fun _ _ _ _=>rfl⟩
theorem z8g :D6.Fair:=⟨fun _ _ _=>rfl,fun _ _ _=>rfl,fun _ _ _=>rfl,fun _ _ _ _=>rfl⟩
def Ap2 (s t:R2):Prop:=s.b≤t.a∨t.b≤s.a
def Ap4 (s t:R4):Prop:=s.c≤t.a∨t.c≤s.a∨s.d≤t.b∨t.d≤s.b
def Ap6 (s t:R6):Prop:=s.d≤t.a∨t.d≤s.a∨s.e≤t.b∨t.e≤s.b∨s.f≤t.c∨t.f≤s.c
theorem v3e (l:List R2):(Xh l).Pairwise Ap2:=by
 unfold Xh;by_cases h:400<l.length
 ·rw [Ai h];exact .nil
 ·rw [An h,Aa];cases hv:l.all z1j with
  | false=>exact .nil
  | true=>rw [Ab];exact (y0x l hv).1.sep.imp fun {s t} h=>.inl (by omega)
theorem v5b (l:List R4):(Ze l).Pairwise Ap4:=by
 have key:(D4.out l).Pairwise Ap4:=(Dim.out_apart z2q Ap2 (fun a b=>Cd) l fun x=>v3e _).imp fun {s t} h=>by
  rcases h with h | h | h | h
  ·exact .inl h
  ·exact .inr (.inl h)
  ·exact .inr (.inr (.inl h))
  ·exact .inr (.inr (.inr h))
 unfold Ze;by_cases h:400<l.length
 ·rw [Ai h];exact .nil
 ·rw [An h,Aa];cases l.all Vo with
  | false=>exact .nil
  | true=>
   rw [Ab];cases decide (((D4.out l).length :Int)>400) with
   | true=>exact .nil
   | false=>exact key
theorem Ke {l:List R6} (h:Yd l=0):l.length≤400∧(∀r∈l,z3k r=true)∧l=D6.out l∧l.Pairwise Ap6:=by
 unfold Yd at h;by_cases h1:400<l.length
 ·rw [Ai h1] at h;cases h
 ·rw [An h1,Aa] at h;cases hv:l.all z3k with
  | false=>rw [hv] at h;cases h
  | true=>
   rw [hv,Ab] at h;cases ho:okF l ((D6.cuts l).length - 1) 0 with
   | false=>rw [ho] at h;cases h
   | true=>
    rw [ho,Ab] at h;cases h2:decide (((D6.out l).length :Int)>400) with
    | true=>rw [h2] at h;cases h
    | false=>
     rw [h2,Aa] at h;cases h3:Uo (D6.out l) l with
     | false=>rw [h3] at h;cases h
     | true=>
      have e:D6.out l=l:=AA h3;refine ⟨by omega,fun r hr=>At.1 hv r hr,e.symm,?_⟩;have:=(Dim.out_apart z8g Ap4 (fun a b=>Cd) l fun x=>v5b _).imp (S:=Ap6) fun {s t} h=>by
       rcases h with h | h | h | h | h | h
       ·exact .inr (.inr (.inr (.inr (.inl h))))
       ·exact .inr (.inr (.inr (.inr (.inr h))))
       ·exact .inl h
       ·exact .inr (.inl h)
       ·exact .inr (.inr (.inl h))
       ·exact .inr (.inr (.inr (.inl h)))
      rwa [e] at this
theorem z0w {r:R6} (h:z3k r=true):r.a<r.d∧r.b<r.e∧r.c<r.f∧ -1000000≤r.a∧ -1000000≤r.b∧ -1000000≤r.c∧r.d≤1000000∧r.e≤1000000∧r.f≤1000000:=by rw [y9t] at h;simp only [x8j,Ac,As] at h;omega
open Go.Proofs Go.Sort Go.Shelf Go.RowKit Go.Lib
structure Qc (β:Type) where
 a:Int
 b:Int
 s:List β
def ptL {β γ:Type} (inB:β→γ→Prop) (s:List β) (q:γ):Prop:= ∃r∈s,inB r q
theorem y6x {β γ:Type} (inB:β→γ→Prop) (q:γ): ¬ptL inB [] q:=fun ⟨_,h,_⟩=>by cases h
structure Sem (β γ:Type) where
 can:List β→Prop
 inB:β→γ→Prop
 uniq: ∀s t,can s→can t→(∀q,ptL inB s q↔ptL inB t q)→s=t
 some: ∀s,can s→s≠ []→ ∃q,ptL inB s q
 nil:can []
section
variable {β γ:Type} (M:Sem β γ)
def OkS (g:Qc β):Prop:=g.a<g.b∧M.can g.s∧g.s≠ []
def Nxt (g h:Qc β):Prop:=g.b≤h.a∧(g.b=h.a→g.s≠h.s)
inductive z1r :List (Qc β)→Prop
 | nil:z1r []
 | one (g:Qc β) (h:OkS M g):z1r [g]
 | cons (g h:Qc β) (r:List (Qc β)) (ok:OkS M g) (nx:Nxt g h) (k:z1r (h::r)):z1r (g::h::r)
def ptG (G:List (Qc β)) (x:Int) (q:γ):Prop:= ∃g∈G,g.a≤x∧x<g.b∧ptL M.inB g.s q
variable {M}
theorem z1r.head {g:Qc β} {r:List (Qc β)} (h:z1r M (g::r)):OkS M g:=by cases h <;> assumption
theorem z1r.tail {g:Qc β} {r:List (Qc β)} (h:z1r M (g::r)):z1r M r:=by
 cases h with
 | one=>exact .nil
 | cons _ _ _ _ _ k=>exact k
theorem z1r.later {g:Qc β} {r:List (Qc β)} (h:z1r M (g::r)): ∀k∈r,g.b≤k.a:=by
 induction r generalizing g with
 | nil=>intro k hk;cases hk
 | cons k r ih=>
  cases h with
  | cons _ _ _ ok nx kk=>
   intro m hm;rcases AI.1 hm with rfl | hm
   ·exact nx.1
   ·have h1:=ih kk m hm;have h2:=kk.head.1;have h3:=nx.1;omega
theorem z1r.all {G:List (Qc β)} (h:z1r M G): ∀g∈G,OkS M g:=by
 induction G with
 | nil=>intro g hg;cases hg
 | cons k r ih=>
  intro g hg;rcases AI.1 hg with rfl | hg
  ·exact h.head
  ·exact ih h.tail g hg
theorem z1r.before {G:List (Qc β)} {g:Qc β} (k:z1r M (G++[g])): ∀m∈G,m.b≤g.a:=by
 induction G with
 | nil=>intro m hm;cases hm
 | cons m r ih=>
  intro n hn;rcases AI.1 hn with rfl | hn
  ·exact k.later g (by simp)
  ·exact ih k.tail n hn
theorem z1r.snoc {G:List (Qc β)} {g h:Qc β} (k:z1r M (G++[g])) (ok:OkS M h) (nx:Nxt g h):z1r M (G++[g]++[h]):=by
 induction G with
 | nil=>exact .cons g h [] k.head nx (.one h ok)
 | cons m r ih=>
  have i:=ih k.tail;cases r with
  | nil=>
   cases k with
   | cons _ _ _ ok1 nx1 k1=>exact .cons m g [h] ok1 nx1 i
  | cons m2 r=>
   cases k with
   | cons _ _ _ ok1 nx1 k1=>exact .cons m m2 _ ok1 nx1 i
theorem z1r.stretch {G:List (Qc β)} {g:Qc β} {x:Int} (k:z1r M (G++[g])) (hx:g.b≤x):z1r M (G++[⟨g.a,x,g.s⟩]):=by
 induction G with
 | nil=>have:=k.head;exact .one _ ⟨by have:=this.1;show g.a<x;omega,this.2⟩
 | cons m r ih=>
  have i:=ih k.tail;cases r with
  | nil=>
   cases k with
   | cons _ _ _ ok1 nx1 k1=>exact .cons m _ [] ok1 nx1 i
  | cons m2 r=>
   cases k with
   | cons _ _ _ ok1 nx1 k1=>exact .cons m m2 _ ok1 nx1 i
theorem z9m (g:Qc β) (G:List (Qc β)) (x:Int) (q:γ):ptG M (g::G) x q↔(g.a≤x∧x<g.b∧ptL M.inB g.s q)∨ptG M G x q:=by
 constructor
 ·rintro ⟨k,hk,h⟩;rcases AI.1 hk with rfl | hk
  ·exact .inl h
  ·exact .inr ⟨k,hk,h⟩
 ·rintro (h | ⟨k,hk,h⟩)
  ·exact ⟨g,by simp,h⟩
  ·exact ⟨k,by simp [hk],h⟩
theorem x1h (G H:List (Qc β)) (x:Int) (q:γ):ptG M (G++H) x q↔ptG M G x q∨ptG M H x q:=by
 constructor
 ·rintro ⟨k,hk,h⟩;rcases AF.1 hk with hk | hk
  ·exact .inl ⟨k,hk,h⟩
  ·exact .inr ⟨k,hk,h⟩
 ·rintro (⟨k,hk,h⟩ | ⟨k,hk,h⟩)
  ·exact ⟨k,AF.2 (.inl hk),h⟩
  ·exact ⟨k,AF.2 (.inr hk),h⟩
theorem z1r.low {g:Qc β} {r:List (Qc β)} (h:z1r M (g::r)) {x:Int} {q:γ} (hp:ptG M (g::r) x q):g.a≤x:=by
 rcases (z9m g r x q).1 hp with hp | ⟨k,hk,h1,_⟩
 ·exact hp.1
 ·have:=h.later k hk;have:=h.head.1;omega
theorem z1r.rest {g:Qc β} {r:List (Qc β)} (h:z1r M (g::r)) (x:Int) (q:γ):ptG M r x q↔g.b≤x∧ptG M (g::r) x q:=by
 constructor
 ·rintro ⟨k,hk,h1,h2⟩;have:=h.later k hk;exact ⟨by omega,k,by simp [hk],h1,h2⟩
 ·rintro ⟨hx,hp⟩;rcases (z9m g r x q).1 hp with hp | hp
  ·omega
  ·exact hp
theorem z1r.sec0 {g:Qc β} {r:List (Qc β)} (h:z1r M (g::r)) {x:Int} (hx:g.a≤x∧x<g.b) (q:γ):ptG M (g::r) x q↔ptL M.inB g.s q:=by
 rw [z9m];constructor
 ·rintro (h1 | ⟨k,hk,h1,_⟩)
  ·exact h1.2.2
  ·have:=h.later k hk;omega
 ·exact fun h1=>.inl ⟨hx.1,hx.2,h1⟩
theorem x7r : ∀(G H:List (Qc β)),z1r M G→z1r M H→(∀x q,ptG M G x q↔ptG M H x q)→G=H
 | [],[],_,_,_=>rfl
 | [],h::H,_,hH,e=>by obtain ⟨q,hq⟩:=M.some _ hH.head.2.1 hH.head.2.2;have:=(e h.a q).2 ((hH.sec0 ⟨AV _,hH.head.1⟩ q).2 hq);obtain ⟨k,hk,_⟩:=this;cases hk
 | g::G,[],hG,_,e=>by obtain ⟨q,hq⟩:=M.some _ hG.head.2.1 hG.head.2.2;have:=(e g.a q).1 ((hG.sec0 ⟨AV _,hG.head.1⟩ q).2 hq);obtain ⟨k,hk,_⟩:=this;cases hk
 | g::G,h::H,hG,hH,e=>by
  have og:=hG.head;have oh:=hH.head;obtain ⟨q,hq⟩:=M.some _ og.2.1 og.2.2;obtain ⟨p,hp⟩:=M.some _ oh.2.1 oh.2.2;have a1:h.a≤g.a:=hH.low ((e g.a q).1 ((hG.sec0 ⟨AV _,og.1⟩ q).2 hq));have a2:g.a≤h.a:=hG.low ((e h.a p).2 ((hH.sec0 ⟨AV _,oh.1⟩ p).2 hp));have a3:g.a=h.a:=by omega
  have s1:g.s=h.s:=M.uniq _ _ og.2.1 oh.2.1 fun q=>by rw [←hG.sec0 (x:=g.a) ⟨AV _,og.1⟩,e,hH.sec0 (x:=g.a) ⟨by omega,by have:=oh.1;omega⟩]
  have key: ∀(g h:Qc β) (G H:List (Qc β)),z1r M (g::G)→z1r M (h::H)→(∀x q,ptG M (g::G) x q↔ptG M (h::H) x q)→g.a=h.a→g.s=h.s→ ¬g.b<h.b:=fun g h G H hG hH e ea es hlt=>by
   have og:=hG.head;have oh:=hH.head;have at_: ∀q,ptG M (g::G) g.b q↔ptL M.inB h.s q:=fun q=>by rw [e,hH.sec0 ⟨by have:=og.1;omega,hlt⟩]
   obtain ⟨q,hq⟩:=M.some _ oh.2.1 oh.2.2;have:=(hG.rest g.b q).2 ⟨AV _,(at_ q).2 hq⟩;cases hG with
   | one=>obtain ⟨k,hk,_⟩:=this;cases hk
   | cons _ k r ok nx kk=>
    have hk:k.a≤g.b:=kk.low this;have hk2:g.b=k.a:=by have:=nx.1;omega
    refine nx.2 hk2 ?_;rw [es];refine M.uniq _ _ oh.2.1 kk.head.2.1 fun p=> ?_;rw [←at_,←kk.sec0 (x:=g.b) ⟨by omega,by have:=kk.head.1;omega⟩];constructor
    ·exact fun hp=>((z1r.cons g k r ok nx kk).rest g.b p).2 ⟨AV _,hp⟩
    ·exact fun hp=>(((z1r.cons g k r ok nx kk).rest g.b p).1 hp).2
  have b1:=key g h G H hG hH e a3 s1;have b2:=key h g H G hH hG (fun x q=>(e x q).symm) a3.symm s1.symm;have b3:g.b=h.b:=by omega
  have eg:g=h:=by
   obtain ⟨ga,gb,gs⟩:=g;obtain ⟨ha,hb,hs⟩:=h;simp only at a3 b3 s1
   subst_vars;rfl
  subst eg
  congr 1
  exact x7r G H hG.tail hH.tail fun x q=>by rw [hG.rest,hH.rest,e]
end
namespace Dim
variable {α β:Type} (D:Dim α β)
def flat (G:List (Qc β)):List α:=G.flatMap fun g=>g.s.map (D.put g.a g.b)
theorem flat_append (G H:List (Qc β)):D.flat (G++H)=D.flat G++D.flat H:=by simp [flat]
theorem flat_one (g:Qc β):D.flat [g]=g.s.map (D.put g.a g.b):=by simp [flat]
def inA {γ:Type} (inB:β→γ→Prop) (r:α) (p:Int×γ):Prop:=D.lo r≤p.1∧p.1<D.hi r∧inB (D.pr r) p.2
variable {D}
theorem flat_pt (hD:D.Fair) {γ:Type} (M:Sem β γ) (G:List (Qc β)) (x:Int) (q:γ):ptL (D.inA M.inB) (D.flat G) (x,q)↔ptG M G x q:=by
 constructor
 ·rintro ⟨r,hr,h⟩;obtain ⟨g,hg,hr⟩:=AN.1 hr;obtain ⟨b,hb,rfl⟩:=AQ.1 hr;unfold inA at h;rw [hD.lo_put,hD.hi_put,hD.pr_put] at h;exact ⟨g,hg,h.1,h.2.1,b,hb,h.2.2⟩
 ·rintro ⟨g,hg,h1,h2,b,hb,h3⟩;refine ⟨D.put g.a g.b b,AN.2 ⟨g,hg,AQ.2 ⟨b,hb,rfl⟩⟩,?_⟩;unfold inA;rw [hD.lo_put,hD.hi_put,hD.pr_put];exact ⟨h1,h2,h3⟩
def can {γ:Type} (M:Sem β γ) (l:List α):Prop:= ∃G,z1r M G∧l=D.flat G
def sem (hD:D.Fair) {γ:Type} (M:Sem β γ):Sem α (Int×γ) where
 can:=D.can M
 inB:=D.inA M.inB
 uniq:=fun s t ⟨G,hG,e1⟩ ⟨H,hH,e2⟩ h=>by subst e1 e2;rw [x7r G H hG hH fun x q=>by rw [←flat_pt hD,←flat_pt hD];exact h (x,q)]
 some:=fun s ⟨G,hG,e1⟩ hs=>by
  subst e1;cases G with
  | nil=>exact absurd rfl hs
  | cons g G=>obtain ⟨q,hq⟩:=M.some _ hG.head.2.1 hG.head.2.2;exact ⟨(g.a,q),(flat_pt hD M _ _ _).2 ((hG.sec0 ⟨AV _,hG.head.1⟩ q).2 hq)⟩
 nil:=⟨[],.nil,rfl⟩
variable (D)
def oneS (sec:List β) (x x':Int) (s:Sw α β):Sw α β:=
 bif decide (0<sec.length)&&((s.fin == x)&&D.same s.last sec) then ⟨D.grow s.out s.first x',s.last,s.first,x'⟩
 else ⟨s.out++sec.map (D.put x x'),sec,s.out.length,x'⟩
def goS (sec:Int→List β) (cs:List Int):Nat→Nat→Sw α β→Sw α β
 | 0,_,s=>s
 | k+1,i,s=>goS sec cs k (i+1) (D.oneS (sec (rd cs i)) (rd cs i) (rd cs (i+1)) s)
theorem j0h (l:List α): ∀(k i:Nat) (s:Sw α β),D.go l k i s=D.goS (D.sec l) (D.cuts l) k i s
 | 0,_,_=>rfl
 | k+1,i,s=>j0h l k (i+1) _
variable {D}
structure Inv {γ:Type} (M:Sem β γ) (sec:Int→List β) (cs:List Int) (i:Nat) (s:Sw α β) (G:List (Qc β)):Prop where
 can:z1r M G
 out:s.out=D.flat G
 gap:s.last=[]→ ∀g∈G,g.b<rd cs i
 end_ : s.last ≠ [] → ∃ Gp g, G = Gp ++ [g] ∧ g.s = s.last ∧ g.b = rd cs i ∧ s.fin = rd cs i ∧ s.first = (D.flat Gp).length
 pts: ∀x q,ptG M G x q↔ ∃j,j<i∧rd cs j≤x∧x<rd cs (j+1)∧ptL M.inB (sec (rd cs j)) q
theorem u4f (hD:D.Fair) (hs: ∀a b,D.same a b=true↔a=b) {γ:Type} (M:Sem β γ) {sec:Int→List β} {cs:List Int} (hc:cs.Pairwise (· < ·)) (fC: ∀x,M.can (sec x)) {i:Nat} (hi:i+1<cs.length) {s:Sw α β} {G:List (Qc β)} (h:Inv (D:=D) M sec cs i s G):
  ∃G',Inv (D:=D) M sec cs (i+1) (D.oneS (sec (rd cs i)) (rd cs i) (rd cs (i+1)) s) G':=by
 have hlt:rd cs i<rd cs (i+1):=z9s hc (B4 _) hi;unfold oneS;rcases Yx (decide (0<(sec (rd cs i)).length)&&((s.fin == rd cs i)&&D.same s.last (sec (rd cs i)))) with q | q
 ·rw [q,Ab];simp only [Ac,As] at q;obtain ⟨q1,q2,q3⟩:=q;have q3:=(hs _ _).1 q3;have hne:s.last≠ []:=fun e=>by rw [e] at q3;rw [←q3] at q1;exact Co _ q1
  obtain ⟨Gp,g,e1,e2,e3,e4,e5⟩:=h.end_ hne;subst e1;refine ⟨Gp++[⟨g.a,rd cs (i+1),g.s⟩],h.can.stretch (by omega),?_,fun e=>absurd e hne,fun _=>⟨Gp,_,rfl,e2,rfl,rfl,e5⟩,fun x p=> ?_⟩
  ·show D.grow s.out s.first (rd cs (i+1))=_
   rw [h.out,e5];unfold grow;rw [D.flat_append,D.flat_append,D.flat_one,D.flat_one,List.take_left,List.drop_left,List.map_map]
   congr 1
   exact BT fun b _=>hD.ext_put _ _ _ _
  ·have hp:=h.pts x p;rw [x1h,z9m] at hp ⊢;have z: ¬ptG M ([]:List (Qc β)) x p:=fun ⟨_,hk,_⟩=>by cases hk
   constructor
   ·rintro (h1 | h1 | h1)
    ·obtain ⟨j,j1,j2⟩:=hp.1 (.inl h1);exact ⟨j,by omega,j2⟩
    ·simp only at h1;by_cases hx:x<g.b
     ·obtain ⟨j,j1,j2⟩:=hp.1 (.inr (.inl ⟨h1.1,hx,h1.2.2⟩));exact ⟨j,by omega,j2⟩
     ·exact ⟨i,B4 _,by omega,h1.2.1,by rw [←q3,←e2];exact h1.2.2⟩
    ·exact absurd h1 z
   ·rintro ⟨j,j1,j2,j3,j4⟩;rcases Bb (B0 j1) with rfl | j1
    ·refine .inr (.inl ⟨?_,j3,?_⟩)
     ·have:=(h.can.all g (by simp)).1;show g.a≤x;omega
     ·show ptL M.inB g.s p;rw [e2,q3];exact j4
    ·rcases hp.2 ⟨j,j1,j2,j3,j4⟩ with h1 | h1 | h1
     ·exact .inl h1
     ·exact .inr (.inl ⟨h1.1,by show x<rd cs (i+1);omega,h1.2.2⟩)
     ·exact absurd h1 z
 ·rw [q,Aa];by_cases he:sec (rd cs i)=[]
  ·rw [he];refine ⟨G,h.can,?_,fun _ g hg=> ?_,fun e=>absurd rfl e,fun x p=> ?_⟩
   ·show s.out++[].map _=_;rw [Bd,Az,h.out]
   ·by_cases hl:s.last=[]
    ·have:=h.gap hl g hg;omega
    ·obtain ⟨Gp,g',e1,e2,e3,_⟩:=h.end_ hl;subst e1;rcases AF.1 hg with hg | hg
     ·have:=h.can.before g hg;have:=(h.can.all g' (by simp)).1;omega
     ·rw [AT.1 hg];omega
   ·rw [h.pts];constructor
    ·rintro ⟨j,j1,j2⟩;exact ⟨j,by omega,j2⟩
    ·rintro ⟨j,j1,j2,j3,j4⟩;rcases Bb (B0 j1) with rfl | j1
     ·rw [he] at j4;exact absurd j4 (y6x _ _)
     ·exact ⟨j,j1,j2,j3,j4⟩
  ·have ok:OkS M (⟨rd cs i,rd cs (i+1),sec (rd cs i)⟩:Qc β):=⟨hlt,fC _,he⟩
   have hcan:z1r M (G++[⟨rd cs i,rd cs (i+1),sec (rd cs i)⟩]):=by
    rcases List.eq_nil_or_concat G with rfl | ⟨Gp,g,rfl⟩
    ·exact .one _ ok
    ·rw [List.concat_eq_append] at*;refine h.can.snoc ok ?_;by_cases hl:s.last=[]
     ·have:=h.gap hl g (by simp);exact ⟨by show g.b≤rd cs i;omega,fun e=>by simp only at e;omega⟩
     ·obtain ⟨Gp',g',e1,e2,e3,e4,_⟩:=h.end_ hl;obtain ⟨rfl,e⟩:=List.append_inj' e1 rfl;obtain rfl:g=g':=by simpa using e
      refine ⟨by show g.b≤rd cs i;omega,fun _ e=> ?_⟩;rw [Ai (show 0<(sec (rd cs i)).length from List.length_pos_iff.2 he),e4,(hs _ _).2 (e2.symm.trans e)] at q;simp at q
   refine ⟨_,hcan,?_,fun e=>absurd e he,fun _=>⟨G,_,rfl,rfl,rfl,rfl,by show s.out.length=_;rw [h.out]⟩,fun x p=> ?_⟩
   ·show s.out++_=_;rw [D.flat_append,D.flat_one,h.out]
   ·rw [x1h,z9m,h.pts];have z: ¬ptG M ([]:List (Qc β)) x p:=fun ⟨_,hk,_⟩=>by cases hk
    constructor
    ·rintro (⟨j,j1,j2⟩ | h1 | h1)
     ·exact ⟨j,by omega,j2⟩
     ·exact ⟨i,B4 _,h1⟩
     ·exact absurd h1 z
    ·rintro ⟨j,j1,j2,j3,j4⟩;rcases Bb (B0 j1) with rfl | j1
     ·exact .inr (.inl ⟨j2,j3,j4⟩)
     ·exact .inl ⟨j,j1,j2,j3,j4⟩
theorem j0g (hD:D.Fair) (hs: ∀a b,D.same a b=true↔a=b) {γ:Type} (M:Sem β γ) {sec:Int→List β} {cs:List Int} (hc:cs.Pairwise (· < ·)) (fC: ∀x,M.can (sec x)): ∀(k i:Nat) (s:Sw α β) (G:List (Qc β)),i+k<cs.length∨k=0→Inv (D:=D) M sec cs i s G→
  ∃G',Inv (D:=D) M sec cs (i+k) (D.goS sec cs k i s) G'
 | 0,i,s,G,_,h=>⟨G,h⟩
 | k+1,i,s,G,hk,h=>by obtain ⟨G1,h1⟩:=u4f hD hs M hc fC (show i+1<cs.length by omega) h;obtain ⟨G2,h2⟩:=j0g hD hs M hc fC k (i+1) _ G1 (by omega) h1;exact ⟨G2,by rw [show i+(k+1)=i+1+k by omega];exact h2⟩
theorem j5t (hD:D.Fair) (hs: ∀a b,D.same a b=true↔a=b) {γ:Type} (M:Sem β γ) {sec:Int→List β} {cs:List Int} (hc:cs.Pairwise (· < ·)) (fC: ∀x,M.can (sec x)):
  (D.sem hD M).can (D.goS sec cs (cs.length - 1) 0 ⟨[],[],0,0⟩).out ∧ ∀x q,ptL (D.sem hD M).inB (D.goS sec cs (cs.length - 1) 0 ⟨[],[],0,0⟩).out (x,q)↔ ∃j,j+1<cs.length∧rd cs j≤x∧x<rd cs (j+1)∧ptL M.inB (sec (rd cs j)) q:=by
 obtain ⟨G,h⟩:=j0g hD hs M hc fC (cs.length - 1) 0 ⟨[],[],0,0⟩ [] (by omega) ⟨.nil,rfl,fun _ g hg=>by (cases hg),fun e=>absurd rfl e,fun x q=>⟨fun ⟨_,hg,_⟩=>(by cases hg),fun ⟨j,hj,_⟩=>absurd hj (AO _)⟩⟩;refine ⟨⟨G,h.can,h.out⟩,fun x q=> ?_⟩;rw [h.out];rw [show ptL (D.sem hD M).inB (D.flat G) (x,q)↔ptG M G x q from flat_pt hD M G x q,h.pts];constructor
 ·rintro ⟨j,h1,h2⟩;exact ⟨j,by omega,h2⟩
 ·rintro ⟨j,h1,h2⟩;exact ⟨j,by omega,h2⟩
end Dim
open Go.Proofs Go.Sort Go.Shelf Go.RowKit Go.Lib
def z4r :Sem R2 Int where
 can:=Can
 inB s y:=s.a≤y∧y<s.b
 uniq:=w7d
 some s hs hn:=by
  cases s with
  | nil=>exact absurd rfl hn
  | cons r l=>exact ⟨r.a,r,by simp,AV _,hs.pos r (by simp)⟩
 nil:=.nil
def Wh :Sem R4 (Int×Int):=Dim.sem z2q z4r
def x5r :Sem R6 (Int×Int×Int):=Dim.sem z8g Wh
namespace Dim
variable {α β:Type} {D:Dim α β}
theorem y5p (l m:List α) (hl: ∀r∈m,r∈l) {j:Nat} (hj:j+1<(D.cuts l).length) {x:Int} (h1:rd (D.cuts l) j≤x) (h2:x<rd (D.cuts l) (j+1)):D.inn m (rd (D.cuts l) j)=D.inn m x:=by
 have hc:(D.cuts l).Pairwise (· < ·):=by show (Js (D.ends l)).Pairwise (· < ·);rw [Kr];exact (Xm _).1
 have gA: ∀r∈m,D.lo r∈D.cuts l∧D.hi r∈D.cuts l:=fun r hr=>by show D.lo r∈Js (D.ends l)∧D.hi r∈Js (D.ends l);rw [Kr,(Xm _).2,(Xm _).2];exact ⟨AN.2 ⟨r,hl r hr,by simp⟩,AN.2 ⟨r,hl r hr,by simp⟩⟩
 have side: ∀c,c∈D.cuts l→(c≤rd (D.cuts l) j↔c≤x):=fun c hcm=>by
  obtain ⟨i,hi,rfl⟩:=AS hcm;rw [←Yi hi];rcases Bm j i with h | h
  ·have:rd (D.cuts l) (j+1)≤rd (D.cuts l) i:=by
    rcases Bb (show j+1≤i from h) with e | e
    ·rw [e];exact AV _
    ·exact Cu (z9s hc e hi)
   have:=z9s hc (B4 j) hj;constructor <;> intro <;> omega
  ·have:rd (D.cuts l) i≤rd (D.cuts l) j:=by
    rcases Bb h with e | e
    ·rw [e];exact AV _
    ·exact Cu (z9s hc e (by omega))
   constructor <;> intro <;> omega
 unfold inn
 congr 1
 refine List.filter_congr fun r hr=> ?_;obtain ⟨m1,m2⟩:=gA r hr;have s1:=side _ m1;have s2:=side _ m2;have e1:decide (D.lo r≤rd (D.cuts l) j)=decide (D.lo r≤x):=BX.2 s1;have e2:decide (rd (D.cuts l) j<D.hi r)=decide (x<D.hi r):=BX.2 (by constructor <;> intro <;> omega);rw [e1,e2]
theorem v6z (l m:List α) (hl: ∀r∈m,r∈l) {x:Int} (h: ∀j,j+1<(D.cuts l).length → ¬(rd (D.cuts l) j≤x∧x<rd (D.cuts l) (j+1))):D.inn m x=[]:=by
 unfold inn;rw [List.map_eq_nil_iff,List.filter_eq_nil_iff];intro r hr hb;simp only [Ac,As] at hb;have gA:D.lo r∈D.cuts l∧D.hi r∈D.cuts l:=by show D.lo r∈Js (D.ends l)∧D.hi r∈Js (D.ends l);rw [Kr,(Xm _).2,(Xm _).2];exact ⟨AN.2 ⟨r,hl r hr,by simp⟩,AN.2 ⟨r,hl r hr,by simp⟩⟩
 have hc:(D.cuts l).Pairwise (· < ·):=by show (Js (D.ends l)).Pairwise (· < ·);rw [Kr];exact (Xm _).1
 obtain ⟨i,hi,e1⟩:=AS gA.1;obtain ⟨k,hk,e2⟩:=AS gA.2;rw [←Yi hi] at e1;rw [←Yi hk] at e2;have h0:rd (D.cuts l) 0≤rd (D.cuts l) i:=by
  rcases Bb (AD i) with e | e
  ·rw [←e];exact AV _
  ·exact Cu (z9s hc e hi)
 obtain ⟨j,j1,j2,j3⟩:=w3t k hk x (by omega) (by omega);exact h j (by omega) ⟨j2,j3⟩
theorem goJ_can (hD:D.Fair) (hs: ∀a b,D.same a b=true↔a=b) {γ:Type} (M:Sem β γ) (a b:List α) (J:List β→List β→List β) (hJ: ∀x,M.can (J (D.inn a x) (D.inn b x))) (h0:J [] []=[]):
  (D.sem hD M).can (D.goS (fun x=>J (D.inn a x) (D.inn b x)) (D.cuts (a++b)) ((D.cuts (a++b)).length - 1) 0 ⟨[],[],0,0⟩).out ∧
  ∀x q,ptL (D.sem hD M).inB (D.goS (fun x=>J (D.inn a x) (D.inn b x)) (D.cuts (a++b)) ((D.cuts (a++b)).length - 1) 0 ⟨[],[],0,0⟩).out (x,q)↔ptL M.inB (J (D.inn a x) (D.inn b x)) q:=by
 have hc:(D.cuts (a++b)).Pairwise (· < ·):=by show (Js (D.ends (a++b))).Pairwise (· < ·);rw [Kr];exact (Xm _).1
 obtain ⟨h1,h2⟩:=j5t hD hs M (cs:=D.cuts (a++b)) hc hJ;refine ⟨h1,fun x q=> ?_⟩;rw [h2];constructor
 ·rintro ⟨j,j1,j2,j3,j4⟩;rwa [y5p (a++b) a (fun r hr=>AF.2 (.inl hr)) j1 j2 j3,y5p (a++b) b (fun r hr=>AF.2 (.inr hr)) j1 j2 j3] at j4
 ·intro hp;by_cases hx: ∃j,j+1<(D.cuts (a++b)).length ∧rd (D.cuts (a++b)) j≤x∧x<rd (D.cuts (a++b)) (j+1)
  ·obtain ⟨j,j1,j2,j3⟩:=hx;refine ⟨j,j1,j2,j3,?_⟩;rwa [y5p (a++b) a (fun r hr=>AF.2 (.inl hr)) j1 j2 j3,y5p (a++b) b (fun r hr=>AF.2 (.inr hr)) j1 j2 j3]
  ·have hx': ∀j,j+1<(D.cuts (a++b)).length → ¬(rd (D.cuts (a++b)) j≤x∧x<rd (D.cuts (a++b)) (j+1)):=fun j j1 j2=>hx ⟨j,j1,j2⟩;rw [v6z (a++b) a (fun r hr=>AF.2 (.inl hr)) hx',v6z (a++b) b (fun r hr=>AF.2 (.inr hr)) hx',h0] at hp;exact absurd hp (y6x _ _)
theorem pt_inn {γ:Type} (inB:β→γ→Prop) (l:List α) (x:Int) (q:γ):ptL inB (D.inn l x) q↔ptL (D.inA inB) l (x,q):=by
 constructor
 ·rintro ⟨b,hb,h⟩;obtain ⟨r,hr,rfl⟩:=AQ.1 hb;obtain ⟨h1,h2⟩:=A2.1 hr;simp only [Ac,As] at h2;exact ⟨r,h1,h2.1,h2.2,h⟩
 ·rintro ⟨r,hr,h1,h2,h3⟩;refine ⟨D.pr r,AQ.2 ⟨r,A2.2 ⟨hr,?_⟩,rfl⟩,h3⟩;simp only [Ac,As];exact ⟨h1,h2⟩
theorem out_goJ (l:List α):D.out l=(D.goS (fun x=>D.mak (D.inn l x)) (D.cuts (l++[])) ((D.cuts (l++[])).length - 1) 0 ⟨[],[],0,0⟩).out :=by rw [Az];unfold out;rw [j0h];rfl
end Dim
theorem z8r (a b:List R4):D6.same a b=true↔a=b:=Cd
theorem z8s (a b:List R2):D4.same a b=true↔a=b:=Cd
theorem Jb {l:List R4} (h: ∀r∈l,Vo r=true) (x:Int):(D4.inn l x).all z1j=true:=At.2 fun s hs=>by obtain ⟨r,hr,_,_,rfl⟩:=z7x hs;have:=h r hr;simp only [Vo,z1j,Ac,As] at this ⊢;omega
theorem v3d {l:List R2} (hv:l.all z1j=true) (hl:l.length≤400):z4r.can (Xh l)∧ ∀y,ptL z4r.inB (Xh l) y↔ptL z4r.inB l y:=by
 obtain ⟨c1,c2⟩:=y0x l hv;have e:Xh l=swV l:=by unfold Xh;rw [An (by omega),hv];rfl
 rw [e];exact ⟨c1,c2⟩
theorem y1q {β γ:Type} (M:Sem β γ) {l:List β} (h:M.can l) (hp: ∀q,¬ptL M.inB l q):l=[]:=A9 fun hn=>by obtain ⟨q,hq⟩:=M.some l h hn;exact hp q hq
theorem j1v :Xh []=[]:=by obtain ⟨h1,h2⟩:=v3d (l:=[]) rfl (AD _);exact y1q z4r h1 fun q hq=>y6x _ _ ((h2 q).1 hq)
theorem Dim.out_nil {α β:Type} (D:Dim α β):D.out []=[]:=by
 have h:(D.cuts []).length ≤2*0:=D.cuts_length [];have e:(D.cuts []).length - 1=0:=by omega
 unfold Dim.out;rw [e];rfl
theorem j4j :Ze []=[]:=by unfold Ze;rw [Dim.out_nil];cases decide (400<([]:List R4).length) <;> cases ([]:List R4).all Vo <;> rfl
theorem z3q {l:List R4} (hv: ∀r∈l,Vo r=true) (hl:l.length≤400):Wh.can (D4.out l)∧ ∀p,ptL Wh.inB (D4.out l) p↔ptL Wh.inB l p:=by rw [Dim.out_goJ];have hs: ∀x,z4r.can (D4.mak (D4.inn l x))∧ ∀y,ptL z4r.inB (D4.mak (D4.inn l x)) y↔ptL z4r.inB (D4.inn l x) y:=fun x=>v3d (Jb hv x) (AK (D4.inn_length l x) hl);obtain ⟨h1,h2⟩:=Dim.goJ_can z2q z8s z4r l [] (fun s _=>D4.mak s) (fun x=>(hs x).1) j1v;refine ⟨h1,fun ⟨x,y⟩=> ?_⟩;rw [show ptL Wh.inB _ (x,y)↔_ from h2 x y,(hs x).2,Dim.pt_inn];rfl
theorem z8e {l:List R6} (hv: ∀r∈l,z3k r=true) (z:Int): ∀r∈D6.inn l z,Vo r=true:=fun r hr=>by
 obtain ⟨s,hs,rfl⟩:=AQ.1 hr;have:=z0w (hv s (A2.1 hs).1);show Vo ⟨s.a,s.b,s.d,s.e⟩=true;simp only [Vo,Ac,As]
 (repeat' apply And.intro) <;> omega
def Secs (l:List R6):Prop:= ∀z,(D4.out (D6.inn l z)).length ≤400
theorem z1y {l:List R4} (hv: ∀r∈l,Vo r=true) (hl:l.length≤400) (h:(D4.out l).length ≤400):Ze l=D4.out l∧Ww l=0:=by have hv':l.all Vo=true:=At.2 hv;unfold Ze Ww;rw [An (by omega),hv',An (by omega)];exact ⟨rfl,rfl⟩
theorem j1y {l:List R6} (hv: ∀r∈l,z3k r=true) (hl:l.length≤400) (hs:Secs l):x5r.can (D6.out l)∧ ∀p,ptL x5r.inB (D6.out l) p↔ptL x5r.inB l p:=by
 rw [Dim.out_goJ];have hq: ∀z,Wh.can (D6.mak (D6.inn l z))∧ ∀p,ptL Wh.inB (D6.mak (D6.inn l z)) p↔ptL Wh.inB (D6.inn l z) p:=fun z=>by show Wh.can (Ze (D6.inn l z))∧ ∀p,ptL Wh.inB (Ze (D6.inn l z)) p↔_;rw [(z1y (z8e hv z) (AK (D6.inn_length l z) hl) (hs z)).1];exact z3q (z8e hv z) (AK (D6.inn_length l z) hl)
 obtain ⟨h1,h2⟩:=Dim.goJ_can z8g z8r Wh l [] (fun s _=>D6.mak s) (fun x=>(hq x).1) j4j;refine ⟨h1,fun ⟨z,p⟩=> ?_⟩;rw [show ptL x5r.inB _ (z,p)↔_ from h2 z p,(hq z).2,Dim.pt_inn];rfl
open Go.Proofs Go.Sort Go.Shelf Go.RowKit Go.Lib
def opB (k:Nat) (a b:Bool):Bool:=match k with
 | 0=>a||b
 | 1=>a&&b
 | _=>a&& !b
theorem opB_ff (k:Nat):opB k false false=false:=by
 match k with
 | 0=>rfl
 | 1=>rfl
 | _+2=>rfl
def Wm (i:Int) (l:List R2):List R3:=l.flatMap fun s=>[⟨s.a,i,1⟩,⟨s.b,i,-1⟩]
def z6f (i:Int) (E:List R3) (y:Int):Int:=(E.map fun e=>if e.b=i∧e.a≤y then e.c else 0).sum
theorem Uv (i:Int) (e:R3) (E:List R3) (y:Int):z6f i (e::E) y=(if e.b=i∧e.a≤y then e.c else 0)+z6f i E y:=by simp [z6f]
theorem y7d (i:Int) (E F:List R3) (y:Int):z6f i (E++F) y=z6f i E y+z6f i F y:=by simp [z6f]
theorem x6q (i:Int) {E F:List R3} (h:E.Perm F) (y:Int):z6f i E y=z6f i F y:=by
 induction h with
 | nil=>rfl
 | cons e _ ih=>rw [Uv,Uv,ih]
 | swap a b l=>simp only [Uv];omega
 | trans _ _ i1 i2=>rw [i1,i2]
theorem v6c (i:Int) (E:List R3) (y:Int) (h: ∀e∈E,y<e.a):z6f i E y=0:=by
 induction E with
 | nil=>rfl
 | cons e E ih=>rw [Uv,Ay (by have:=h e (by simp);omega),ih fun f hf=>h f (by simp [hf])];rfl
theorem x6r (i:Int) (l:List R2) (hv: ∀s∈l,s.a<s.b) (y:Int):0≤z6f i (Wm i l) y∧(0<z6f i (Wm i l) y↔pt l y):=by
 induction l with
 | nil=>exact ⟨AV _,by simp [z6f,Wm,pt]⟩
 | cons s l ih=>
  obtain ⟨i1,i2⟩:=ih fun t ht=>hv t (by simp [ht]);have hs:=hv s (by simp);have e:z6f i (Wm i (s::l)) y=(if s.a≤y∧y<s.b then 1 else 0)+z6f i (Wm i l) y:=by
   show z6f i (⟨s.a,i,1⟩::⟨s.b,i,-1⟩::Wm i l) y=_;rw [Uv,Uv];show (if i=i∧s.a≤y then (1:Int) else 0)+((if i=i∧s.b≤y then (-1:Int) else 0)+z6f i (Wm i l) y)=_;by_cases h1:s.a≤y
   ·by_cases h2:s.b≤y
    ·rw [AC ⟨rfl,h1⟩,AC ⟨rfl,h2⟩,Ay (show¬(s.a≤y∧y<s.b) by omega)];omega
    ·rw [AC ⟨rfl,h1⟩,Ay (fun h=>h2 h.2),AC (show s.a≤y∧y<s.b by omega)];omega
   ·rw [Ay (fun h=>h1 h.2),Ay (fun h=>by have:=h.2;omega),Ay (show¬(s.a≤y∧y<s.b) by omega)];omega
  rw [e];by_cases h:s.a≤y∧y<s.b
  ·rw [AC h];exact ⟨by omega,⟨fun _=>⟨s,by simp,h⟩,fun _=>by omega⟩⟩
  ·rw [Ay h];refine ⟨by omega,?_⟩;rw [Int.zero_add,i2];constructor
   ·rintro ⟨t,ht,h2⟩;exact ⟨t,by simp [ht],h2⟩
   ·rintro ⟨t,ht,h2⟩;rcases AI.1 ht with rfl | ht
    ·exact absurd h2 h
    ·exact ⟨t,ht,h2⟩
theorem x1m (i j:Int) (hij:i≠j) (l:List R2) (y:Int):z6f i (Wm j l) y=0:=by
 induction l with
 | nil=>rfl
 | cons s l ih=>show z6f i (⟨s.a,j,1⟩::⟨s.b,j,-1⟩::Wm j l) y=0;rw [Uv,Uv,Ay (fun h=>hij h.1.symm),Ay (fun h=>hij h.1.symm),ih];rfl
def sw2 (f:Bool→Bool→Bool):List R3→Int→Int→Int→Bool→List R2→List R2
 | [],_,_,_,_,out=>out
 | e::r,o,p,last,inn,out=>
  sw2 f r (bif e.b == 0 then o+e.c else o) (bif e.b == 0 then p else p+e.c) e.a (f (decide ((bif e.b == 0 then o+e.c else o)>0)) (decide ((bif e.b == 0 then p else p+e.c)>0))) (Vi out last inn e.a)
def Two (E:List R3):Prop:= ∀e∈E,e.b=0∨e.b=1
theorem v2u (f:Bool→Bool→Bool): ∀(E:List R3) (o p last:Int) (out:List R2),Asc E→Two E→(∀e∈E,last≤e.a)→Can out→(∀s∈out,s.b≤last)→
  Can (sw2 f E o p last (f (decide (o>0)) (decide (p>0))) out)∧ ∀y,pt (sw2 f E o p last (f (decide (o>0)) (decide (p>0))) out) y↔pt out y∨(last≤y∧f (decide (o+z6f 0 E y>0)) (decide (p+z6f 1 E y>0))=true∧ ∃e∈E,y<e.a)
 | [],o,p,last,out,_,_,_,hc,_=>⟨hc,fun y=>⟨.inl,fun h=>h.elim id fun ⟨_,_,e,he,_⟩=>by cases he⟩⟩
 | e ::r,o,p,last,out,hE,ht,hl,hc,hb=>by
  have he:=hl e (by simp);have hr:=A1.1 hE;obtain ⟨p1,p2,p3⟩:=x2j (f (decide (o>0)) (decide (p>0))) hc hb he;have hz: ∀y,y<e.a→ ∀i,z6f i (e::r) y=0:=fun y hy i=>v6c i _ _ fun g hg=>by
   rcases AI.1 hg with rfl | hg
   ·exact hy
   ·have:=hr.1 g hg;omega
  have main: ∀(o' p':Int),(∀y,e.a≤y→o'+z6f 0 r y=o+z6f 0 (e::r) y∧p'+z6f 1 r y=p+z6f 1 (e::r) y)→
    Can (sw2 f r o' p' e.a (f (decide (o'>0)) (decide (p'>0))) (Vi out last (f (decide (o>0)) (decide (p>0))) e.a))∧
    ∀y,pt (sw2 f r o' p' e.a (f (decide (o'>0)) (decide (p'>0))) (Vi out last (f (decide (o>0)) (decide (p>0))) e.a)) y↔pt out y∨(last≤y∧f (decide (o+z6f 0 (e::r) y>0)) (decide (p+z6f 1 (e::r) y>0))=true∧ ∃g∈e::r,y<g.a):=fun o' p' hop=>by
   obtain ⟨q1,q2⟩:=v2u f r o' p' e.a (Vi out last (f (decide (o>0)) (decide (p>0))) e.a) hr.2 (fun g hg=>ht g (by simp [hg])) hr.1 p1 p2;refine ⟨q1,fun y=> ?_⟩;rw [q2,p3];constructor
   ·rintro ((h | ⟨h1,h2,h3⟩) | ⟨h1,h2,g,hg,h3⟩)
    ·exact .inl h
    ·refine .inr ⟨h2,?_,e,by simp,h3⟩;rw [hz y h3,hz y h3,Int.add_zero,Int.add_zero];exact h1
    ·refine .inr ⟨by omega,?_,g,by simp [hg],h3⟩;obtain ⟨e1,e2⟩:=hop y h1;rw [←e1,←e2];exact h2
   ·rintro (h | ⟨h1,h2,g,hg,h3⟩)
    ·exact .inl (.inl h)
    ·by_cases hy:e.a≤y
     ·right;obtain ⟨e1,e2⟩:=hop y hy;refine ⟨hy,by rw [e1,e2];exact h2,g,?_,h3⟩;rcases AI.1 hg with rfl | hg
      ·omega
      ·exact hg
     ·left;right;rw [hz y (by omega),hz y (by omega),Int.add_zero,Int.add_zero] at h2;exact ⟨h2,h1,by omega⟩
  show Can (sw2 f r _ _ _ _ _)∧ ∀y,pt (sw2 f r _ _ _ _ _) y↔_;rcases ht e (by simp) with h0 | h0
  ·have hb0:(e.b == 0)=true:=by rw [h0];rfl
   rw [hb0,Ab,Ab];refine main _ _ fun y hy=>⟨?_,?_⟩
   ·rw [Uv,AC ⟨h0,hy⟩];omega
   ·rw [Uv,Ay (fun h=>by have:=h.1;omega)];omega
  ·have hb0:(e.b == 0)=false:=by rw [h0];rfl
   rw [hb0,Aa,Aa];refine main _ _ fun y hy=>⟨?_,?_⟩
   ·rw [Uv,Ay (fun h=>by have:=h.1;omega)];omega
   ·rw [Uv,AC ⟨h0,hy⟩];omega
instance ptDec (l:List R2) (y:Int):Decidable (pt l y):=Classical.propDecidable _
theorem j1l (f:Bool→Bool→Bool) (hf:f false false=false) (a b:List R2) (ha: ∀s∈a,s.a<s.b) (hb: ∀s∈b,s.a<s.b) (E:List R3) (hp:E.Perm (Wm 0 a++Wm 1 b)) (hE:Asc E):
  Can (sw2 f E 0 0 0 false [])∧ ∀y,pt (sw2 f E 0 0 0 false []) y↔f (decide (pt a y)) (decide (pt b y))=true:=by
 have hn: ∀y,z6f 0 E y=z6f 0 (Wm 0 a) y∧z6f 1 E y=z6f 1 (Wm 1 b) y:=fun y=>by rw [x6q 0 hp,x6q 1 hp,y7d,y7d,x1m 0 1 (by decide),x1m 1 0 (by decide)];omega
 have hd: ∀y,decide (z6f 0 E y>0)=decide (pt a y)∧decide (z6f 1 E y>0)=decide (pt b y):=fun y=>by obtain ⟨e1,e2⟩:=hn y;exact ⟨BX.2 (by rw [e1];exact (x6r 0 a ha y).2),BX.2 (by rw [e2];exact (x6r 1 b hb y).2)⟩
 have ht:Two E:=fun e he=>by
  rcases AF.1 (hp.mem_iff.1 he) with h | h
  ·obtain ⟨s,_,h⟩:=AN.1 h;simp only [AI,BC,Cm] at h;rcases h with rfl | rfl <;> exact .inl rfl
  ·obtain ⟨s,_,h⟩:=AN.1 h;simp only [AI,BC,Cm] at h;rcases h with rfl | rfl <;> exact .inr rfl
 have cover: ∀y,f (decide (pt a y)) (decide (pt b y))=true→ ∃e∈E,y<e.a∧ ∃g∈E,g.a≤y:=fun y hy=>by
  by_cases h1:pt a y
  ·obtain ⟨s,hs,s1,s2⟩:=h1;exact ⟨⟨s.b,0,-1⟩,hp.mem_iff.2 (AF.2 (.inl (AN.2 ⟨s,hs,by simp⟩))),s2,⟨s.a,0,1⟩,hp.mem_iff.2 (AF.2 (.inl (AN.2 ⟨s,hs,by simp⟩))),s1⟩
  ·by_cases h2:pt b y
   ·obtain ⟨s,hs,s1,s2⟩:=h2;exact ⟨⟨s.b,1,-1⟩,hp.mem_iff.2 (AF.2 (.inr (AN.2 ⟨s,hs,by simp⟩))),s2,⟨s.a,1,1⟩,hp.mem_iff.2 (AF.2 (.inr (AN.2 ⟨s,hs,by simp⟩))),s1⟩
   ·rw [An h1,An h2,hf] at hy;cases hy
 cases E with
 | nil=>refine ⟨.nil,fun y=>⟨fun ⟨s,hs,_⟩=>(by cases hs),fun hy=> ?_⟩⟩;obtain ⟨e,he,_⟩:=cover y hy;cases he
 | cons e r=>
  have hr:=A1.1 hE;have hz0:f (decide ((0:Int)>0)) (decide ((0:Int)>0))=false:=hf;have e0:sw2 f (e::r) 0 0 0 false []=sw2 f (e::r) 0 0 e.a (f (decide ((0:Int)>0)) (decide ((0:Int)>0))) []:=by rw [hz0];show sw2 f r _ _ _ _ (Vi [] 0 false e.a)=sw2 f r _ _ _ _ (Vi [] e.a false e.a);rfl
  rw [e0];obtain ⟨q1,q2⟩:=v2u f (e::r) 0 0 e.a [] hE ht (fun g hg=>by
   rcases AI.1 hg with rfl | hg
   ·exact AV _
   ·exact hr.1 g hg) .nil (by simp)
  refine ⟨q1,fun y=> ?_⟩;rw [q2,Int.zero_add,Int.zero_add,(hd y).1,(hd y).2];constructor
  ·rintro (⟨s,hs,_⟩ | ⟨_,h2,_⟩)
   ·cases hs
   ·exact h2
  ·intro hy;obtain ⟨g,hg,h1,k,hk,h2⟩:=cover y hy;refine .inr ⟨?_,hy,g,hg,h1⟩;rcases AI.1 hk with rfl | hk
   ·exact h2
   ·have h3:e.a≤k.a:=hr.1 k hk;omega
def tri :Nat→Nat
 | 0=>0
 | k+1=>tri k+k
theorem v2p : ∀n,tri (n+1)+tri n=n*n
 | 0=>rfl
 | n+1=>by have:=v2p n;show tri (n+1)+(n+1)+(tri n+n)=(n+1)*(n+1);rw [AR,Nat.mul_add];omega
def hat (n:Nat):Nat→Nat
 | 0=>0
 | v+1=>hat n v+min v (2*n - v)
theorem v7a (n:Nat): ∀v,v≤n+1→hat n v=tri v
 | 0,_=>rfl
 | v+1,h=>by show hat n v+min v (2*n - v)=tri v+v;rw [v7a n v (by omega)];omega
theorem y5r (n:Nat): ∀j,j≤n→hat n (n+1+j)+tri (n - j)=n*n
 | 0,_=>by rw [A3,v7a n _ (Ar _)];exact v2p n
 | j+1,h=>by
  have:=y5r n j (by omega);show hat n (n+1+j)+min (n+1+j) (2*n - (n+1+j))+tri (n - (j+1))=_;have e:tri (n - j)=tri (n - (j+1))+(n - (j+1)):=by rw [show n - j=(n - (j+1))+1 by omega];rfl
  omega
theorem hat_le (n v:Nat):hat n v≤n*n:=by
 by_cases h1:v≤2*n+1
 ·by_cases h2:v≤n+1
  ·have h3:=y5r n 0 (AD _);have mono: ∀k v,hat n v≤hat n (v+k):=fun k v=>by
    induction k with
    | zero=>exact Ar _
    | succ k ih=>exact AK ih (BJ _ _)
   have:=mono (n+1 - v) v;rw [show v+(n+1 - v)=n+1+0 by omega] at this;omega
  ·have:=y5r n (v - (n+1)) (by omega);rw [show n+1+(v - (n+1))=v by omega] at this;omega
 ·have h3:hat n (2*n+1)≤n*n:=by have:=y5r n n (Ar _);rw [show n+1+n=2*n+1 by omega] at this;omega
  have: ∀k,hat n (2*n+1+k)=hat n (2*n+1):=fun k=>by
   induction k with
   | zero=>rfl
   | succ k ih=>show hat n (2*n+1+k)+min (2*n+1+k) (2*n - (2*n+1+k))=_;rw [ih];omega
  have h4:=this (v - (2*n+1));rw [show 2*n+1+(v - (2*n+1))=v by omega] at h4;omega
theorem w6o (n:Nat) (E:Nat→Nat): ∀k,(∀i,i+1<k→E i<E (i+1))→((List.range k).map fun i=>min (E i) (2*n - E i)).sum ≤(match k with | 0=>0 | k+1=>hat n (E k+1))
 | 0,_=>Ar _
 | k+1,h=>by
  rw [Ce,BH,B9];have ih:=w6o n E k fun i hi=>h i (by omega);have mono: ∀k v,hat n v≤hat n (v+k):=fun k v=>by
   induction k with
   | zero=>exact Ar _
   | succ k ih=>exact AK ih (BJ _ _)
  simp only [AY,Bd,Bz,List.sum_nil,A3];show _≤hat n (E k)+min (E k) (2*n - E k);cases k with
  | zero=>simp only [List.range_zero,Bd,List.sum_nil];omega
  | succ k=>have h1:=h k (by omega);have h2:=mono (E (k+1) - (E k+1)) (E k+1);rw [show E k+1+(E (k+1) - (E k+1))=E (k+1) by omega] at h2;simp only at ih;omega
def x8n (p:Int→Bool) (l:List Int):Nat:=(l.filter p).length
theorem z3f (p:Int→Bool) (x:Int) (l:List Int):x8n p (x::l)=(if p x=true then 1 else 0)+x8n p l:=by
 unfold x8n;rw [BW];split
 ·simp;omega
 ·simp
theorem j8d (p:Int→Bool) (l:List Int):x8n p l≤l.length:=Cf _ _
theorem v8o {p q:Int→Bool} (h: ∀x,p x=true→q x=true) (l:List Int):x8n p l≤x8n q l:=by
 induction l with
 | nil=>exact Ar _
 | cons x l ih=>
  rw [z3f,z3f];by_cases h1:p x=true
  ·rw [AC h1,AC (h x h1)];omega
  ·rw [Ay h1];omega
theorem j8c {p q:Int→Bool} (h: ∀x,p x=true→q x=true) {l:List Int} {y:Int} (hy:y∈l) (hq:q y=true) (hp:p y=false):x8n p l<x8n q l:=by
 induction l with
 | nil=>cases hy
 | cons x l ih=>
  rw [z3f,z3f];rcases AI.1 hy with rfl | hy
  ·have:=v8o h l;rw [hp,hq];simp;omega
  ·have:=ih hy;by_cases h1:p x=true
   ·rw [AC h1,AC (h x h1)];omega
   ·rw [Ay h1];omega
namespace Dim
variable {α β:Type} {D:Dim α β}
theorem inn_min (l:List α) (x:Int) (hv: ∀r∈l,D.lo r<D.hi r):(D.inn l x).length ≤min (x8n (fun y=>decide (y≤x)) (D.ends l)) (2*l.length - x8n (fun y=>decide (y≤x)) (D.ends l)):=by
 induction l with
 | nil=>exact AD _
 | cons r l ih=>
  have ih:=ih fun s hs=>hv s (by simp [hs]);have hr:=hv r (by simp);have hc:=j8d (fun y=>decide (y≤x)) (D.ends l);rw [D.ends_length] at hc;have e:x8n (fun y=>decide (y≤x)) (D.ends (r::l))=(if D.lo r≤x then 1 else 0)+((if D.hi r≤x then 1 else 0)+x8n (fun y=>decide (y≤x)) (D.ends l)):=by show x8n _ (D.lo r::D.hi r::D.ends l)=_;rw [z3f,z3f];simp only [As]
  have e2:(D.inn (r::l) x).length =(if D.lo r≤x∧x<D.hi r then 1 else 0)+(D.inn l x).length :=by
   unfold inn;rw [BW];by_cases h:D.lo r≤x∧x<D.hi r
   ·rw [AC (by simp [h.1,h.2]),AC h];simp;omega
   ·rw [Ay (by simp;intro h1;exact Int.not_lt.1 fun h2=>h ⟨h1,h2⟩),Ay h,Ag]
  rw [e,e2,AU];by_cases h1:D.lo r≤x <;> by_cases h2:D.hi r≤x
  ·rw [AC h1,AC h2,Ay (by omega)];omega
  ·rw [AC h1,Ay h2,AC (by omega)];omega
  ·omega
  ·rw [Ay h1,Ay h2,Ay (by omega)];omega
theorem open_sum (l:List α) (hv: ∀r∈l,D.lo r<D.hi r): ∀k,k≤(D.cuts l).length →((List.range k).map fun i=>(D.inn l (rd (D.cuts l) i)).length).sum ≤l.length*l.length:=fun k hk=>by
 have hc:(D.cuts l).Pairwise (· < ·):=by show (Js (D.ends l)).Pairwise (· < ·);rw [Kr];exact (Xm _).1
 have hm: ∀i,i<(D.cuts l).length →rd (D.cuts l) i∈D.ends l:=fun i hi=>by
  have:rd (D.cuts l) i∈Js (D.ends l):=by rw [Yi hi];exact AM hi
  rw [Kr,(Xm _).2] at this;exact this
 have h1:((List.range k).map fun i=>(D.inn l (rd (D.cuts l) i)).length).sum ≤((List.range k).map fun i=>min (x8n (fun y=>decide (y≤rd (D.cuts l) i)) (D.ends l)) (2*l.length - x8n (fun y=>decide (y≤rd (D.cuts l) i)) (D.ends l))).sum :=by
  induction k with
  | zero=>exact Ar _
  | succ k ih=>rw [Ce,BH,BH,B9,B9];have:=ih (by omega);have h2:=D.inn_min l (rd (D.cuts l) k) hv;simp only [AY,Bd,Bz,List.sum_nil];omega
 refine AK h1 ?_;have h2:=w6o l.length (fun i=>x8n (fun y=>decide (y≤rd (D.cuts l) i)) (D.ends l)) k fun i hi=>by have hlt:=z9s hc (show i<i+1 by omega) (show i+1<_ by omega);refine j8c (fun x hx=> ?_) (hm (i+1) (by omega)) (Ai (AV _)) (An (by omega));have:=AA hx;exact Ai (by omega)
 refine AK h2 ?_;cases k with
 | zero=>exact AD _
 | succ k=>exact hat_le _ _
theorem goS_length (sec:Int→List β) (cs:List Int): ∀(k i:Nat) (s:Sw α β),(D.goS sec cs k i s).out.length ≤s.out.length+((List.range k).map fun j=>(sec (rd cs (i+j))).length).sum
 | 0,i,s=>Ar _
 | k+1,i,s=>by
  have h1:=goS_length sec cs k (i+1) (D.oneS (sec (rd cs i)) (rd cs i) (rd cs (i+1)) s);have h2:(D.oneS (sec (rd cs i)) (rd cs i) (rd cs (i+1)) s).out.length ≤s.out.length+(sec (rd cs i)).length :=by
   unfold oneS;cases (decide (0<(sec (rd cs i)).length)&&((s.fin == rd cs i)&&D.same s.last (sec (rd cs i)))) with
   | true=>rw [Ab,D.grow_length];omega
   | false=>rw [Aa];simp
  rw [List.range_succ_eq_map,AY,List.map_map,Bz,show rd cs (i+0)=rd cs i from rfl];have e:((fun j=>(sec (rd cs (i+j))).length)∘Nat.succ)=fun j=>(sec (rd cs (i+1+j))).length :=by
   funext j;simp only [Function.comp];rw [show i+j.succ=i+1+j by omega]
  rw [e];show (D.goS sec cs k (i+1) _).out.length ≤_;omega
theorem goJ_length (a b:List α) (J:List β→List β→List β) (hJ: ∀x,(J (D.inn a x) (D.inn b x)).length ≤(D.inn a x).length +(D.inn b x).length) (hv: ∀r∈a++b,D.lo r<D.hi r):
  (D.goS (fun x=>J (D.inn a x) (D.inn b x)) (D.cuts (a++b)) ((D.cuts (a++b)).length - 1) 0 ⟨[],[],0,0⟩).out.length ≤(a.length+b.length)*(a.length+b.length):=by
 have h1:=D.goS_length (fun x=>J (D.inn a x) (D.inn b x)) (D.cuts (a++b)) ((D.cuts (a++b)).length - 1) 0 ⟨[],[],0,0⟩;have h2:=D.open_sum (a++b) hv ((D.cuts (a++b)).length - 1) (Nat.sub_le _ _);rw [Aw] at h2;refine AK h1 (AK ?_ h2);simp only [Bs,Ag];generalize (D.cuts (a++b)).length - 1=k
 induction k with
 | zero=>exact Ar _
 | succ k ih=>rw [Ce,BH,BH,B9,B9];have:=hJ (rd (D.cuts (a++b)) k);simp only [AY,Bd,Bz,List.sum_nil];rw [D.inn_append,Aw];omega
end Dim
open Go.Proofs Go.Sort Go.Shelf Go.RowKit Go.Lib
def spJ (k:Nat) (a b:List R2):List R2:=sw2 (opB k) (z1x (Wm 0 a++Wm 1 b)) 0 0 0 false []
theorem y0f (i:Int) (l:List R2) (hv:l.all z1j=true):y3l (Wm i l)=true:=At.2 fun e he=>by obtain ⟨s,hs,h1⟩:=AN.1 he;have hv:=At.1 hv s hs;simp only [z1j,Ac,As] at hv;simp only [AI,BC,Cm] at h1;rcases h1 with rfl | rfl <;> exact Ai (by simp only;omega)
theorem w4p {l:List R2} (hv:l.all z1j=true): ∀s∈l,s.a<s.b:=fun s hs=>by have:=At.1 hv s hs;simp only [z1j,Ac,As] at this;exact this.1
theorem y6n (k:Nat) {a b:List R2} (ha:a.all z1j=true) (hb:b.all z1j=true):z4r.can (spJ k a b)∧ ∀y,ptL z4r.inB (spJ k a b) y↔opB k (decide (pt a y)) (decide (pt b y))=true:=by
 have hbnd:y3l (Wm 0 a++Wm 1 b)=true:=by have h1:=y0f 0 a ha;have h2:=y0f 1 b hb;unfold y3l at*;rw [List.all_append,h1,h2];rfl
 obtain ⟨hp,_⟩:=Qh _ hbnd;exact j1l (opB k) (opB_ff k) a b (w4p ha) (w4p hb) _ hp (w4t _ hbnd)
theorem w5s : ∀(l S:List Int),l.Pairwise (· < ·)→(∀x∈l,x∈S)→l.length≤S.length
 | [],S,_,_=>AD _
 | x::l,S,h,hs=>by obtain ⟨h1,h2⟩:=A1.1 h;have hx:=hs x (by simp);have:=w5s l (S.erase x) h2 fun y hy=>(List.mem_erase_of_ne (by have:=h1 y hy;omega)).2 (hs y (by simp [hy]));rw [List.length_erase_of_mem hx] at this;have:=List.length_pos_of_mem hx;simp only [AU];omega
def y0o (L:List R2):List Int:=L.flatMap fun s=>[s.a,s.b]
theorem Qr (L:List R2):(y0o L).length =2*L.length:=by
 induction L with
 | nil=>rfl
 | cons r l ih=>show (_::_::y0o l).length =_;simp only [AU,ih];omega
theorem y0n {L:List R2} (h:Can L):(y0o L).Pairwise (· < ·):=by
 induction L with
 | nil=>exact .nil
 | cons s L ih=>
  have hp:=h.pos s (by simp);have hn: ∀y∈y0o L,s.b<y:=fun y hy=>by obtain ⟨t,ht,h1⟩:=AN.1 hy;have:=h.head t ht;have:=h.pos t (by simp [ht]);simp only [AI,BC,Cm] at h1;omega
  show (s.a::s.b::y0o L).Pairwise (· < ·);refine A1.2 ⟨fun y hy=> ?_,A1.2 ⟨hn,ih h.tail⟩⟩;rcases AI.1 hy with rfl | hy
  ·exact hp
  ·have:=hn y hy;omega
theorem v1l {L:List R2} (h:Can L) (S:List Int) (hS: ∀y,y ∉ S→(pt L (y - 1)↔pt L y)):2*L.length≤S.length:=by
 rw [←Qr];refine w5s _ S (y0n h) fun y hy=>A9 fun hn=> ?_;obtain ⟨s,hs,h1⟩:=AN.1 hy;have hp:=h.pos s hs;have sepL: ∀t∈L,t=s∨t.b<s.a∨s.b<t.a:=fun t ht=>by
  obtain ⟨i,hi,ei⟩:=AS hs;obtain ⟨j,hj,ej⟩:=AS ht;have pw:=Bk.1 h.sep;rcases Bt i j with q | q | q
  ·have:=pw i j hi hj q;rw [ei,ej] at this;exact .inr (.inr this)
  ·subst q;exact .inl (ej.symm.trans ei)
  ·have:=pw j i hj hi q;rw [ei,ej] at this;exact .inr (.inl this)
 simp only [AI,BC,Cm] at h1;rcases h1 with rfl | rfl
 ·obtain ⟨t,ht,t1,t2⟩:=(hS _ hn).2 ⟨s,hs,AV _,hp⟩;rcases sepL t ht with rfl | q | q <;> omega
 ·obtain ⟨t,ht,t1,t2⟩:=(hS _ hn).1 ⟨s,hs,by omega,by omega⟩;rcases sepL t ht with rfl | q | q <;> omega
theorem y1o {l:List R2} {y:Int} (h:y ∉ y0o l):pt l (y - 1)↔pt l y:=by
 constructor
 ·rintro ⟨s,hs,h1,h2⟩;refine ⟨s,hs,by omega,?_⟩;have:y≠s.b:=fun e=>h (AN.2 ⟨s,hs,by simp [e]⟩);omega
 ·rintro ⟨s,hs,h1,h2⟩;refine ⟨s,hs,?_,by omega⟩;have:y≠s.a:=fun e=>h (AN.2 ⟨s,hs,by simp [e]⟩);omega
theorem z5v (k:Nat) {a b:List R2} (ha:a.all z1j=true) (hb:b.all z1j=true):(spJ k a b).length ≤a.length+b.length:=by
 obtain ⟨h1,h2⟩:=y6n k ha hb;have:=v1l h1 (y0o a++y0o b) fun y hy=>by rw [AF,not_or] at hy;have e1:decide (pt a (y - 1))=decide (pt a y):=BX.2 (y1o hy.1);have e2:decide (pt b (y - 1))=decide (pt b y):=BX.2 (y1o hy.2);have q1:pt (spJ k a b) (y - 1)↔_:=h2 (y - 1);have q2:pt (spJ k a b) y↔_:=h2 y;rw [q1,q2,e1,e2]
 rw [Aw,Qr,Qr] at this;omega
def rgJ (k:Nat) (a b:List R4):List R4:=(D4.goS (fun x=>spJ k (D4.inn a x) (D4.inn b x)) (D4.cuts (a++b)) ((D4.cuts (a++b)).length - 1) 0 ⟨[],[],0,0⟩).out
theorem j1x (k:Nat):spJ k [] []=[]:=by have:=z5v k (a:=[]) (b:=[]) rfl rfl;exact Cb (by simpa using this)
instance ptDec4 (l:List R4) (p:Int×Int):Decidable (ptL Wh.inB l p):=Classical.propDecidable _
theorem y6y (l:List R4) (x y:Int):pt (D4.inn l x) y↔ptL Wh.inB l (x,y):=Dim.pt_inn (D:=D4) z4r.inB l x y
theorem z1b (k:Nat) {a b:List R4} (ha: ∀r∈a,Vo r=true) (hb: ∀r∈b,Vo r=true):
  Wh.can (rgJ k a b)∧(∀p,ptL Wh.inB (rgJ k a b) p↔opB k (decide (ptL Wh.inB a p)) (decide (ptL Wh.inB b p))=true)∧(rgJ k a b).length ≤(a.length+b.length)*(a.length+b.length):=by
 have hs: ∀x,z4r.can (spJ k (D4.inn a x) (D4.inn b x))∧ ∀y,ptL z4r.inB (spJ k (D4.inn a x) (D4.inn b x)) y↔opB k (decide (pt (D4.inn a x) y)) (decide (pt (D4.inn b x) y))=true:=fun x=>y6n k (Jb ha x) (Jb hb x);obtain ⟨h1,h2⟩:=Dim.goJ_can z2q z8s z4r a b (spJ k) (fun x=>(hs x).1) (j1x k);refine ⟨h1,fun ⟨x,y⟩=> ?_,?_⟩
 ·rw [show ptL Wh.inB (rgJ k a b) (x,y)↔_ from h2 x y,(hs x).2];have e1:decide (pt (D4.inn a x) y)=decide (ptL Wh.inB a (x,y)):=BX.2 (y6y a x y);have e2:decide (pt (D4.inn b x) y)=decide (ptL Wh.inB b (x,y)):=BX.2 (y6y b x y);rw [e1,e2]
 ·refine Dim.goJ_length a b (spJ k) (fun x=>z5v k (Jb ha x) (Jb hb x)) fun r hr=> ?_;have hv:Vo r=true:=by
   rcases AF.1 hr with h | h
   ·exact ha r h
   ·exact hb r h
  simp only [Vo,Ac,As] at hv;exact hv.1
open Go.Proofs.Tryz
inductive schS where
 | h0 (v10:Int)
def schC (l0:List R2):schS→Cfg
 | .h0 v10=>⟨⟨34,0,true⟩,none,(Zc prog 160 [1,1,0,1,0,0] 0),none,(Zy prog 9),⟨Ya [(0,(.dat l0.length (Zz l0))),(8,(.dat l0.length (Zz l0))),(9,(ii (l0.length:Int))),(10,(ii v10))],Vd [] 0,0,[],true⟩,[],.leaf⟩
def j2w :List (Option (List Nat)):=[some [0,8,9,10]]
def j2x :List (Option (List Nat)):=[]
def z5c (l0:List R2):schS→Xu schS
 | .h0 v10=>(bif (decide (v10<(l0.length:Int))) then (bif ((decide (0≤v10∧v10<(l0.length:Int)))&&true) then (bif (decide ((rd l0 v10.toNat).a <(rd l0 v10.toNat).b)) then (bif (decide ((rd l0 v10.toNat).a ≥(-1000000))) then (bif (!(decide ((rd l0 v10.toNat).b ≤1000000))) then (.ret [(.int .i64 8)]) else (bif (decide (v10>0)) then (bif ((decide (0≤(wrap .i64 (v10 - 1))∧(wrap .i64 (v10 - 1))<(l0.length:Int)))&&true) then (bif (decide ((rd l0 (Int.toNat (wrap .i64 (v10 - 1)))).b ≥(rd l0 v10.toNat).a)) then (.ret [(.int .i64 8)]) else (.to (.h0 (wrap .i64 (v10+1))))) else .stuck) else (.to (.h0 (wrap .i64 (v10+1)))))) else (.ret [(.int .i64 8)])) else (.ret [(.int .i64 8)])) else .stuck) else (.ret [(.int .i64 0)]))
def y4i (l0:List R2):Xu schS:=(bif (decide ((l0.length:Int)>400)) then (.ret [(.int .i64 4)]) else (.to (.h0 0)))
theorem w8p (l0:List R2): ∀s,Xq prog (Zy prog 160) (schC l0) (schC l0 s) (z5c l0 s)
 | .h0 v10=>(lb (fun k0=>(lo fun aH=>(lb (fun k1=>(lb (fun k2=>(lb (fun k3=>(lr 34 160 [1,1,0,1,0,0,1,1,0,0,1,1,0,0] 1 9 [(2,(ii 8))] (sl z6s 25 [] ⟨[],[],[some [2]],[]⟩ ⟨[],[],[]⟩ (trs 12 []) (tt k3 (tt k2 (tt k1 (ww aH (tt k0 nn)))))))) (fun k3=>(lb (fun k4=>(lo fun cZ=>(lb (fun k5=>(lr 34 160 [1,1,0,1,0,0,1,1,0,0,1,1,0,0] 1 9 [(2,(ii 8))] (sl z6s 25 [] ⟨[],[],[some [2]],[]⟩ ⟨[],[],[]⟩ (trs 7 (bl 14 12280)) (tt k5 (ww cZ (tt k4 (tt k3 (tt k2 (tt k1 (ww aH (tt k0 nn))))))))))) (fun k5=>(sl z6s 28 [] ⟨[],[],j2w,j2x⟩ ⟨[],[],[]⟩ (trs 7 (bl 14 4088)) (tt k5 (ww cZ (tt k4 (tt k3 (tt k2 (tt k1 (ww aH (tt k0 nn))))))))))))) (fun k4=>(sl z6s 28 [] ⟨[],[],j2w,j2x⟩ ⟨[],[],[]⟩ (trs 7 (bl 14 0)) (tt k4 (tt k3 (tt k2 (tt k1 (ww aH (tt k0 nn)))))))))))) (fun k2=>(lr 34 160 [1,1,0,1,0,0,1,1,0,0,1,1,0,0] 1 9 [(2,(ii 8))] (sl z6s 25 [] ⟨[],[],[some [2]],[]⟩ ⟨[],[],[]⟩ (trs 4 (bl 8 248)) (tt k2 (tt k1 (ww aH (tt k0 nn))))))))) (fun k1=>(lr 34 160 [1,1,0,1,0,0,1,1,0,0,1,1,0,0] 1 9 [(2,(ii 8))] (sl z6s 25 [] ⟨[],[],[some [2]],[]⟩ ⟨[],[],[]⟩ (bl 12 3969) (tt k1 (ww aH (tt k0 nn))))))))) (fun k0=>(lr 34 3 [1,1,1,1,0] 1 9 [(2,(ii 0))] (sl z6s 11 [] ⟨[],[],[some [2]],[]⟩ ⟨[],[],[]⟩ [false] (tt k0 nn)))))
theorem x9q (l0:List R2):Xq prog (Zy prog 160) (schC l0) (Zb prog 160 [(.dat l0.length (Zz l0))] true []) (y4i l0):=(lb (fun k0=>(lr 34 160 [1,0,1,0,0] 1 9 [(2,(ii 4))] (sl z6s 16 [] ⟨[],[],[some [2]],[]⟩ ⟨[],[],[]⟩ [true] (tt k0 nn)))) (fun k0=>(sl z6s 22 [] ⟨[],[],j2w,j2x⟩ ⟨[],[],[]⟩ [false] (tt k0 nn))))
theorem u1d (l0:List R2) (n:Nat) (vs:List AVal) (h:Yy (z5c l0) n (y4i l0)=.ret vs):Jx prog (Zy prog 160) (Zb prog 160 [(.dat l0.length (Zz l0))] true []) vs:=by have:=Zd (w8p l0) n _ (x9q l0);rwa [h] at this
inductive cuS where
def cuC (x0:Bool) (x1:Bool):cuS→Cfg
 :=nofun
def v8k (x0:Bool) (x1:Bool):cuS→Xu cuS
 :=nofun
def w3m (x0:Bool) (x1:Bool):Xu cuS:=(bif x0 then (.ret [(.bool true)]) else (.ret [(.bool x1)]))
theorem v8j (x0:Bool) (x1:Bool): ∀s,Xq prog (Zy prog 164) (cuC x0 x1) (cuC x0 x1 s) (v8k x0 x1 s)
 :=nofun
theorem v1g (x0:Bool) (x1:Bool):Xq prog (Zy prog 164) (cuC x0 x1) (Zb prog 164 [(.bool x0),(.bool x1)] true []) (w3m x0 x1):=(lb (fun k0=>(lr 9 3 [1,1,1,1,0] 1 6 [(4,(.bool true))] (sl z6s 12 [] ⟨[],[],[some [4]],[]⟩ ⟨[],[],[]⟩ [true] (tt k0 nn)))) (fun k0=>(lr 9 3 [1,1,1,1,0] 1 6 [(4,(.bool x1))] (sl z6s 12 [] ⟨[],[],[some [4]],[]⟩ ⟨[],[],[]⟩ [false] (tt k0 nn)))))
theorem j7z (x0:Bool) (x1:Bool) (n:Nat) (vs:List AVal) (h:Yy (v8k x0 x1) n (w3m x0 x1)=.ret vs):Jx prog (Zy prog 164) (Zb prog 164 [(.bool x0),(.bool x1)] true []) vs:=by have:=Zd (v8j x0 x1) n _ (v1g x0 x1);rwa [h] at this
inductive ceS where
def ceC (x0:Bool) (x1:Bool):ceS→Cfg
 :=nofun
def v8s (x0:Bool) (x1:Bool):ceS→Xu ceS
 :=nofun
def w3s (x0:Bool) (x1:Bool):Xu ceS:=(bif x0 then (.ret [(.bool x1)]) else (.ret [(.bool false)]))
theorem v8r (x0:Bool) (x1:Bool): ∀s,Xq prog (Zy prog 133) (ceC x0 x1) (ceC x0 x1 s) (v8s x0 x1 s)
 :=nofun
theorem v1j (x0:Bool) (x1:Bool):Xq prog (Zy prog 133) (ceC x0 x1) (Zb prog 133 [(.bool x0),(.bool x1)] true []) (w3s x0 x1):=(lb (fun k0=>(lr 9 3 [1,1,1,1,0] 1 6 [(4,(.bool x1))] (sl z6s 12 [] ⟨[],[],[some [4]],[]⟩ ⟨[],[],[]⟩ [true] (tt k0 nn)))) (fun k0=>(lr 9 3 [1,1,1,1,0] 1 6 [(4,(.bool false))] (sl z6s 12 [] ⟨[],[],[some [4]],[]⟩ ⟨[],[],[]⟩ [false] (tt k0 nn)))))
theorem j8e (x0:Bool) (x1:Bool) (n:Nat) (vs:List AVal) (h:Yy (v8s x0 x1) n (w3s x0 x1)=.ret vs):Jx prog (Zy prog 133) (Zb prog 133 [(.bool x0),(.bool x1)] true []) vs:=by have:=Zd (v8r x0 x1) n _ (v1j x0 x1);rwa [h] at this
inductive cdS where
def cdC (x0:Bool) (x1:Bool):cdS→Cfg
 :=nofun
def v8u (x0:Bool) (x1:Bool):cdS→Xu cdS
 :=nofun
def w3u (x0:Bool) (x1:Bool):Xu cdS:=(bif x0 then (.ret [(.bool (!x1))]) else (.ret [(.bool false)]))
theorem v8t (x0:Bool) (x1:Bool): ∀s,Xq prog (Zy prog 123) (cdC x0 x1) (cdC x0 x1 s) (v8u x0 x1 s)
 :=nofun
theorem v1k (x0:Bool) (x1:Bool):Xq prog (Zy prog 123) (cdC x0 x1) (Zb prog 123 [(.bool x0),(.bool x1)] true []) (w3u x0 x1):=(lb (fun k0=>(lr 10 3 [1,1,1,1,0] 1 6 [(4,(.bool (!x1)))] (sl z6s 13 [] ⟨[],[],[some [4]],[]⟩ ⟨[],[],[]⟩ [true,true] (tt k0 nn)))) (fun k0=>(lr 10 3 [1,1,1,1,0] 1 6 [(4,(.bool false))] (sl z6s 13 [] ⟨[],[],[some [4]],[]⟩ ⟨[],[],[]⟩ [false,false] (tt k0 nn)))))
theorem j8f (x0:Bool) (x1:Bool) (n:Nat) (vs:List AVal) (h:Yy (v8u x0 x1) n (w3u x0 x1)=.ret vs):Jx prog (Zy prog 123) (Zb prog 123 [(.bool x0),(.bool x1)] true []) vs:=by have:=Zd (v8t x0 x1) n _ (v1k x0 x1);rwa [h] at this
def w8g (l:List R2) (i:Nat):Bool:=z1j (rd l i)&&(decide (i=0)||decide ((rd l (i - 1)).b <(rd l i).a))
def x0s (l:List R2):Int:=bif decide (400<l.length) then 4 else bif (List.range l.length).all (w8g l) then 0 else 8
def z5d (l:List R2):Bool:=true
theorem u7j (l:List R2) (hl:l.length≤400): ∀(k i:Nat),i+k=l.length→(∀j,j<i→w8g l j=true)→ ∃n,Yy (z5c l) n (.to (.h0 (i:Int)))=.ret [.int .i64 (bif (List.range l.length).all (w8g l) then 0 else 8)]
 | 0,i,h,ht=>by have hv:(List.range l.length).all (w8g l)=true:=At.2 fun j hj=>ht j (by have:=A0.1 hj;omega);refine ⟨1,?_⟩;rw [Zv,hv];simp (disch:=omega) only [z5c,Zt,Ab,Aa,Zp]
 | k +1,i,h,ht=>by
  have hi:i<l.length:=by omega
  have hlt:decide ((i:Int)<(l.length:Int))=true:=Ai (by omega);have hin:decide (0≤(i:Int)∧(i:Int)<(l.length:Int))=true:=Ai (by omega);have step:z5c l (.h0 (i:Int))=bif w8g l i then .to (.h0 ((i+1:Nat):Int)) else .ret [.int .i64 8]:=by
   unfold w8g z1j;by_cases hi0:i=0
   ·have g1:decide ((i:Int)>0)=false:=An (by omega);rw [Ai hi0];simp (disch:=omega) only [z5c,hlt,hin,g1,Zk,Zx,Zj,y2i,y2h,BB,Ah,Ab,Aa]
   ·have g1:decide ((i:Int)>0)=true:=Ai (by omega);have g2:wrap .i64 ((i:Int) - 1)=((i - 1:Nat):Int):=by rw [Zk (by omega)];omega
    have g3:decide (0≤((i - 1:Nat):Int)∧((i - 1:Nat):Int)<(l.length:Int))=true:=Ai (by omega);have g4:decide ((rd l (i - 1)).b ≥(rd l i).a)= !decide ((rd l (i - 1)).b <(rd l i).a):=by
     by_cases q:(rd l (i - 1)).b <(rd l i).a
     ·rw [Ai q,An (by omega)];rfl
     ·rw [An q,Ai (by omega)];rfl
    rw [An hi0];simp (disch:=omega) only [z5c,hlt,hin,g1,g2,g3,g4,Zk,Zx,Zj,y2i,y2h,Bl,Ah,Ab,Aa]
  rcases Yx (w8g l i) with q | q
  ·obtain ⟨n,hn⟩:=u7j l hl k (i+1) (by omega) (fun j hj=>by
    rcases Bb (B0 hj) with rfl | hj
    ·exact q
    ·exact ht j hj)
   refine ⟨n+1,?_⟩;rw [Zv,step,q,Ab];exact hn
  ·have hv:(List.range l.length).all (w8g l)=false:=A4.2 fun e=>by have:=At.1 e i (A0.2 hi);rw [q] at this;cases this
   refine ⟨1,?_⟩;rw [Zv,step,q,hv,Aa,Zp];rfl
theorem j2v (l:List R2) (h:z5d l=true): ∃n,Yy (z5c l) n (y4i l)=.ret [.int .i64 (x0s l)]:=by
 unfold y4i x0s;by_cases h:400<l.length
 ·refine ⟨0,?_⟩;rw [Ai h,Yt (show (l.length:Int)>400 by omega)];rfl
 ·obtain ⟨n,hn⟩:=u7j l (by omega) l.length 0 (Ag _) (fun j hj=>absurd hj (AO _));refine ⟨n,?_⟩;rw [An h,Xc (show¬(l.length:Int)>400 by omega),Aa,Aa];exact hn
inductive Op where
 | u | e | d
abbrev Op.k :Op→Nat
 | .u =>0
 | .e =>1
 | .d =>2
abbrev nC :Op→Nat
 | .u =>nSpU1
 | .e =>nSpE1
 | .d =>nSpD1
abbrev nSp :Op→Nat
 | .u =>nSpU
 | .e =>nSpE
 | .d =>nSpD
abbrev nRg :Op→Nat
 | .u =>nRgU
 | .e =>nRgE
 | .d =>nRgD
abbrev nSl :Op→Nat
 | .u =>nSlU
 | .e =>nSlE
 | .d =>nSlD
def cV (q:Op) (a b:Bool):Bool:=opB q.k a b
theorem cu_run (a b:Bool): ∃N,Yy (v8k a b) N (w3m a b)=.ret [.bool (cV .u a b)]:=⟨0,by cases a <;> cases b <;> rfl⟩
theorem ce_run (a b:Bool): ∃N,Yy (v8s a b) N (w3s a b)=.ret [.bool (cV .e a b)]:=⟨0,by cases a <;> cases b <;> rfl⟩
theorem cd_run (a b:Bool): ∃N,Yy (v8u a b) N (w3u a b)=.ret [.bool (cV .d a b)]:=⟨0,by cases a <;> cases b <;> rfl⟩
theorem x3f (l:List R2):x0s l=0↔l.length≤400∧l.all z1j=true∧Can l:=by
 unfold x0s;constructor
 ·intro h;by_cases h1:400<l.length
  ·rw [Ai h1] at h;cases h
  ·rw [An h1,Aa] at h;cases hq:(List.range l.length).all (w8g l) with
   | false=>rw [hq] at h;cases h
   | true=>
    have hq:=fun i hi=>At.1 hq i (A0.2 hi);have hv: ∀i,i<l.length→z1j (rd l i)=true:=fun i hi=>by have:=hq i hi;unfold w8g at this;rw [Ac] at this;exact this.1
    have hp: ∀i,i<l.length→(rd l i).a <(rd l i).b :=fun i hi=>by have:=hv i hi;simp only [z1j,Ac,As] at this;exact this.1
    have hs: ∀i,i+1<l.length→(rd l i).b <(rd l (i+1)).a :=fun i hi=>by
     have:=hq (i+1) hi;unfold w8g at this;rw [Ac,Br] at this;rcases this.2 with q | q
     ·have:=AA q;omega
     ·exact AA q
    refine ⟨by omega,At.2 fun s hs=> ?_,⟨fun s hs=> ?_,?_⟩⟩
    ·obtain ⟨i,hi,rfl⟩:=AS hs;rw [←Yi hi];exact hv i hi
    ·obtain ⟨i,hi,rfl⟩:=AS hs;rw [←Yi hi];exact hp i hi
    ·refine Bk.2 fun i j hi hj hij=> ?_;rw [←Yi hi,←Yi hj];clear hi
     induction j with
     | zero=>omega
     | succ j ih=>
      have h1:=hs j hj;rcases Bb (B0 hij) with rfl | q
      ·exact h1
      ·have h2:=ih (by omega) q;have h3:=hp j (by omega);omega
 ·rintro ⟨h1,h2,h3⟩;rw [An (by omega),Aa];have:(List.range l.length).all (w8g l)=true:=At.2 fun i hi=>by
   have hi:=A0.1 hi;unfold w8g;rw [At.1 h2 (rd l i) (by rw [Yi hi];exact AM hi),Aj,Br];by_cases h0:i=0
   ·exact .inl (Ai h0)
   ·refine .inr (Ai ?_);have:=Bk.1 h3.sep (i - 1) i (by omega) hi (by omega);rwa [←Yi,←Yi] at this
  rw [this];rfl
def fSch :List AVal→Option (AVal×Bool)
 | [a0]=>match asL R2 a0 with
  | some (L0,g0,n0)=>some (.int .i64 (x0s L0),isT R2 n0 g0&&(z5d L0))
  | _=>none
 | _=>none
theorem j6l {S:Specs} (hS:Zu prog S):Zu prog (S.with w5u fSch):=by
 refine z0v hS (by kernel_rfl) fun args v h=> ?_;unfold fSch at h;split at h
 ·rename_i a0;split at h
  ·rename_i L0 g0 n0 e0;simp only [Ae,Ad,Ac] at h;obtain ⟨rfl,ho0,hw⟩:=h;obtain ⟨N,hN⟩:=j2v L0 hw;exact ⟨_,_,(.cons (Yh e0 ho0) .nil),rfl,u1d L0 N _ hN,3,rfl⟩
  ·cases h
 ·cases h
def fCu :List AVal→Option (AVal×Bool)
 | [.bool b0,.bool b1]=>some (.bool (cV .u b0 b1),true)
 | _=>none
theorem fCu_ok {S:Specs} (hS:Zu prog S):Zu prog (S.with (nC .u) fCu):=by
 refine z0v hS (by kernel_rfl) fun args v h=> ?_;unfold fCu at h;split at h
 ·rename_i b0 b1;simp only [Ae,Ad,BZ] at h;subst h;obtain ⟨N,hN⟩:=cu_run b0 b1;exact ⟨_,_,(.cons (.refl _) (.cons (.refl _) .nil)),rfl,j7z b0 b1 N _ hN,3,rfl⟩
 ·cases h
def fCe :List AVal→Option (AVal×Bool)
 | [.bool b0,.bool b1]=>some (.bool (cV .e b0 b1),true)
 | _=>none
theorem fCe_ok {S:Specs} (hS:Zu prog S):Zu prog (S.with (nC .e) fCe):=by
 refine z0v hS (by kernel_rfl) fun args v h=> ?_;unfold fCe at h;split at h
 ·rename_i b0 b1;simp only [Ae,Ad,BZ] at h;subst h;obtain ⟨N,hN⟩:=ce_run b0 b1;exact ⟨_,_,(.cons (.refl _) (.cons (.refl _) .nil)),rfl,j8e b0 b1 N _ hN,3,rfl⟩
 ·cases h
def fCd :List AVal→Option (AVal×Bool)
 | [.bool b0,.bool b1]=>some (.bool (cV .d b0 b1),true)
 | _=>none
theorem fCd_ok {S:Specs} (hS:Zu prog S):Zu prog (S.with (nC .d) fCd):=by
 refine z0v hS (by kernel_rfl) fun args v h=> ?_;unfold fCd at h;split at h
 ·rename_i b0 b1;simp only [Ae,Ad,BZ] at h;subst h;obtain ⟨N,hN⟩:=cd_run b0 b1;exact ⟨_,_,(.cons (.refl _) (.cons (.refl _) .nil)),rfl,j8f b0 b1 N _ hN,3,rfl⟩
 ·cases h
def Ua :Specs:=((((T9.with w5u fSch).with (nC .u) fCu).with (nC .e) fCe).with (nC .d) fCd)
theorem z3h :Zu prog Ua:=(fCd_ok (fCe_ok (fCu_ok (j6l z6s))))
inductive spjS where
 | h0 (v3:List R3) (v17:Int)
 | h1 (v3:List R3) (v17:Int)
 | h2 (v5:List R3) (v6:Int) (v7:Int) (aC:Int) (bM:Int) (aV:Int) (aI:Bool) (aA:List R2)
abbrev Ui (aA:List R2) (aV:Int) (v5:List R3) (v7:Int):=(aA++[(R2.mk aV (rd v5 (0+(tn v7))).a)])
def v3i (l0:List R2) (l1:List R2) (q:Op):AFr:=⟨⟨29,0,true⟩,(Up prog 122 [1,1,1,0] 3),(Zc prog 122 [1,1,1,0] 1),none,(Zy prog 10),Ya [(21,(.dat l0.length (Zz l0))),(22,(.dat l1.length (Zz l1))),(23,(.fn (nC q) []))]⟩
abbrev y2v (aA:List R2) (aV:Int) (v5:List R3) (v7:Int):=(Zr (Zz aA) 0 aA.length 2 [(ii aV),(ii (rd v5 (0+(tn v7))).a)])
def v3h (q:Op) (l0:List R2) (l1:List R2):AFr:=⟨⟨11,0,true⟩,(Up prog (nSp q) [1,0] 2),(Zc prog (nSp q) [1,0] 1),none,(Zy prog 16),Ya [(6,(.dat l0.length (Zz l0))),(7,(.dat l1.length (Zz l1)))]⟩
def u6i :AFr:=⟨⟨42,0,true⟩,(Up prog 161 [1,1,1,1,1,0,0] 3),(Zc prog 161 [1,1,1,1,1,0,0] 1),none,(Zy prog 3),Ya [(5,(.ptr 1 0)),(6,.nils),(7,(.ptr 2 0)),(8,(.ptr 3 0)),(9,(.ptr 4 0)),(10,(.ptr 5 0)),(11,(.ptr 6 0)),(16,(.sl 0 0 2 (.un 1)))]⟩
abbrev x0c (v3:List R3) (l0:List R2) (v17:Int):=(v3++[(R3.mk (rd l0 (tn v17)).a 0 1),(R3.mk (rd l0 (tn v17)).b 0 (-1))])
abbrev x0b (v3:List R3) (l1:List R2) (v17:Int):=(v3++[(R3.mk (rd l1 (tn v17)).a 1 1),(R3.mk (rd l1 (tn v17)).b 1 (-1))])
def spjC (q:Op) (l0:List R2) (l1:List R2):spjS→Cfg
 | .h0 v3 v17=>⟨⟨38,0,true⟩,none,(Zc prog 184 [1,1,0,1,0,0,1,1,0,0,1,1,0,0] 0),none,(Zy prog 9),⟨Ya [(3,(.sla 7 3 0 v3.length (.un 3))),(4,(ii 0)),(8,(.sl 0 0 2 (.un 1))),(9,(ii 2)),(10,(ii 0)),(15,(.dat l0.length (Zz l0))),(16,(ii (l0.length:Int))),(17,(ii v17))],Vd [⟨[(.dat l0.length (Zz l0)),(.dat l1.length (Zz l1))],155,none⟩,⟨[(.fn (nC q) [])],167,none⟩,⟨[(ii 0),(ii 0)],222,none⟩,⟨[.nils],155,none⟩,⟨[(ii 0)],3,none⟩,⟨[(.bool false)],4,none⟩,⟨[(.fn 183 [(.ptr 5 0),(.ptr 4 0),(.ptr 3 0)])],223,none⟩,⟨Yq v3.length (Zz v3),227,some ⟨3,v3.length,(Zz v3)⟩⟩] 0,8,[],true⟩,[u6i,(v3i l0 l1 q),(v3h q l0 l1)],.leaf⟩
 | .h1 v3 v17=>⟨⟨38,0,true⟩,none,(Zc prog 184 [1,1,0,1,0,0,1,1,0,0,1,1,0,0] 0),none,(Zy prog 9),⟨Ya [(3,(.sla 7 3 0 v3.length (.un 3))),(4,(ii 1)),(8,(.sl 0 0 2 (.un 1))),(9,(ii 2)),(10,(ii 1)),(15,(.dat l1.length (Zz l1))),(16,(ii (l1.length:Int))),(17,(ii v17))],Vd [⟨[(.dat l0.length (Zz l0)),(.dat l1.length (Zz l1))],155,none⟩,⟨[(.fn (nC q) [])],167,none⟩,⟨[(ii 0),(ii 0)],222,none⟩,⟨[.nils],155,none⟩,⟨[(ii 0)],3,none⟩,⟨[(.bool false)],4,none⟩,⟨[(.fn 183 [(.ptr 5 0),(.ptr 4 0),(.ptr 3 0)])],223,none⟩,⟨Yq v3.length (Zz v3),227,some ⟨3,v3.length,(Zz v3)⟩⟩] 0,8,[],true⟩,[u6i,(v3i l0 l1 q),(v3h q l0 l1)],.leaf⟩
 | .h2 v5 v6 v7 aC bM aV aI aA=>⟨⟨16,0,true⟩,none,(Zc prog 198 [1,0,0] 0),none,[],⟨Ya [(0,(.yld 0)),(5,(.sla 7 3 0 v5.length (.un 3))),(6,(ii v6)),(7,(ii v7))],z8j [(1,⟨[(.fn (nC q) [])],167,none⟩),(2,⟨[(ii aC),(ii bM)],222,none⟩),(3,⟨[(ii aV)],3,none⟩),(4,⟨[(.bool aI)],4,none⟩),(5,⟨[(.fn 183 [(.ptr 4 0),(.ptr 3 0),(.ptr 6 0)])],223,none⟩),(6,⟨[(.sla 8 2 0 aA.length (.un 2))],155,none⟩),(7,⟨Yq v5.length (Zz v5),227,some ⟨3,v5.length,(Zz v5)⟩⟩),(8,⟨Yq aA.length (Zz aA),176,some ⟨2,aA.length,(Zz aA)⟩⟩)],9,[],true⟩,[⟨⟨42,0,true⟩,none,(.inRangeFunc 0::(Zc prog 161 [1,1,1,1,1,0,1,0] 1)),none,(Zy prog 3),Ya [(6,.nils),(8,(.ptr 6 0))]⟩,(v3i l0 l1 q),(v3h q l0 l1)],(y5l [(0,⟨.ready,none,42,Ya [(5,(.ptr 1 0)),(7,(.ptr 2 0)),(9,(.ptr 3 0)),(10,(.ptr 4 0)),(11,(.ptr 5 0))],[18],(Vy prog 161 [1,1,1,1,1,0,1,0,0]),(Vy prog 161 [1,1,1,1,1,0,1,0,1])⟩)])⟩
def spjN0 :List (Option (List Nat)):=[some [3,4,8,9,10,15,16,17],some [5,6,7,8,9,10,11,16],some [21,22,23],some [6,7]]
def spjM0 :List (Option (List Nat)):=[]
def spjN1 :List (Option (List Nat)):=[some [3,4,8,9,10,15,16,17],some [5,6,7,8,9,10,11,16],some [21,22,23],some [6,7]]
def spjM1 :List (Option (List Nat)):=[]
def y6l :List (Option (List Nat)):=[some [0,5,6,7],some [6,8],some [21,22,23],some [6,7]]
def y6m :List (Option (List Nat)):=[some [5,7,9,10,11],none,none,none,none,none,none,none,none]
def Wb (q:Op) (l0:List R2) (l1:List R2):spjS→Xu spjS
 | .h0 v3 v17=>(bif (decide (v17<(l0.length:Int))) then (bif ((decide (0≤v17∧v17<(l0.length:Int)))&&true) then (bif (Nat.beq 3 3&&((decide (0+v3.length=v3.length))&&decide ((v3.length+2+1)*(24+1)≤Jh))) then (.to (.h0 (v3++[(R3.mk (rd l0 v17.toNat).a 0 1),(R3.mk (rd l0 v17.toNat).b 0 (-1))]) (wrap .i64 (v17+1)))) else .stuck) else .stuck) else (.to (.h1 v3 0)))
 | .h1 v3 v17=>(bif (decide (v17<(l1.length:Int))) then (bif ((decide (0≤v17∧v17<(l1.length:Int)))&&true) then (bif (Nat.beq 3 3&&((decide (0+v3.length=v3.length))&&decide ((v3.length+2+1)*(24+1)≤Jh))) then (.to (.h1 (v3++[(R3.mk (rd l1 v17.toNat).a 1 1),(R3.mk (rd l1 v17.toNat).b 1 (-1))]) (wrap .i64 (v17+1)))) else .stuck) else .stuck) else (bif (y3l (cvT v3)) then (bif (decide (v3.length<4611686018427387904)) then (bif (decide (v3.length=v3.length)) then (.to (.h2 (z1x (cvT v3)) (v3.length:Int) 0 0 0 0 false ([]:List R2))) else .stuck) else .stuck) else .stuck))
 | .h2 v5 v6 v7 aC bM aV aI aA=>(bif (decide (v7<v6)) then (bif ((decide (0≤v7∧v7<(v5.length:Int)))&&true) then (bif (decide ((0+v7.toNat)<v5.length)) then (bif (!aI) then (bif (decide ((rd v5 (0+v7.toNat)).b =Int.ofNat 0)) then (.to (.h2 v5 v6 (wrap .i64 (v7+1)) (wrap .i64 (aC+(rd v5 (0+v7.toNat)).c)) bM (rd v5 (0+v7.toNat)).a ((cV q) (decide ((wrap .i64 (aC+(rd v5 (0+v7.toNat)).c))>0)) (decide (bM>0))) aA)) else (bif (decide ((rd v5 (0+v7.toNat)).b =Int.ofNat 1)) then (.to (.h2 v5 v6 (wrap .i64 (v7+1)) aC (wrap .i64 (bM+(rd v5 (0+v7.toNat)).c)) (rd v5 (0+v7.toNat)).a ((cV q) (decide (aC>0)) (decide ((wrap .i64 (bM+(rd v5 (0+v7.toNat)).c))>0))) aA)) else .stuck)) else (bif (aV == (rd v5 (0+v7.toNat)).a) then (bif (decide ((rd v5 (0+v7.toNat)).b =Int.ofNat 0)) then (.to (.h2 v5 v6 (wrap .i64 (v7+1)) (wrap .i64 (aC+(rd v5 (0+v7.toNat)).c)) bM (rd v5 (0+v7.toNat)).a ((cV q) (decide ((wrap .i64 (aC+(rd v5 (0+v7.toNat)).c))>0)) (decide (bM>0))) aA)) else (bif (decide ((rd v5 (0+v7.toNat)).b =Int.ofNat 1)) then (.to (.h2 v5 v6 (wrap .i64 (v7+1)) aC (wrap .i64 (bM+(rd v5 (0+v7.toNat)).c)) (rd v5 (0+v7.toNat)).a ((cV q) (decide (aC>0)) (decide ((wrap .i64 (bM+(rd v5 (0+v7.toNat)).c))>0))) aA)) else .stuck)) else (bif (decide ((aA.length:Int)>0)) then (bif ((decide (0≤(wrap .i64 ((aA.length:Int) - 1))∧(wrap .i64 ((aA.length:Int) - 1))<(aA.length:Int)))&&true) then (bif (decide ((0+(Int.toNat (wrap .i64 ((aA.length:Int) - 1))))<aA.length)) then (bif ((rd aA (0+(Int.toNat (wrap .i64 ((aA.length:Int) - 1))))).b == aV) then (bif (decide ((rd v5 (0+v7.toNat)).b =Int.ofNat 0)) then (.to (.h2 v5 v6 (wrap .i64 (v7+1)) (wrap .i64 (aC+(rd v5 (0+v7.toNat)).c)) bM (rd v5 (0+v7.toNat)).a ((cV q) (decide ((wrap .i64 (aC+(rd v5 (0+v7.toNat)).c))>0)) (decide (bM>0))) (aA.set (0+(Int.toNat (wrap .i64 ((aA.length:Int) - 1)))) (R2.mk (rd aA (0+(Int.toNat (wrap .i64 ((aA.length:Int) - 1))))).a (rd v5 (0+v7.toNat)).a)))) else (bif (decide ((rd v5 (0+v7.toNat)).b =Int.ofNat 1)) then (.to (.h2 v5 v6 (wrap .i64 (v7+1)) aC (wrap .i64 (bM+(rd v5 (0+v7.toNat)).c)) (rd v5 (0+v7.toNat)).a ((cV q) (decide (aC>0)) (decide ((wrap .i64 (bM+(rd v5 (0+v7.toNat)).c))>0))) (aA.set (0+(Int.toNat (wrap .i64 ((aA.length:Int) - 1)))) (R2.mk (rd aA (0+(Int.toNat (wrap .i64 ((aA.length:Int) - 1))))).a (rd v5 (0+v7.toNat)).a)))) else .stuck)) else (bif (Nat.beq 2 2&&((decide (0+aA.length=aA.length))&&decide ((aA.length+1+1)*(16+1)≤Jh))) then (bif (decide ((rd v5 (0+v7.toNat)).b =Int.ofNat 0)) then (.to (.h2 v5 v6 (wrap .i64 (v7+1)) (wrap .i64 (aC+(rd v5 (0+v7.toNat)).c)) bM (rd v5 (0+v7.toNat)).a ((cV q) (decide ((wrap .i64 (aC+(rd v5 (0+v7.toNat)).c))>0)) (decide (bM>0))) (aA++[(R2.mk aV (rd v5 (0+v7.toNat)).a)]))) else (bif (decide ((rd v5 (0+v7.toNat)).b =Int.ofNat 1)) then (.to (.h2 v5 v6 (wrap .i64 (v7+1)) aC (wrap .i64 (bM+(rd v5 (0+v7.toNat)).c)) (rd v5 (0+v7.toNat)).a ((cV q) (decide (aC>0)) (decide ((wrap .i64 (bM+(rd v5 (0+v7.toNat)).c))>0))) (aA++[(R2.mk aV (rd v5 (0+v7.toNat)).a)]))) else .stuck)) else .stuck)) else .stuck) else .stuck) else (bif (Nat.beq 2 2&&((decide (0+aA.length=aA.length))&&decide ((aA.length+1+1)*(16+1)≤Jh))) then (bif (decide ((rd v5 (0+v7.toNat)).b =Int.ofNat 0)) then (.to (.h2 v5 v6 (wrap .i64 (v7+1)) (wrap .i64 (aC+(rd v5 (0+v7.toNat)).c)) bM (rd v5 (0+v7.toNat)).a ((cV q) (decide ((wrap .i64 (aC+(rd v5 (0+v7.toNat)).c))>0)) (decide (bM>0))) (aA++[(R2.mk aV (rd v5 (0+v7.toNat)).a)]))) else (bif (decide ((rd v5 (0+v7.toNat)).b =Int.ofNat 1)) then (.to (.h2 v5 v6 (wrap .i64 (v7+1)) aC (wrap .i64 (bM+(rd v5 (0+v7.toNat)).c)) (rd v5 (0+v7.toNat)).a ((cV q) (decide (aC>0)) (decide ((wrap .i64 (bM+(rd v5 (0+v7.toNat)).c))>0))) (aA++[(R2.mk aV (rd v5 (0+v7.toNat)).a)]))) else .stuck)) else .stuck)))) else .stuck) else .stuck) else (bif (decide ((aA.length:Int)>400)) then (.ret [.nils,(.int .i64 4)]) else (.ret [(.dat aA.length (Zz aA)),(.int .i64 0)])))
def y4b (q:Op) (l0:List R2) (l1:List R2):Xu spjS:=(bif (z5d (cvT l0)) then (bif ((x0s (cvT l0)) != 0) then (.ret [.nils,(.int .i64 (x0s (cvT l0)))]) else (bif (z5d (cvT l1)) then (bif ((x0s (cvT l1)) != 0) then (.ret [.nils,(.int .i64 (x0s (cvT l1)))]) else (.to (.h0 ([]:List R3) 0))) else .stuck)) else .stuck)
theorem w8e (q:Op) (l0:List R2) (l1:List R2): ∀s,Xq prog (Zy prog (nSp q)) (spjC q l0 l1) (spjC q l0 l1 s) (Wb q l0 l1 s):=by cases q <;> refine (?f: ∀q:Op,∀s,Xq prog (Zy prog (nSp q)) (spjC q l0 l1) (spjC q l0 l1 s) (Wb q l0 l1 s)) _ <;> exact fun q=>fun
 | .h0 v3 v17=>(lb (fun k0=>(lo fun o0=>(lo fun o1=>(sl z3h 36 [] ⟨[0,1,2,3,4,5,6,10],[],spjN0,spjM0⟩ ⟨[(3,.len (x0c v3 l0 v17).length)],(kpB 7 [.rowed 3 (x0c v3 l0 v17).length (Zz (x0c v3 l0 v17))]),[]⟩ [true] (pp (xL (v3.length+2) (x0c v3 l0 v17).length) (pp (xL (v3.length+2) (x0c v3 l0 v17).length) (pp (xS (v3.length+2) (Zr (Zz v3) 0 v3.length 3 [(ii (rd l0 (tn v17)).a),(ii 0),(ii 1),(ii (rd l0 (tn v17)).b),(ii 0),(ii (-1))]) (Zz (x0c v3 l0 v17))) (pp (pp (xF (Zr (Zz v3) 0 v3.length 3 [(ii (rd l0 (tn v17)).a),(ii 0),(ii 1),(ii (rd l0 (tn v17)).b),(ii 0),(ii (-1))])) nn) (ww o1 (ww o0 (tt k0 nn))))))))))) (fun k0=>(sl z3h 38 [] ⟨(List.range 8),[],spjN1,spjM1⟩ ⟨[],[],[]⟩ (bl 2 2) (pp (fl v3 nn) (tt k0 nn)))))
 | .h1 v3 v17=>(lb (fun k0=>(lo fun o0=>(lo fun o1=>(sl z3h 36 [] ⟨[0,1,2,3,4,5,6,10],[],spjN1,spjM1⟩ ⟨[(3,.len (x0b v3 l1 v17).length)],(kpB 7 [.rowed 3 (x0b v3 l1 v17).length (Zz (x0b v3 l1 v17))]),[]⟩ [true] (pp (xL (v3.length+2) (x0b v3 l1 v17).length) (pp (xL (v3.length+2) (x0b v3 l1 v17).length) (pp (xS (v3.length+2) (Zr (Zz v3) 0 v3.length 3 [(ii (rd l1 (tn v17)).a),(ii 1),(ii 1),(ii (rd l1 (tn v17)).b),(ii 1),(ii (-1))]) (Zz (x0b v3 l1 v17))) (pp (pp (xF (Zr (Zz v3) 0 v3.length 3 [(ii (rd l1 (tn v17)).a),(ii 1),(ii 1),(ii (rd l1 (tn v17)).b),(ii 1),(ii (-1))])) nn) (ww o1 (ww o0 (tt k0 nn))))))))))) (fun k0=>(lo fun o0=>(lo fun o1=>(lo fun o2=>(sl z3h 54 [(176,2,Zz ([]:List R2))] ⟨[9,1,2,4,5,6,3,7,10],[],y6l,y6m⟩ ⟨[(5,.len (z1x (cvT v3)).length)],(kpB 6 [.cells [.grow 8 2],.rowed 3 (z1x (cvT v3)).length (Zz (z1x (cvT v3))),.keep]),[]⟩ (bl 2 0) (pp (xL v3.length (z1x (cvT v3)).length (by first | exact z9t _ | exact Uz rfl)) (pp (xL v3.length (z1x (cvT v3)).length (by first | exact z9t _ | exact Uz rfl)) (pp (xS v3.length (Zz (z1x (cvT v3))) (Zz (z1x (cvT v3)))) (pp (fl (z1x (cvT v3)) (fl ([]:List R2) nn)) (pp (pp (xG (Nat.beq 3 3)) (pp (xG (Nat.beq 3 3)) (pp (xG (Nat.beq 0 0)) (pp (pp (xG (decide (v3.length=v3.length))) (pp (xr v3) (xG (decide (v3.length<4611686018427387904))))) (xG (y3l (cvT v3))))))) (tt k0 nn))))))))))))
 | .h2 v5 v6 v7 aC bM aV aI aA=>(lb (fun k0=>(lo fun aH=>(lo fun aY=>(lb (fun k1=>(lb (fun k2=>(sl z3h 62 [] ⟨(List.range 9),[],y6l,y6m⟩ ⟨[],[],[]⟩ (trs 5 (bl 3 0)) (pp (fl v5 (fl aA nn)) (ww k2 (tt k1 (ww aY (ww aH (tt k0 nn)))))))) (fun k2=>(lb (fun k3=>(sl z3h 62 [] ⟨(List.range 9),[],y6l,y6m⟩ ⟨[],[],[]⟩ (trs 6 (bl 4 2)) (pp (fl v5 (fl aA nn)) (ww k3 (tt k1 (ww aY (ww aH (tt k0 nn)))))))) (fun k3=>trivial))))) (fun k1=>(lb (fun k2=>(lb (fun k3=>(sl z3h 62 [] ⟨(List.range 9),[],y6l,y6m⟩ ⟨[],[],[]⟩ (bl 8 17) (pp (fl v5 (fl aA nn)) (ww k3 (tt k2 (tt k1 (ww aY (ww aH (tt k0 nn))))))))) (fun k3=>(lb (fun k4=>(sl z3h 62 [] ⟨(List.range 9),[],y6l,y6m⟩ ⟨[],[],[]⟩ (bl 10 177) (pp (fl v5 (fl aA nn)) (ww k4 (tt k2 (tt k1 (ww aY (ww aH (tt k0 nn))))))))) (fun k4=>trivial))))) (fun k2=>(lb (fun k3=>(lo fun bZ=>(lo fun dH=>(lb (fun k4=>(lb (fun k5=>(sl z3h 81 [] ⟨(List.range 9),[],y6l,y6m⟩ ⟨[],(kpB 6 [.cells [.len (aA.set (0+(tn (wr ((aA.length:Int) - 1)))) (R2.mk (rd aA (0+(tn (wr ((aA.length:Int) - 1))))).a (rd v5 (0+(tn v7))).a)).length],.keep,.rowed 2 (aA.set (0+(tn (wr ((aA.length:Int) - 1)))) (R2.mk (rd aA (0+(tn (wr ((aA.length:Int) - 1))))).a (rd v5 (0+(tn v7))).a)).length (Zz (aA.set (0+(tn (wr ((aA.length:Int) - 1)))) (R2.mk (rd aA (0+(tn (wr ((aA.length:Int) - 1))))).a (rd v5 (0+(tn v7))).a)))]),[]⟩ (bl 17 16353) (pp (xL aA.length (aA.set (0+(tn (wr ((aA.length:Int) - 1)))) (R2.mk (rd aA (0+(tn (wr ((aA.length:Int) - 1))))).a (rd v5 (0+(tn v7))).a)).length) (pp (xL aA.length (aA.set (0+(tn (wr ((aA.length:Int) - 1)))) (R2.mk (rd aA (0+(tn (wr ((aA.length:Int) - 1))))).a (rd v5 (0+(tn v7))).a)).length) (pp (xS aA.length (Xr (Zz aA) (0+(tn (wr ((aA.length:Int) - 1)))) 1 [(ii (rd v5 (0+(tn v7))).a)]) (Zz (aA.set (0+(tn (wr ((aA.length:Int) - 1)))) (R2.mk (rd aA (0+(tn (wr ((aA.length:Int) - 1))))).a (rd v5 (0+(tn v7))).a)))) (pp (fl v5 (pp (xF (Xr (Zz aA) (0+(tn (wr ((aA.length:Int) - 1)))) 1 [(ii (rd v5 (0+(tn v7))).a)])) nn)) (ww k5 (ww dH (ww bZ (tt k4 (ww dH (ww bZ (tt k3 (tt k2 (tt k1 (ww aY (ww aH (tt k0 nn)))))))))))))))))) (fun k5=>(lb (fun k6=>(sl z3h 81 [] ⟨(List.range 9),[],y6l,y6m⟩ ⟨[],(kpB 6 [.cells [.len (aA.set (0+(tn (wr ((aA.length:Int) - 1)))) (R2.mk (rd aA (0+(tn (wr ((aA.length:Int) - 1))))).a (rd v5 (0+(tn v7))).a)).length],.keep,.rowed 2 (aA.set (0+(tn (wr ((aA.length:Int) - 1)))) (R2.mk (rd aA (0+(tn (wr ((aA.length:Int) - 1))))).a (rd v5 (0+(tn v7))).a)).length (Zz (aA.set (0+(tn (wr ((aA.length:Int) - 1)))) (R2.mk (rd aA (0+(tn (wr ((aA.length:Int) - 1))))).a (rd v5 (0+(tn v7))).a)))]),[]⟩ (bl 19 98273) (pp (xL aA.length (aA.set (0+(tn (wr ((aA.length:Int) - 1)))) (R2.mk (rd aA (0+(tn (wr ((aA.length:Int) - 1))))).a (rd v5 (0+(tn v7))).a)).length) (pp (xL aA.length (aA.set (0+(tn (wr ((aA.length:Int) - 1)))) (R2.mk (rd aA (0+(tn (wr ((aA.length:Int) - 1))))).a (rd v5 (0+(tn v7))).a)).length) (pp (xS aA.length (Xr (Zz aA) (0+(tn (wr ((aA.length:Int) - 1)))) 1 [(ii (rd v5 (0+(tn v7))).a)]) (Zz (aA.set (0+(tn (wr ((aA.length:Int) - 1)))) (R2.mk (rd aA (0+(tn (wr ((aA.length:Int) - 1))))).a (rd v5 (0+(tn v7))).a)))) (pp (fl v5 (pp (xF (Xr (Zz aA) (0+(tn (wr ((aA.length:Int) - 1)))) 1 [(ii (rd v5 (0+(tn v7))).a)])) nn)) (ww k6 (ww dH (ww bZ (tt k4 (ww dH (ww bZ (tt k3 (tt k2 (tt k1 (ww aY (ww aH (tt k0 nn)))))))))))))))))) (fun k6=>trivial))))) (fun k4=>(lo fun cZ=>(lb (fun k5=>(sl z3h 81 [] ⟨[0,1,2,3,4,5,6,7,12],[],y6l,y6m⟩ ⟨[],(kpB 6 [.cells [.len (Ui aA aV v5 v7).length],.keep,.rowed 2 (Ui aA aV v5 v7).length (Zz (Ui aA aV v5 v7))]),[]⟩ (bl 17 8161) (pp (xL (aA.length+1) (Ui aA aV v5 v7).length) (pp (xL (aA.length+1) (Ui aA aV v5 v7).length) (pp (xS (aA.length+1) (y2v aA aV v5 v7) (Zz (Ui aA aV v5 v7))) (pp (fl v5 (pp (xF (y2v aA aV v5 v7)) nn)) (ww k5 (ww cZ (tt k4 (ww dH (ww bZ (tt k3 (tt k2 (tt k1 (ww aY (ww aH (tt k0 nn))))))))))))))))) (fun k5=>(lb (fun k6=>(sl z3h 81 [] ⟨[0,1,2,3,4,5,6,7,12],[],y6l,y6m⟩ ⟨[],(kpB 6 [.cells [.len (Ui aA aV v5 v7).length],.keep,.rowed 2 (Ui aA aV v5 v7).length (Zz (Ui aA aV v5 v7))]),[]⟩ (bl 19 90081) (pp (xL (aA.length+1) (Ui aA aV v5 v7).length) (pp (xL (aA.length+1) (Ui aA aV v5 v7).length) (pp (xS (aA.length+1) (y2v aA aV v5 v7) (Zz (Ui aA aV v5 v7))) (pp (fl v5 (pp (xF (y2v aA aV v5 v7)) nn)) (ww k6 (ww cZ (tt k4 (ww dH (ww bZ (tt k3 (tt k2 (tt k1 (ww aY (ww aH (tt k0 nn))))))))))))))))) (fun k6=>trivial)))))))))) (fun k3=>(lo fun bZ=>(lb (fun k4=>(sl z3h 81 [] ⟨[0,1,2,3,4,5,6,7,12],[],y6l,y6m⟩ ⟨[],(kpB 6 [.cells [.len (Ui aA aV v5 v7).length],.keep,.rowed 2 (Ui aA aV v5 v7).length (Zz (Ui aA aV v5 v7))]),[]⟩ (bl 17 1) (pp (xL (aA.length+1) (Ui aA aV v5 v7).length) (pp (xL (aA.length+1) (Ui aA aV v5 v7).length) (pp (xS (aA.length+1) (y2v aA aV v5 v7) (Zz (Ui aA aV v5 v7))) (pp (fl v5 (pp (xF (y2v aA aV v5 v7)) nn)) (ww k4 (ww bZ (tt k3 (tt k2 (tt k1 (ww aY (ww aH (tt k0 nn)))))))))))))) (fun k4=>(lb (fun k5=>(sl z3h 81 [] ⟨[0,1,2,3,4,5,6,7,12],[],y6l,y6m⟩ ⟨[],(kpB 6 [.cells [.len (Ui aA aV v5 v7).length],.keep,.rowed 2 (Ui aA aV v5 v7).length (Zz (Ui aA aV v5 v7))]),[]⟩ (bl 19 81921) (pp (xL (aA.length+1) (Ui aA aV v5 v7).length) (pp (xL (aA.length+1) (Ui aA aV v5 v7).length) (pp (xS (aA.length+1) (y2v aA aV v5 v7) (Zz (Ui aA aV v5 v7))) (pp (fl v5 (pp (xF (y2v aA aV v5 v7)) nn)) (ww k5 (ww bZ (tt k3 (tt k2 (tt k1 (ww aY (ww aH (tt k0 nn)))))))))))))) (fun k5=>trivial)))))))))))))) (fun k0=>(lb (fun k1=>(lr 11 3 [1,1,1,1,0] 1 16 [(4,.nils),(5,(ii 4))] (sl z3h 37 [] ⟨[],[],[some [4,5]],[]⟩ ⟨[],[],[]⟩ (bl 2 2) (tt k1 (tt k0 nn))))) (fun k1=>(lr 11 3 [1,1,1,1,0] 1 16 [(4,(.dat aA.length (Zz aA))),(5,(ii 0))] (sl z3h 39 [] ⟨[],[8],[some [4,5]],[]⟩ ⟨[(4,.frz aA.length aA.length (Zz aA) (Zz aA))],[],[]⟩ (bl 2 0) (pp (xZ (z5q 2 2 0 aA.length aA.length (Zz aA)) aA.length (Zz aA)) (pp (xL aA.length aA.length) (pp (xS aA.length (Zz aA) (Zz aA)) (pp (fl aA nn) (tt k1 (tt k0 nn))))))))))))
theorem x9i (q:Op) (l0:List R2) (l1:List R2):Xq prog (Zy prog (nSp q)) (spjC q l0 l1) (Zb prog (nSp q) [(.dat l0.length (Zz l0)),(.dat l1.length (Zz l1))] true []) (y4b q l0 l1):=by cases q <;> exact (lo fun bJ=>(lb (fun k0=>(lr 11 3 [1,1,1,1,0] 1 16 [(4,.nils),(5,(ii (x0s (cvT l0))))] (sl z3h 40 [] ⟨[],[],[some [4,5]],[]⟩ ⟨[],[],[]⟩ [true] (tt k0 (pp (pp (xr l0) (xw bJ)) nn))))) (fun k0=>(lo fun aH=>(lb (fun k1=>(lr 11 3 [1,1,1,1,0] 1 16 [(4,.nils),(5,(ii (x0s (cvT l1))))] (sl z3h 54 [] ⟨[],[],[some [4,5]],[]⟩ ⟨[],[],[]⟩ [false,true] (tt k1 (pp (pp (xr l1) (xw aH)) (tt k0 (pp (pp (xr l0) (xw bJ)) nn))))))) (fun k1=>(sl z3h 124 [(227,3,Zz ([]:List R3))] ⟨[6,0,1,2,3,4,5,7],[],spjN0,spjM0⟩ ⟨[(3,.grow 7 3)],[],[]⟩ [false,false,true] (pp (fl ([]:List R3) nn) (tt k1 (pp (pp (xr l1) (xw aH)) (tt k0 (pp (pp (xr l0) (xw bJ)) nn))))))))))))
theorem u0h (q:Op) (l0:List R2) (l1:List R2) (n:Nat) (vs:List AVal) (h:Yy (Wb q l0 l1) n (y4b q l0 l1)=.ret vs):Jx prog (Zy prog (nSp q)) (Zb prog (nSp q) [(.dat l0.length (Zz l0)),(.dat l1.length (Zz l1))] true []) vs:=by have:=Zd (w8e q l0 l1) n _ (x9i q l0 l1);rwa [h] at this
def spE (k:Nat) (a b:List R2):Int:=bif x0s a != 0 then x0s a else bif x0s b != 0 then x0s b else y9l (spJ k a b).length
theorem y3e (i:Int) (l:List R2):(Wm i l).length =2*l.length:=by
 induction l with
 | nil=>rfl
 | cons r l ih=>show (_::_::Wm i l).length =_;simp only [AU,ih];omega
theorem x2f (j:Int) (l:List R2) (i:Nat) (h:i<l.length):Wm j (l.drop i)=Wm j [rd l i]++Wm j (l.drop (i+1)):=by rw [Yg h];rfl
theorem y0e {j:Int} {l:List R2} {e:R3} (h:e∈Wm j l):e.b=j∧(e.c=1∨e.c= -1):=by
 obtain ⟨s,_,h⟩:=AN.1 h;simp only [AI,BC,Cm] at h;rcases h with rfl | rfl
 ·exact ⟨rfl,.inl rfl⟩
 ·exact ⟨rfl,.inr rfl⟩
theorem w4q (f:Bool→Bool→Bool) (e:R3) (r:List R3) (o p last:Int) (inn:Bool) (out:List R2):sw2 f (e::r) o p last inn out=sw2 f r (bif e.b == 0 then o+e.c else o) (bif e.b == 0 then p else p+e.c) e.a (f (decide ((bif e.b == 0 then o+e.c else o)>0)) (decide ((bif e.b == 0 then p else p+e.c)>0))) (Vi out last inn e.a):=rfl
section
variable (q:Op) (a b:List R2)
theorem u6f (L:List R3) (hL:L.length≤2000) (hE: ∀i,i<L.length→((rd L i).b =0∨(rd L i).b =1)∧((rd L i).c =1∨(rd L i).c = -1)): ∀(k i:Nat) (o p last:Int) (inn:Bool) (out:List R2),i+k=L.length→ -(i:Int)≤o→o≤i→ -(i:Int)≤p→p≤i→out.length≤i→
  ∃n,Yy (Wb q a b) n (.to (.h2 L (L.length:Int) (i:Int) o p last inn out))=.ret (z2g (sw2 (opB q.k) (L.drop i) o p last inn out))
 | 0,i,o,p,last,inn,out,h,ho1,ho2,hp1,hp2,hout=>by
  refine ⟨1,?_⟩;rw [Zv,Au (by omega)];unfold z2g;show _=Xu.ret (bif decide ((out.length:Int)>400) then _ else _);rcases Yx (decide ((out.length:Int)>400)) with g | g <;>
  simp (disch:=omega) only [Wb,Zt,g,Ab,Aa,Zp];rfl
 | k + 1,i,o,p,last,inn,out,h,ho1,ho2,hp1,hp2,hout=>by
  obtain ⟨hb,hc⟩:=hE i (by omega);have hcl:=z4d out last inn (rd L i).a;have hcf: ∀x y,cV q x y=opB q.k x y:=fun _ _=>rfl;have hlt:decide ((i:Int)<(L.length:Int))=true:=Ai (by omega);have hw:wrap .i64 (o+(rd L i).c)=o+(rd L i).c :=Zk (by rcases hc with hc | hc <;> omega);have hw':wrap .i64 (p+(rd L i).c)=p+(rd L i).c :=Zk (by rcases hc with hc | hc <;> omega);have key: ∀(o' p':Int) (out':List R2),-((i+1:Nat):Int)≤o'→o'≤((i+1:Nat):Int)→ -((i+1:Nat):Int)≤p'→p'≤((i+1:Nat):Int)→out'=Vi out last inn (rd L i).a →
    Wb q a b (.h2 L (L.length:Int) (i:Int) o p last inn out)=.to (.h2 L (L.length:Int) ((i+1:Nat):Int) o' p' (rd L i).a (opB q.k (decide (o'>0)) (decide (p'>0))) out')→
    sw2 (opB q.k) (L.drop i) o p last inn out=sw2 (opB q.k) (L.drop (i+1)) o' p' (rd L i).a (opB q.k (decide (o'>0)) (decide (p'>0))) out'→
    ∃n,Yy (Wb q a b) n (.to (.h2 L (L.length:Int) (i:Int) o p last inn out))=.ret (z2g (sw2 (opB q.k) (L.drop i) o p last inn out)):=fun o' p' out' b1 b2 b3 b4 eo hs hq=>by
   obtain ⟨n,hn⟩:=u6f L hL hE k (i+1) o' p' (rd L i).a (opB q.k (decide (o'>0)) (decide (p'>0))) out' (by omega) b1 b2 b3 b4 (by rw [eo];omega);refine ⟨n+1,?_⟩;rw [Zv,hs,hq];exact hn
  rcases hb with hb | hb
  ·have hz:decide ((rd L i).b =Int.ofNat 0)=true:=Ai hb;have hb0:((rd L i).b == 0)=true:=by rw [hb];rfl
   refine key (o+(rd L i).c) p (Vi out last inn (rd L i).a) (by rcases hc with hc | hc <;> omega) (by rcases hc with hc | hc <;> omega) (by omega) (by omega) rfl ?_ ?_
   ·unfold Vi;cases inn with
    | false=>simp (disch:=omega) only [Wb,hlt,hz,hw,hw',hcf,Zi,Zf,Yu,Zk,Zx,Zj,Ag,Ah,Ab,Aa,AG]
    | true=>
     rcases Yx (last == (rd L i).a) with g | g
     ·simp (disch:=omega) only [Wb,hlt,hz,hw,hw',hcf,Zi,Zf,Yu,Zk,Zx,Zj,Ag,Ah,Ab,Aa,AE,g]
     ·by_cases h0:0<out.length
      ·rw [Ai h0,Aj];rcases Yx ((rd out (out.length - 1)).b == last) with q2 | q2
       ·simp (disch:=omega) only [Wb,hlt,hz,hw,hw',hcf,Zi,Zf,Yu,Zk,Zx,Zj,Ag,Ah,Ab,Aa,AE,g,q2,Yt,Zn]
       ·simp (disch:=omega) only [Wb,hlt,hz,hw,hw',hcf,Zi,Zf,Yu,Zk,Zx,Zj,Ag,Ah,Ab,Aa,AE,Aj,g,q2,Yt,Zn,Yp,Zh,Yc,Av]
      ·rw [An h0,A5];simp (disch:=omega) only [Wb,hlt,hz,hw,hw',hcf,Zi,Zf,Yu,Zk,Zx,Zj,Ag,Ah,Ab,Aa,AE,Aj,g,Xc,Yp,Zh,Yc,Av]
   ·rw [Yg (show i<L.length by omega),w4q,hb0];rfl
  ·have hz0:decide ((rd L i).b =Int.ofNat 0)=false:=An (by rw [hb];decide);have hz:decide ((rd L i).b =Int.ofNat 1)=true:=Ai hb;have hb0:((rd L i).b == 0)=false:=by rw [hb];rfl
   refine key o (p+(rd L i).c) (Vi out last inn (rd L i).a) (by omega) (by omega) (by rcases hc with hc | hc <;> omega) (by rcases hc with hc | hc <;> omega) rfl ?_ ?_
   ·unfold Vi;cases inn with
    | false=>simp (disch:=omega) only [Wb,hlt,hz0,hz,hw,hw',hcf,Zi,Zf,Yu,Zk,Zx,Zj,Ag,Ah,Ab,Aa,AG]
    | true=>
     rcases Yx (last == (rd L i).a) with g | g
     ·simp (disch:=omega) only [Wb,hlt,hz0,hz,hw,hw',hcf,Zi,Zf,Yu,Zk,Zx,Zj,Ag,Ah,Ab,Aa,AE,g]
     ·by_cases h0:0<out.length
      ·rw [Ai h0,Aj];rcases Yx ((rd out (out.length - 1)).b == last) with q2 | q2
       ·simp (disch:=omega) only [Wb,hlt,hz0,hz,hw,hw',hcf,Zi,Zf,Yu,Zk,Zx,Zj,Ag,Ah,Ab,Aa,AE,g,q2,Yt,Zn]
       ·simp (disch:=omega) only [Wb,hlt,hz0,hz,hw,hw',hcf,Zi,Zf,Yu,Zk,Zx,Zj,Ag,Ah,Ab,Aa,AE,Aj,g,q2,Yt,Zn,Yp,Zh,Yc,Av]
      ·rw [An h0,A5];simp (disch:=omega) only [Wb,hlt,hz0,hz,hw,hw',hcf,Zi,Zf,Yu,Zk,Zx,Zj,Ag,Ah,Ab,Aa,AE,Aj,g,Xc,Yp,Zh,Yc,Av]
   ·rw [Yg (show i<L.length by omega),w4q,hb0];rfl
theorem u6g (ha:a.length≤400) (hb:b.length≤400) (va:a.all z1j=true) (vb:b.all z1j=true): ∀(k i:Nat) (E:List R3),i+k=b.length→E.length=2*a.length+2*i→E++Wm 1 (b.drop i)=Wm 0 a++Wm 1 b→ ∃n,Yy (Wb q a b) n (.to (.h1 E (i:Int)))=.ret (z2g (spJ q.k a b))
 | 0,i,E,h,hl,he=>by
  rw [Au (by omega),show Wm 1 []=[] from rfl,Az] at he;subst he;have hbnd:y3l (Wm 0 a++Wm 1 b)=true:=by have h1:=y0f 0 a va;have h2:=y0f 1 b vb;unfold y3l at*;rw [List.all_append,h1,h2];rfl
  have hsl:=y6h (Wm 0 a++Wm 1 b);obtain ⟨hp,_⟩:=Qh _ hbnd;obtain ⟨n,hn⟩:=u6f q a b (z1x (Wm 0 a++Wm 1 b)) (by rw [hsl];omega) (fun i hi=>by
   have hm:rd (z1x (Wm 0 a++Wm 1 b)) i∈Wm 0 a++Wm 1 b:=hp.mem_iff.1 (by rw [Yi hi];exact AM hi);rcases AF.1 hm with g | g
   ·exact ⟨.inl (y0e g).1,(y0e g).2⟩
   ·exact ⟨.inr (y0e g).1,(y0e g).2⟩) (z1x (Wm 0 a++Wm 1 b)).length 0 0 0 0 false [] (Ag _) (by omega) (by omega) (by omega) (by omega) (AD _)
  refine ⟨n+1,?_⟩;rw [Zv];have step:Wb q a b (.h1 (Wm 0 a++Wm 1 b) (i:Int))=.to (.h2 (z1x (Wm 0 a++Wm 1 b)) (((Wm 0 a++Wm 1 b).length :Nat):Int) 0 0 0 0 false []):=by simp (disch:=omega) only [Wb,Zg,Zt,hbnd,Yu,Av,Ab,Aa]
  rw [step,←hsl];exact hn
 | k+1,i,E,h,hl,he=>by rw [x2f 1 b i (by omega),←AL] at he;obtain ⟨n,hn⟩:=u6g ha hb va vb k (i+1) (E++Wm 1 [rd b i]) (by omega) (by rw [Aw,y3e];simp;omega) he;refine ⟨n+1,?_⟩;rw [Zv];simp (disch:=omega) only [Wb,Yp,Zh,Yc,Av,Aj,Zi,Zf,Yu,Zk,Zx,Zj,Ag,Ah,Ab,Aa];exact hn
theorem u6h (ha:a.length≤400) (hb:b.length≤400) (va:a.all z1j=true) (vb:b.all z1j=true): ∀(k i:Nat) (E:List R3),i+k=a.length→E.length=2*i→E++Wm 0 (a.drop i)=Wm 0 a→ ∃n,Yy (Wb q a b) n (.to (.h0 E (i:Int)))=.ret (z2g (spJ q.k a b))
 | 0,i,E,h,hl,he=>by rw [Au (by omega),show Wm 0 []=[] from rfl,Az] at he;subst he;obtain ⟨n,hn⟩:=u6g q a b ha hb va vb b.length 0 (Wm 0 a) (Ag _) (by omega) (by rw [AX]);refine ⟨n+1,?_⟩;rw [Zv];simp (disch:=omega) only [Wb,Zt,Aa];exact hn
 | k+1,i,E,h,hl,he=>by rw [x2f 0 a i (by omega),←AL] at he;obtain ⟨n,hn⟩:=u6h ha hb va vb k (i+1) (E++Wm 0 [rd a i]) (by omega) (by rw [Aw,y3e];simp;omega) he;refine ⟨n+1,?_⟩;rw [Zv];simp (disch:=omega) only [Wb,Yp,Zh,Yc,Av,Aj,Zi,Zf,Yu,Zk,Zx,Zj,Ag,Ah,Ab,Aa];exact hn
theorem j1w : ∃n,Yy (Wb q a b) n (y4b q a b)=.ret (z6p (spE q.k a b) (spJ q.k a b)):=by
 unfold y4b;have o: ∀l,z5d l=true:=fun _=>rfl;simp only [Zg,o,Ab];rcases Yx (x0s a != 0) with q1 | q1
 ·exact ⟨0,by simp only [spE,q1,Ab,Wx _ q1];rfl⟩
 rcases Yx (x0s b != 0) with q2 | q2
 ·exact ⟨0,by simp only [spE,q1,q2,Ab,Aa,Wx _ q2];rfl⟩
 obtain ⟨a1,a2,_⟩:=(x3f a).1 (by simpa using q1);obtain ⟨b1,b2,_⟩:=(x3f b).1 (by simpa using q2);obtain ⟨n,hn⟩:=u6h q a b a1 b1 a2 b2 a.length 0 [] (Ag _) rfl (by rw [AX,Bc]);refine ⟨n,?_⟩;simp only [spE,q1,q2,Aa,←y8h];exact hn
end
def z4x (q:Op) (a b:List R2):List R2:=z4t (spE q.k a b) (spJ q.k a b)
def w8f (q:Op) (a b:List R2):Int:=spE q.k a b
def x2y (q:Op) (a b:List R2):Bool:=true
def fSp (q:Op):List AVal→Option (AVal×Bool)
 | [a1,a2]=>match asL R2 a1,asL R2 a2 with
  | some (L1,g1,n1),some (L2,g2,n2)=>some (.tup [.dat (z4x q L1 L2).length (Zz (z4x q L1 L2)),.int .i64 (w8f q L1 L2)],isT R2 n1 g1&&(isT R2 n2 g2&&x2y q L1 L2))
  | _,_=>none
 | _=>none
theorem v7n (q:Op) {S:Specs} (hS:Zu prog S):Zu prog (S.with (nSp q) (fSp q)):=by
 refine w3d hS (by cases q <;> kernel_rfl) fun args v h=> ?_;unfold fSp at h;split at h
 ·rename_i a1 a2;split at h
  ·rename_i L1 g1 n1 L2 g2 n2 e1 e2;simp only [Ae,Ad,Ac] at h;obtain ⟨rfl,ho1,ho2,_⟩:=h;obtain ⟨N,hN⟩:=j1w q L1 L2;exact ⟨_,_,(.cons (Yh e1 ho1) (.cons (Yh e2 ho2) .nil)),Kx _ _,u0h q L1 L2 N _ hN,3,z1c _ _⟩
  ·cases h
 ·cases h
def Ub :Specs:=((Ua.with (nSp .u) (fSp .u)).with (nSp .e) (fSp .e)).with (nSp .d) (fSp .d)
theorem y8y :Zu prog Ub:=v7n .d (v7n .e (v7n .u z3h))
inductive rgcS where
 | h0 (v8:Int)
def rgcC (l0:List R4):rgcS→Cfg
 | .h0 v8=>⟨⟨19,0,true⟩,none,(Zc prog 192 [1,0,1,0,0] 0),none,(Zy prog 6),⟨Ya [(0,(.dat l0.length (Zz l0))),(1,(.fn 182 [])),(7,(ii (l0.length:Int))),(8,(ii v8))],Vd [] 0,0,[],true⟩,[⟨⟨9,0,true⟩,(Up prog 181 [1,0] 2),(Zc prog 181 [1,0] 1),none,(Zy prog 6),Ya [(5,(.dat l0.length (Zz l0))),(6,(.fn 182 []))]⟩,⟨⟨23,0,true⟩,(Up prog 157 [1,1,0,0] 1),(Zc prog 157 [1,1,0,0] 1),none,(Zy prog 9),Ya [(0,(.dat l0.length (Zz l0))),(8,(.dat l0.length (Zz l0)))]⟩],.leaf⟩
def rgcN0 :List (Option (List Nat)):=[some [0,1,7,8],some [5,6],some [0,8]]
def rgcM0 :List (Option (List Nat)):=[]
def z3r (l0:List R4):rgcS→Xu rgcS
 | .h0 v8=>(bif (decide (v8<(l0.length:Int))) then (bif ((decide (0≤v8∧v8<(l0.length:Int)))&&true) then (bif (!(j1b (rd l0 v8.toNat).a (rd l0 v8.toNat).b (rd l0 v8.toNat).c (rd l0 v8.toNat).d)) then (bif (decide (v8≥0)) then (.ret [(.int .i64 8)]) else (bif (Qn (cvT l0)) then (bif ((z2d (cvT l0)) != 0) then (.ret [(.int .i64 8)]) else (bif (Wd (cvT (Wp (cvT l0))) (cvT l0)) then (bif (!(Ur (cvT (Wp (cvT l0))) (cvT l0))) then (.ret [(.int .i64 8)]) else (.ret [(.int .i64 0)])) else .stuck)) else .stuck)) else (.to (.h0 (wrap .i64 (v8+1))))) else .stuck) else (bif (Qn (cvT l0)) then (bif ((z2d (cvT l0)) != 0) then (.ret [(.int .i64 8)]) else (bif (Wd (cvT (Wp (cvT l0))) (cvT l0)) then (bif (!(Ur (cvT (Wp (cvT l0))) (cvT l0))) then (.ret [(.int .i64 8)]) else (.ret [(.int .i64 0)])) else .stuck)) else .stuck))
def z9h (l0:List R4):Xu rgcS:=(bif (decide ((l0.length:Int)>400)) then (.ret [(.int .i64 4)]) else (.to (.h0 0)))
theorem w9s (l0:List R4): ∀s,Xq prog (Zy prog 157) (rgcC l0) (rgcC l0 s) (z3r l0 s)
 | .h0 v8=>(lb (fun k0=>(lo fun aH=>(lb (fun k1=>(lb (fun k2=>(lr 23 157 [1,1,0,1,0,0] 1 9 [(2,(ii 8))] (sl y8y 53 [] ⟨[],[],[some [2]],[]⟩ ⟨[],[],[]⟩ (trs 3 []) (tt k2 (tt k1 (ww aH (tt k0 nn))))))) (fun k2=>(lo fun bU=>(lb (fun k3=>(lr 23 157 [1,1,1,0,1,1,0,0] 1 9 [(2,(ii 8))] (sl y8y 77 [] ⟨[],[],[some [2]],[]⟩ ⟨[],[],[]⟩ (bl 8 251) (tt k3 (pp (pp (xr l0) (xw bU)) (tt k2 (tt k1 (ww aH (tt k0 nn))))))))) (fun k3=>(lo fun bZ=>(lb (fun k4=>(lr 23 157 [1,1,1,0,1,1,0,0] 1 9 [(2,(ii 8))] (sl y8y 77 [] ⟨[],[],[some [2]],[]⟩ ⟨[],[],[]⟩ (bl 8 131) (tt k4 (pp (pp (xI R4 (Wp (cvT l0)).length (Zz (Wp (cvT l0)))) (pp (xr l0) (xw bZ))) (tt k3 (pp (pp (xr l0) (xw bU)) (tt k2 (tt k1 (ww aH (tt k0 nn))))))))))) (fun k4=>(lr 23 3 [1,1,1,1,0] 1 9 [(2,(ii 0))] (sl y8y 78 [] ⟨[],[],[some [2]],[]⟩ ⟨[],[],[]⟩ (bl 8 3) (tt k4 (pp (pp (xI R4 (Wp (cvT l0)).length (Zz (Wp (cvT l0)))) (pp (xr l0) (xw bZ))) (tt k3 (pp (pp (xr l0) (xw bU)) (tt k2 (tt k1 (ww aH (tt k0 nn))))))))))))))))))) (fun k1=>(sl y8y 44 [] ⟨[],[],rgcN0,rgcM0⟩ ⟨[],[],[]⟩ (bl 2 1) (tt k1 (ww aH (tt k0 nn)))))))) (fun k0=>(lo fun aH=>(lb (fun k1=>(lr 23 157 [1,1,1,0,1,1,0,0] 1 9 [(2,(ii 8))] (sl y8y 46 [] ⟨[],[],[some [2]],[]⟩ ⟨[],[],[]⟩ (bl 7 124) (tt k1 (pp (pp (xr l0) (xw aH)) (tt k0 nn)))))) (fun k1=>(lo fun bL=>(lb (fun k2=>(lr 23 157 [1,1,1,0,1,1,0,0] 1 9 [(2,(ii 8))] (sl y8y 46 [] ⟨[],[],[some [2]],[]⟩ ⟨[],[],[]⟩ (bl 7 64) (tt k2 (pp (pp (xI R4 (Wp (cvT l0)).length (Zz (Wp (cvT l0)))) (pp (xr l0) (xw bL))) (tt k1 (pp (pp (xr l0) (xw aH)) (tt k0 nn)))))))) (fun k2=>(lr 23 3 [1,1,1,1,0] 1 9 [(2,(ii 0))] (sl y8y 47 [] ⟨[],[],[some [2]],[]⟩ ⟨[],[],[]⟩ (bl 7 0) (tt k2 (pp (pp (xI R4 (Wp (cvT l0)).length (Zz (Wp (cvT l0)))) (pp (xr l0) (xw bL))) (tt k1 (pp (pp (xr l0) (xw aH)) (tt k0 nn)))))))))))))))
theorem w1d (l0:List R4):Xq prog (Zy prog 157) (rgcC l0) (Zb prog 157 [(.dat l0.length (Zz l0))] true []) (z9h l0):=(lb (fun k0=>(lr 23 157 [1,0,1,0,0] 1 9 [(2,(ii 4))] (sl y8y 16 [] ⟨[],[],[some [2]],[]⟩ ⟨[],[],[]⟩ [true] (tt k0 nn)))) (fun k0=>(sl y8y 40 [] ⟨[],[],rgcN0,rgcM0⟩ ⟨[],[],[]⟩ [false] (tt k0 nn))))
theorem u2t (l0:List R4) (n:Nat) (vs:List AVal) (h:Yy (z3r l0) n (z9h l0)=.ret vs):Jx prog (Zy prog 157) (Zb prog 157 [(.dat l0.length (Zz l0))] true []) vs:=by have:=Zd (w9s l0) n _ (w1d l0);rwa [h] at this
def rgcF (l:List R4):Int:=bif z2d l != 0 then 8 else bif Ur (Wp l) l then 0 else 8
def y2y (l:List R4):Int:=bif decide (400<l.length) then 4 else bif l.all Vo then rgcF l else 8
def z5i (l:List R4):Bool:=true
theorem w2a (l:List R4):(Wp l).length ≤400:=by
 unfold Wp j0f z4t y9l;by_cases h:((D4.out l).length :Int)>400
 ·rw [Ai h];exact AD _
 ·rw [An h];show (D4.out l).length ≤400;omega
theorem u8x (l:List R4) (hl:l.length≤400): ∀(k i:Nat),i+k=l.length→(∀s∈l.take i,Vo s=true)→ ∃n,Yy (z3r l) n (.to (.h0 (i:Int)))=.ret (bif l.all Vo then [.int .i64 (rgcF l)] else [.int .i64 8])
 | 0,i,h,ht=>by
  have hv:l.all Vo=true:=At.2 fun s hs=>ht s (by rw [AP (by omega)];exact hs);have w:Qn l=true:=Ai hl;refine ⟨1,?_⟩;rw [Zv,hv,Ab];have w2:Wd (Wp l) l=true:=Ai (by have:=w2a l;omega);unfold rgcF;rcases Yx (z2d l != 0) with q | q
  ·simp (disch:=omega) only [z3r,Zg,w,q,Zt,Ab,Aa,Zp]
  ·rcases Yx (Ur (Wp l) l) with q2 | q2 <;>
   simp (disch:=omega) only [z3r,Zg,w,w2,q,q2,Zt,AE,AG,Ab,Aa,Zp]
 | k+1,i,h,ht=>by
  have hi:i<l.length:=by omega
  have hs:z3r l (.h0 (i:Int))=bif Vo (rd l i) then .to (.h0 ((i+1:Nat):Int)) else .ret [.int .i64 8]:=by have e:j1b (rd l i).a (rd l i).b (rd l i).c (rd l i).d =Vo (rd l i):=rfl;simp (disch:=omega) only [z3r,e,y2h,w6y,v8d,Zf,Zk,Zx,Zj,Ah,Ab,Aa]
  rcases Yx (Vo (rd l i)) with q | q
  ·obtain ⟨n,hn⟩:=u8x l hl k (i+1) (by omega) (fun s hs=>by
    rw [Bg] at hs;have e:l[i]? =some (rd l i):=by rw [Yi hi];exact Ao _
    rw [e] at hs;simp only [Cq,AF,AT] at hs;rcases hs with hs | rfl
    ·exact ht s hs
    ·exact q)
   refine ⟨n+1,?_⟩;rw [Zv,hs,q,Ab];exact hn
  ·have hv:l.all Vo=false:=A4.2 fun e=>by have:=At.1 e (rd l i) (by rw [Yi hi];exact AM hi);rw [this] at q;cases q
   refine ⟨1,?_⟩;rw [Zv,hv,Aa,hs,q,Aa,Zp]
theorem u2s (l:List R4): ∃n,Yy (z3r l) n (z9h l)=.ret (bif decide (400<l.length) then [.int .i64 4] else bif l.all Vo then [.int .i64 (rgcF l)] else [.int .i64 8]):=by
 unfold z9h;by_cases h:400<l.length
 ·refine ⟨0,?_⟩;rw [Ai h,Yt (show (l.length:Int)>400 by omega)];rfl
 ·obtain ⟨n,hn⟩:=u8x l (by omega) l.length 0 (Ag _) (fun s hs=>by simp at hs);refine ⟨n,?_⟩;rw [An h,Xc (show¬(l.length:Int)>400 by omega),Aa,Aa];exact hn
theorem j4m (l:List R4) (h:z5i l=true): ∃n,Yy (z3r l) n (z9h l)=.ret [.int .i64 (y2y l)]:=by obtain ⟨n,hn⟩:=u2s l;refine ⟨n,hn.trans ?_⟩;unfold y2y;cases decide (400<l.length) <;> cases l.all Vo <;> rfl
def fRgc :List AVal→Option (AVal×Bool)
 | [a0]=>match asL R4 a0 with
  | some (L0,g0,n0)=>some (.int .i64 (y2y L0),isT R4 n0 g0&&(z5i L0))
  | _=>none
 | _=>none
theorem j6y {S:Specs} (hS:Zu prog S):Zu prog (S.with w5y fRgc):=by
 refine z0v hS (by kernel_rfl) fun args v h=> ?_;unfold fRgc at h;split at h
 ·rename_i a0;split at h
  ·rename_i L0 g0 n0 e0;simp only [Ae,Ad,Ac] at h;obtain ⟨rfl,ho0,hw⟩:=h;obtain ⟨N,hN⟩:=j4m L0 hw;exact ⟨_,_,(.cons (Yh e0 ho0) .nil),rfl,u2t L0 N _ hN,3,rfl⟩
  ·cases h
 ·cases h
def Uc :Specs:=(Ub.with w5y fRgc)
theorem Qv :Zu prog Uc:=(j6y y8y)
end Go.Am
end
