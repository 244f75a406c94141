/- A part of a proof: several texts in one. -/
import Derived.Test.YtmanggcjimaehaaGreatLf3
set_option maxRecDepth 1000000
set_option maxHeartbeats 8000000
set_option linter.unusedVariables false
set_option linter.unusedSimpArgs false
noncomputable section
namespace Go.Am
open IntKind (wrap)
open Go.Proofs.Tryz
open Go.Proofs Go.Sort Go.Shelf Go.RowKit Go.Lib
theorem x5a {i n:Nat} (h:i<n):decide ((i:Int)<(n:Int))=true:=Ag (by omega)
theorem z8g {σ:Type} (step:σ→Xv σ) (a b:Nat) (s:Xv σ):Zs step (a+b) s=Zs step a (Zs step b s):=by
 induction b generalizing s with
 | zero=>cases s <;> simp [Zs]
 | succ b ih=>cases s with
  | to s=>exact ih (step s)
  | ret vs=>simp only [Zp]
  | stuck=>cases a <;> cases b <;> rfl
theorem x5b {i:Nat}:decide ((i:Int)≥0)=true:=Ag (by omega)
def Qw {α:Type} [Xz α] (out:List α):List AVal:=bif decide ((out.length:Int)>400) then [.nils,.int .i64 4] else [.dat out.length (Zz out),.int .i64 0]
def y4h {α:Type} [Xz α] (e:Int) (L:List α):List AVal:=bif e != 0 then [.nils,.int .i64 e] else [.dat L.length (Zz L),.int .i64 0]
def x4x {α:Type} (e:Int) (L:List α):List α:=bif e != 0 then [] else L
theorem z4t {α:Type} [Xz α] (e:Int) (L:List α) (ρ:Rho) (u:Value) (hu:Yy ρ (Jz (y4h e L)) u):Yy ρ (.tup [.dat (x4x e L).length (Zz (x4x e L)),.int .i64 e]) u:=by
 unfold y4h at hu;unfold x4x;by_cases h:e=0
 ·subst h;exact hu
 ·have h:(e != 0)=true:=by simpa using h
  rw [h] at hu ⊢;exact z3q (.cons (z6k α) (RLe.refl _)) ρ u hu
theorem z9i {α:Type} [Xz α] (e:Int) (L:List α):pf 3 (Jz (y4h e L))=true:=by unfold y4h;cases (e != 0) <;> rfl
def x5d (n:Nat):Int:=bif decide ((n:Int)>400) then 4 else 0
theorem z8t {α:Type} [Xz α] (L:List α):Qw L=y4h (x5d L.length) L:=by unfold Qw y4h x5d;cases decide ((L.length:Int)>400) <;> rfl
theorem z2k {α:Type} [Xz α] {e:Int} (L:List α) (h:(e != 0)=true):y4h e L=[.nils,.int .i64 e]:=by unfold y4h;rw [h];rfl
theorem y7g : ∀(L:List R3) (o last:Int) (inn:Bool) (out:List R2),(swF L o last inn out).length ≤out.length+L.length
 | [],_,_,_,out=>An _
 | e::r,o,last,inn,out=>by rw [y1u];have:=y7g r (o+e.c) e.a (decide (o+e.c>0)) (Vp out last inn e.a);have:=z3a out last inn e.a;simp only [AV];omega
theorem y3t (l:List R3):(z0v l).length =l.length:=by
 by_cases h:y1j l=true
 ·exact (Kr l h).1.length_eq
 ·unfold z0v;rw [dif_neg h]
theorem x6m (l:List R2):(Xb l).length ≤800:=by
 unfold Xb;by_cases h:400<l.length
 ·rw [Ag h];exact AD _
 ·rw [Au h];cases l.all z0u
  ·exact AD _
  ·show (swV l).length ≤800;have h1:=y7g (z0v (Ka l)) 0 0 false [];rw [y3t,z4i] at h1;simp only [Bp] at h1;unfold swV;omega
def Vj (r:R4):Bool:=decide (r.a<r.c)&&(decide (r.b<r.d)&&(decide (r.a≥ -1000000)&&(decide (r.a≤1000000)&&(decide (r.c≥ -1000000)&&(decide (r.c≤1000000)&&(decide (r.b≥ -1000000)&&(decide (r.b≤1000000)&&(decide (r.d≥ -1000000)&&decide (r.d≤1000000)))))))))
def D4 :Dim R4 R2:=⟨R4.a,R4.c,fun r=>⟨r.b,r.d⟩,fun x x' s=>⟨x,s.a,x',s.b⟩,fun x r=>⟨r.a,r.b,x,r.d⟩,Xb,Kd⟩
theorem D4_sec (l:List R4) (x:Int):(D4.sec l x).length ≤1000:=AL (x6m _) (by omega)
section
variable (l:List R4) (hl:l.length≤400)
include hl
theorem u6k (i:Nat) (out:List R4) (last:List R2) (first fin x x':Int): ∀(k j:Nat) (acc:List R2),j+k=l.length→acc.length≤j→
  ∃n,∀N,Zs (Xd l) (N+n) (.to (.h2 (i:Int) (j:Int) out last first fin ((D4.cuts l).length) (Wa (Xu (D4.ends l))) x x' acc))=Zs (Xd l) N (.to (.h2 (i:Int) (l.length:Int) out last first fin ((D4.cuts l).length) (Wa (Xu (D4.ends l))) x x' (acc++D4.inn (l.drop j) x)))
 | 0,j,acc,h,ha=>by refine ⟨0,fun N=> ?_⟩;rw [Ar (by omega),show D4.inn ([]:List R4) x=[] from rfl,AB,A4,show j=l.length by omega]
 | k+1,j,acc,h,ha=>by
  have hj:j<l.length:=by omega
  obtain ⟨n,hn⟩:=u6k i out last first fin x x' k (j+1) (acc++D4.inn [rd l j] x) (by omega) (by have:=D4.inn_length [rd l j] x;simp only [Ay,Br] at*;omega)
  refine ⟨n+1,fun N=> ?_⟩;have e:D4.inn (l.drop j) x=D4.inn [rd l j] x++D4.inn (l.drop (j+1)) x:=by rw [Yx hj,←D4.inn_append];rfl
  rw [e,←AC,Zv,←AH,←hn N];by_cases h1:D4.lo (rd l j)≤x
  ·by_cases h2:x<D4.hi (rd l j)
   ·rw [D4.inn_t _ _ h1 h2];simp only [D4] at h1 h2 ⊢;simp (disch:=omega) only [Xd,Xn,Zm,Zq,Zo,Zr,Yc,Yk,Yp,Zf,Zk,Zx,Yg,Zj,Ah,Av,Ai,Al,Ab,Aa]
   ·rw [D4.inn_f2 _ _ h2,AB];simp only [D4] at h1 h2;simp (disch:=omega) only [Xd,Xn,Yz,Zm,Zq,Zo,Zr,Yc,Yk,Yp,Zf,Zk,Zx,Yg,Zj,Ah,Av,Ai,Al,Ab,Aa]
  ·rw [D4.inn_f1 _ _ h1,AB];simp only [D4] at h1;simp (disch:=omega) only [Xd,w0f,Zm,Zq,Zo,Zr,Yc,Yk,Yp,Zf,Zk,Zx,Yg,Zj,Ah,Av,Ai,Al,Ab,Aa]
theorem u6j (i:Nat) (hi:i≤1000) (x x':Int) (s last:List R2) (first:Int) (inn:List R2) (hs:s.length≤1000): ∀(k j:Nat) (out:List R4),j+k=s.length→out.length≤10000000+j→
  ∃n,∀N,Zs (Xd l) (N+n) (.to (.h3 x x' s (s.length:Int) (j:Int) s (i:Int) out last first ((D4.cuts l).length) (Wa (Xu (D4.ends l))) inn))=Zs (Xd l) N (.to (.h1 ((i+1:Nat):Int) (out++(s.drop j).map (D4.put x x')) last first x' ((D4.cuts l).length) (Wa (Xu (D4.ends l)))))
 | 0,j,out,h,ho=>by have _u:=hl;refine ⟨1,fun N=> ?_⟩;rw [Ar (by omega),Zv];simp (disch:=omega) only [Xd,Yz,Zk,Zx,Aa,A5,AB]
 | k+1,j,out,h,ho=>by
  obtain ⟨n,hn⟩:=u6j i hi x x' s last first inn hs k (j+1) (out++[D4.put x x' (rd s j)]) (by omega) (by simp;omega)
  refine ⟨n+1,fun N=> ?_⟩;have:=hn N;rw [Yx (show j<s.length by omega),AW,←AC,Zv];simp (disch:=omega) only [Xd,Zm,Zq,Zo,Zr,Yc,Yk,Yp,Zf,Zk,Zx,Yg,Zj,Ah,Av,Ai,Al,Ab,Aa];rw [AH] at this;exact this
theorem u6i (i:Nat) (hi:i≤1000) (x x' fin:Int) (s last:List R2) (first:Int) (inn:List R2): ∀(k j:Nat) (out:List R4),j+k=out.length→out.length≤10000000→
  ∃n,∀N,Zs (Xd l) (N+n) (.to (.h4 x' (j:Int) x s (i:Int) out last first fin ((D4.cuts l).length) (Wa (Xu (D4.ends l))) inn))=Zs (Xd l) N (.to (.h1 ((i+1:Nat):Int) (D4.grow out j x') last first x' ((D4.cuts l).length) (Wa (Xu (D4.ends l)))))
 | 0,j,out,h,ho=>by have _u:=hl;refine ⟨1,fun N=> ?_⟩;rw [D4.grow_nil _ _ _ (by omega),Zv];simp (disch:=omega) only [Xd,Yz,Zk,Zx,Aa]
 | k+1,j,out,h,ho=>by
  obtain ⟨n,hn⟩:=u6i i hi x x' fin s last first inn k (j+1) (out.set j (D4.ext x' (rd out j))) (by simp;omega) (by simpa using ho)
  refine ⟨n+1,fun N=> ?_⟩;have:=hn N;rw [D4.grow_set out j _ (by omega)] at this;rw [←AC,Zv];simp (disch:=omega) only [Xd,Zm,Zq,Zo,Zr,Yc,Yk,Yp,Zf,Zk,Zx,Yg,Zj,Ah,Av,Ai,Al,Ab,Aa];exact this
theorem v3b : ∀(k i:Nat) (s:Sw R4 R2),k=(D4.cuts l).length - 1 - i→i≤(D4.cuts l).length →s.out.length≤i*1000→s.last.length≤1000→s.first≤s.out.length→
  ∃n,Zs (Xd l) n (.to (.h1 ((i+1:Nat):Int) s.out s.last (s.first:Int) s.fin ((D4.cuts l).length) (Wa (Xu (D4.ends l)))))=.ret (Qw (D4.go l k i s).out)
 | 0,i,s,h,hi,ho,hla,hf=>by
  have hc:=D4.cuts_length l;refine ⟨1,?_⟩;rw [Zv,show D4.go l 0 i s=s from rfl];unfold Qw;by_cases q:(s.out.length:Int)>400
  ·simp (disch:=omega) only [Xd,Yz,Yn,Ab,Aa,Zp]
  ·simp (disch:=omega) only [Xd,Yz,Xm,Ab,Aa,Zp]
 | k +1,i,s,h,hi,ho,hla,hf=>by
  have hc:=D4.cuts_length l;have hi1:i+1<(D4.cuts l).length :=by omega
  have hpl:(Wa (Xu (D4.ends l))).length =2*l.length:=by rw [Ug,Xf,D4.ends_length]
  have r0:rd (Wa (Xu (D4.ends l))) i=rd (D4.cuts l) i:=z4b _ _ (by show i<(D4.cuts l).length;omega);have r1:rd (Wa (Xu (D4.ends l))) (i+1)=rd (D4.cuts l) (i+1):=z4b _ _ (by show i+1<(D4.cuts l).length;omega);have hbig:i*1000≤1000*1000:=AK _ (by omega);have hsl:=D4_sec l (rd (D4.cuts l) i);have hsd:D4.sec l (rd (D4.cuts l) i)=Xb (D4.inn l (rd (D4.cuts l) i)):=rfl;obtain ⟨n3,h3⟩:=u6k l hl (i+1) s.out s.last (s.first:Int) s.fin (rd (D4.cuts l) i) (rd (D4.cuts l) (i+1)) l.length 0 [] (Ah _) (An _);simp only [AX,Bg,Kb] at h3;have w1:y3u (D4.inn l (rd (D4.cuts l) i))=true:=rfl;have w2:Va s.last (Xb (D4.inn l (rd (D4.cuts l) i)))=true:=Ag (by omega);have ol:=D4.one_length l (rd (D4.cuts l) i) (rd (D4.cuts l) (i+1)) s;have st0: ∀N,Zs (Xd l) (N+n3+1) (.to (.h1 ((i+1:Nat):Int) s.out s.last (s.first:Int) s.fin ((D4.cuts l).length) (Wa (Xu (D4.ends l)))))=Zs (Xd l) N (.to (.h2 ((i+1:Nat):Int) (l.length:Int) s.out s.last (s.first:Int) s.fin ((D4.cuts l).length) (Wa (Xu (D4.ends l))) (rd (D4.cuts l) i) (rd (D4.cuts l) (i+1)) (D4.inn l (rd (D4.cuts l) i)))):=fun N=>by
   rw [←h3 N,Zv];have e1:wrap .i64 (((i+1:Nat):Int) - 1)=(i:Int):=by rw [Zt];exact Zk (by omega)
   simp (disch:=omega) only [Xd,e1,r0,r1,Zm,Zq,Zo,Zr,Yc,Yk,Yp,Zf,Zk,Zx,Yg,Zj,Ah,Av,Ai,Al,Ab,Aa]
  rcases Ym (decide (0<(D4.sec l (rd (D4.cuts l) i)).length)&&((s.fin == rd (D4.cuts l) i)&&D4.same s.last (D4.sec l (rd (D4.cuts l) i)))) with q | q
  ·obtain ⟨n5,h5⟩:=u6i l hl (i+1) (by omega) (rd (D4.cuts l) i) (rd (D4.cuts l) (i+1)) s.fin (D4.sec l (rd (D4.cuts l) i)) s.last (s.first:Int) (D4.inn l (rd (D4.cuts l) i)) (s.out.length - s.first) s.first s.out (by omega) (by omega)
   have e:D4.one l (rd (D4.cuts l) i) (rd (D4.cuts l) (i+1)) s=⟨D4.grow s.out s.first (rd (D4.cuts l) (i+1)),s.last,s.first,rd (D4.cuts l) (i+1)⟩:=by unfold Dim.one;rw [q];rfl
   obtain ⟨n0,h0⟩:=v3b k (i+1) (D4.one l (rd (D4.cuts l) i) (rd (D4.cuts l) (i+1)) s) (by omega) (by omega) (by omega) (by rw [e];exact hla) (by rw [e];simpa [Dim.grow_length] using hf);refine ⟨n0+n5+1+n3+1,?_⟩;rw [st0 (n0+n5+1),Zv];simp only [Ac,At] at q;obtain ⟨q1,q2,q3⟩:=q;have q3':Kd s.last (Xb (D4.inn l (rd (D4.cuts l) i)))=true:=q3;rw [hsd] at q1;simp (disch:=omega) only [Xd,Zm,Zq,Yz,Yn,q2,q3',w1,w2,Ab,Aa];rw [←hsd,h5 n0];simp only [Dim.go];rw [e] at h0 ⊢;exact h0
  ·obtain ⟨n4,h4⟩:=u6j l hl (i+1) (by omega) (rd (D4.cuts l) i) (rd (D4.cuts l) (i+1)) (D4.sec l (rd (D4.cuts l) i)) (D4.sec l (rd (D4.cuts l) i)) (s.out.length:Int) (D4.inn l (rd (D4.cuts l) i)) hsl (D4.sec l (rd (D4.cuts l) i)).length 0 s.out (Ah _) (by omega);simp only [AX,Kb] at h4;have e:D4.one l (rd (D4.cuts l) i) (rd (D4.cuts l) (i+1)) s=⟨s.out++(D4.sec l (rd (D4.cuts l) i)).map (D4.put (rd (D4.cuts l) i) (rd (D4.cuts l) (i+1))),D4.sec l (rd (D4.cuts l) i),s.out.length,rd (D4.cuts l) (i+1)⟩:=by unfold Dim.one;rw [q];rfl
   obtain ⟨n0,h0⟩:=v3b k (i+1) (D4.one l (rd (D4.cuts l) i) (rd (D4.cuts l) (i+1)) s) (by omega) (by omega) (by omega) (by rw [e];exact hsl) (by rw [e];simp);have hg:Zs (Xd l) 1 (.to (.h2 ((i+1:Nat):Int) (l.length:Int) s.out s.last (s.first:Int) s.fin ((D4.cuts l).length) (Wa (Xu (D4.ends l))) (rd (D4.cuts l) i) (rd (D4.cuts l) (i+1)) (D4.inn l (rd (D4.cuts l) i))))=.to (.h3 (rd (D4.cuts l) i) (rd (D4.cuts l) (i+1)) (D4.sec l (rd (D4.cuts l) i)) ((D4.sec l (rd (D4.cuts l) i)).length :Int) 0 (D4.sec l (rd (D4.cuts l) i)) ((i+1:Nat):Int) s.out (D4.sec l (rd (D4.cuts l) i)) (s.out.length:Int) ((D4.cuts l).length) (Wa (Xu (D4.ends l))) (D4.inn l (rd (D4.cuts l) i))):=by
    rw [show (1:Nat)=0+1 from rfl,Zv];rw [hsd] at q ⊢;have e3:D4.same s.last (Xb (D4.inn l (rd (D4.cuts l) i)))=Kd s.last (Xb (D4.inn l (rd (D4.cuts l) i))):=rfl;rw [e3] at q;by_cases q1:0<(Xb (D4.inn l (rd (D4.cuts l) i))).length
    ·rw [Ag q1,Al] at q;rcases Ym (s.fin == rd (D4.cuts l) i) with q2 | q2
     ·rw [q2,Al] at q;simp (disch:=omega) only [Xd,Zm,Zq,Yz,Yn,q2,q,w1,w2,Ab,Aa];rfl
     ·simp (disch:=omega) only [Xd,Zm,Zq,Yz,Yn,q2,w1,w2,Ab,Aa];rfl
    ·simp (disch:=omega) only [Xd,Zm,Zq,Yz,Xm,w1,w2,Ab,Aa];rfl
   refine ⟨n0+n4+1+n3+1,?_⟩;rw [st0 (n0+n4+1),z8g _ (n0+n4) 1,hg,h4 n0];simp only [Dim.go];rw [e] at h0 ⊢;exact h0
theorem u6l : ∀(k i:Nat) (acc:List Int),i+k=l.length→acc=D4.ends (l.take i)→ ∃n,Zs (Xd l) n (.to (.h0 (i:Int) acc))=.ret (Qw (D4.go l ((D4.cuts l).length - 1) 0 ⟨[],[],0,0⟩).out)
 | 0,i,acc,h,ha=>by
  have e:acc=D4.ends l:=by rw [ha,AQ (by omega)]
  subst e;have hle:=D4.ends_length l;obtain ⟨n,hn⟩:=v3b l hl ((D4.cuts l).length - 1) 0 ⟨[],[],0,0⟩ (by omega) (AD _) (AD _) (AD _) (AD _);refine ⟨n+1,?_⟩;rw [Zv];simp (disch:=omega) only [Xd,Xr,z0c,z9z,Yz,Yk,Yp,Av,Ab,Aa];exact hn
 | k+1,i,acc,h,ha=>by
  have hle:=D4.ends_length (l.take i);have eX:acc.length≤2*i:=by rw [ha,hle];simp;omega
  obtain ⟨n,hn⟩:=u6l k (i+1) (acc++D4.ends [rd l i]) (by omega) (by
   rw [ha,Ba];have:l[i]? =some (rd l i):=by rw [Yo (show i<l.length by omega)];exact Aq _
   rw [this,D4.ends_append];rfl)
  refine ⟨n+1,?_⟩;rw [Zv];simp (disch:=omega) only [Xd,Zm,Zq,Zo,Zr,Yc,Yk,Yp,Zf,Zk,Zx,Yg,Zj,Ah,Av,Ai,Al,Ab,Aa];exact hn
end
def u6o (l:List R4):Int:=x5d (D4.out l).length
def Wv (l:List R4):List R4:=x4x (u6o l) (D4.out l)
def z1a (l:List R4):Int:=u6o l
def Qy (l:List R4):Bool:=decide (l.length≤400)
theorem j1a (l:List R4) (h:Qy l=true): ∃n,Zs (Xd l) n (x1e l)=.ret (y4h (u6o l) (D4.out l)):=by rw [show y4h (u6o l) (D4.out l)=Qw (D4.out l) from (z8t _).symm];exact u6l l (AA h) l.length 0 [] (Ah _) rfl
def u7l (a b c d:Int):Bool:=Vj ⟨a,b,c,d⟩
theorem u7k (a b c d:Int): ∃N,Zs (x6c a b c d) N (y1s a b c d)=.ret [.bool (u7l a b c d)]:=⟨0,by
 unfold y1s u7l Vj;simp only [y0b];cases decide (a<c) <;> cases decide (b<d) <;> cases decide (a≥ -1000000) <;> cases decide (a≤1000000) <;> cases decide (c≥ -1000000) <;> cases decide (c≤1000000) <;> cases decide (b≥ -1000000) <;> cases decide (b≤1000000) <;> cases decide (d≥ -1000000) <;> rfl⟩
def fVl4 :List AVal→Option (AVal×Bool)
 | [.agg [.int .i64 aU,.int .i64 aV,.int .i64 aW,.int .i64 bQ]]=>some (.bool (u7l aU aV aW bQ),true)
 | _=>none
theorem j1u {S:Specs} (hS:Zu prog S):Zu prog (S.with w2p fVl4):=by
 refine z0o hS (by kernel_rfl) fun args v h=> ?_;unfold fVl4 at h;split at h
 ·rename_i aU aV aW bQ;simp only [Ae,Ad,Cp] at h;subst h;obtain ⟨N,hN⟩:=u7k aU aV aW bQ;exact ⟨_,_,(.cons (.refl _) .nil),rfl,v6c aU aV aW bQ N _ hN,3,rfl⟩
 ·cases h
def fMad :List AVal→Option (AVal×Bool)
 | [a0]=>match asL R4 a0 with
  | some (L0,g0,n0)=>some (.tup [.dat (Wv L0).length (Zz (Wv L0)),.int .i64 (z1a L0)],isT R4 n0 g0&&(Qy L0))
  | _=>none
 | _=>none
theorem j2w {S:Specs} (hS:Zu prog S):Zu prog (S.with v2h fMad):=by
 refine w8s hS (by kernel_rfl) fun args v h=> ?_;unfold fMad at h;split at h
 ·rename_i a0;split at h
  ·rename_i L0 g0 n0 e0;simp only [Ae,Ad,Ac] at h;obtain ⟨rfl,ho0,hw⟩:=h;obtain ⟨N,hN⟩:=j1a L0 hw;exact ⟨_,_,(.cons (asL_le e0 ho0) .nil),z4t _ _,v9v L0 N _ hN,3,z9i _ _⟩
  ·cases h
 ·cases h
def T6v :Specs:=(T6.with w2p fVl4)
theorem T6v_ok :Zu prog T6v:=(j1u Kg)
def T6m :Specs:=(T6v.with v2h fMad)
theorem y6m :Zu prog T6m:=(j2w T6v_ok)
inductive rgmS where
 | h0 (v8:Int)
def rgmC (l0:List R4):rgmS→Cfg
 | .h0 v8=>⟨⟨19,0,true⟩,none,(Zb prog 154 [1,0,1,0,0] 0),none,(Zy prog 5),⟨Ya [(0,(.dat l0.length (Zz l0))),(1,(.fn 119 [])),(7,(ii (l0.length:Int))),(8,(ii v8))],Wr [] 0,0,[],true⟩,[⟨⟨9,0,true⟩,(Ur prog 118 [1,0] 2),(Zb prog 118 [1,0] 1),none,(Zy prog 5),Ya [(5,(.dat l0.length (Zz l0))),(6,(.fn 119 []))]⟩,⟨⟨13,0,true⟩,(Ur prog 65 [1,1,0,0] 1),(Zb prog 65 [1,1,0,0] 1),none,(Zy prog 15),Ya [(0,(.dat l0.length (Zz l0))),(7,(.dat l0.length (Zz l0)))]⟩],.leaf⟩
def rgmN0 :List (Option (List Nat)):=[some [0,1,7,8],some [5,6],some [0,7]]
def rgmM0 :List (Option (List Nat)):=[]
def z3y (l0:List R4):rgmS→Xv rgmS
 | .h0 v8=>(bif (decide (v8<(l0.length:Int))) then (bif ((decide (0≤v8∧v8<(l0.length:Int)))&&true) then (bif (!(u7l (rd l0 v8.toNat).a (rd l0 v8.toNat).b (rd l0 v8.toNat).c (rd l0 v8.toNat).d)) then (bif (decide (v8≥0)) then (.ret [.nils,(.int .i64 8)]) else (bif (Qy (cvT l0)) then (.ret [(.dat (Wv (cvT l0)).length (Zz (Wv (cvT l0)))),(.int .i64 (z1a (cvT l0)))]) else .stuck)) else (.to (.h0 (wrap .i64 (v8+1))))) else .stuck) else (bif (Qy (cvT l0)) then (.ret [(.dat (Wv (cvT l0)).length (Zz (Wv (cvT l0)))),(.int .i64 (z1a (cvT l0)))]) else .stuck))
def z7p (l0:List R4):Xv rgmS:=(bif (decide ((l0.length:Int)>400)) then (.ret [.nils,(.int .i64 4)]) else (.to (.h0 0)))
theorem w5v (l0:List R4): ∀s,Ys prog (Zy prog 65) (rgmC l0) (rgmC l0 s) (z3y l0 s)
 | .h0 v8=>(lb (fun k0=>(lo fun aF=>(lb (fun k1=>(lb (fun k2=>(lr 13 65 [1,1,0,1,0,0] 1 15 [(2,.nils),(3,(ii 8))] (sl y6m 54 [] ⟨[],[],[some [2,3]],[]⟩ ⟨[],[],[]⟩ (trs 3 []) (tt k2 (tt k1 (ww aF (tt k0 nn))))))) (fun k2=>(lo fun o0=>(lr 13 3 [1,1,1,1,1,1,1,0] 1 15 [(2,(.dat (Wv (cvT l0)).length (Zz (Wv (cvT l0))))),(3,(ii (z1a (cvT l0))))] (sl y6m 59 [] ⟨[],[],[some [2,3]],[]⟩ ⟨[],[],[]⟩ (bl 3 3) (pp (pp (xr l0) (xw o0)) (tt k2 (tt k1 (ww aF (tt k0 nn))))))))))) (fun k1=>(sl y6m 44 [] ⟨[],[],rgmN0,rgmM0⟩ ⟨[],[],[]⟩ (bl 2 1) (tt k1 (ww aF (tt k0 nn)))))))) (fun k0=>(lo fun o0=>(lr 13 3 [1,1,1,1,1,1,1,0] 1 15 [(2,(.dat (Wv (cvT l0)).length (Zz (Wv (cvT l0))))),(3,(ii (z1a (cvT l0))))] (sl y6m 28 [] ⟨[],[],[some [2,3]],[]⟩ ⟨[],[],[]⟩ (bl 2 0) (pp (pp (xr l0) (xw o0)) (tt k0 nn)))))))
theorem x7u (l0:List R4):Ys prog (Zy prog 65) (rgmC l0) (Za prog 65 [(.dat l0.length (Zz l0))] true []) (z7p l0):=(lb (fun k0=>(lr 13 65 [1,0,1,0,0] 1 15 [(2,.nils),(3,(ii 4))] (sl y6m 18 [] ⟨[],[],[some [2,3]],[]⟩ ⟨[],[],[]⟩ [true] (tt k0 nn)))) (fun k0=>(sl y6m 41 [] ⟨[],[],rgmN0,rgmM0⟩ ⟨[],[],[]⟩ [false] (tt k0 nn))))
theorem v7z (l0:List R4) (n:Nat) (vs:List AVal) (h:Zs (z3y l0) n (z7p l0)=.ret vs):Jw prog (Zy prog 65) (Za prog 65 [(.dat l0.length (Zz l0))] true []) vs:=by have:=Zc (w5v l0) n _ (x7u l0);rwa [h] at this
theorem u4e (l:List R4) (hl:l.length≤400): ∀(k i:Nat),i+k=l.length→(∀s∈l.take i,Vj s=true)→ ∃n,Zs (z3y l) n (.to (.h0 (i:Int)))=.ret (bif l.all Vj then [.dat (Wv l).length (Zz (Wv l)),.int .i64 (z1a l)] else [.nils,.int .i64 8])
 | 0,i,h,ht=>by have hv:l.all Vj=true:=Aw.2 fun s hs=>ht s (by rw [AQ (by omega)];exact hs);have w:Qy l=true:=Ag hl;refine ⟨1,?_⟩;rw [Zv,hv,Ab];simp (disch:=omega) only [z3y,Zm,w,Yz,Ab,Aa,Zp]
 | k+1,i,h,ht=>by
  have hi:i<l.length:=by omega
  have hs:z3y l (.h0 (i:Int))=bif Vj (rd l i) then .to (.h0 ((i+1:Nat):Int)) else .ret [.nils,.int .i64 8]:=by have e:u7l (rd l i).a (rd l i).b (rd l i).c (rd l i).d =Vj (rd l i):=rfl;simp (disch:=omega) only [z3y,e,z6u,x5a,x5b,Zr,Zk,Zx,Zj,Ai,Ab,Aa]
  rcases Ym (Vj (rd l i)) with q | q
  ·obtain ⟨n,hn⟩:=u4e l hl k (i+1) (by omega) (fun s hs=>by
    rw [Ba] at hs;have e:l[i]? =some (rd l i):=by rw [Yo hi];exact Aq _
    rw [e] at hs;simp only [Cf,AF,AS] at hs;rcases hs with hs | rfl
    ·exact ht s hs
    ·exact q)
   refine ⟨n+1,?_⟩;rw [Zv,hs,q,Ab];exact hn
  ·have hv:l.all Vj=false:=A9.2 fun e=>by have:=Aw.1 e (rd l i) (by rw [Yo hi];exact AN hi);rw [this] at q;cases q
   refine ⟨1,?_⟩;rw [Zv,hv,Aa,hs,q,Aa,Zp]
theorem v7y (l:List R4): ∃n,Zs (z3y l) n (z7p l)=.ret (bif decide (400<l.length) then [.nils,.int .i64 4] else bif l.all Vj then [.dat (Wv l).length (Zz (Wv l)),.int .i64 (z1a l)] else [.nils,.int .i64 8]):=by
 unfold z7p;by_cases h:400<l.length
 ·refine ⟨0,?_⟩;rw [Ag h,Yn (show (l.length:Int)>400 by omega)];rfl
 ·obtain ⟨n,hn⟩:=u4e l (by omega) l.length 0 (Ah _) (fun s hs=>by simp at hs);refine ⟨n,?_⟩;rw [Au h,Xm (show¬(l.length:Int)>400 by omega),Aa,Aa];exact hn
def Zd (l:List R4):List R4:=bif decide (400<l.length) then [] else bif l.all Vj then (bif decide (((D4.out l).length :Int)>400) then [] else D4.out l) else []
def Wo (l:List R4):Int:=bif decide (400<l.length) then 4 else bif l.all Vj then (bif decide (((D4.out l).length :Int)>400) then 4 else 0) else 8
def Uq (l:List R4):Bool:=true
theorem u9n (l:List R4) (h:Uq l=true): ∃n,Zs (z3y l) n (z7p l)=.ret (bif decide (400<l.length) then [.nils,.int .i64 4] else bif l.all Vj then [.dat (Zd l).length (Zz (Zd l)),.int .i64 (Wo l)] else [.nils,.int .i64 8]):=by
 obtain ⟨n,hn⟩:=v7y l;refine ⟨n,hn.trans ?_⟩;cases h1:decide (400<l.length) <;> cases h2:l.all Vj <;> simp only [Ab,Aa];have e0:Wv l=Zd l:=by unfold Wv u6o x4x x5d Zd;rw [h1,h2];cases decide (((D4.out l).length :Int)>400) <;> rfl
 have e1:z1a l=Wo l:=by unfold z1a u6o x5d Wo;rw [h1,h2];rfl
 rw [e0,e1]
def fRgm :List AVal→Option (AVal×Bool)
 | [a0]=>match asL R4 a0 with
  | some (L0,g0,n0)=>some (.tup [.dat (Zd L0).length (Zz (Zd L0)),.int .i64 (Wo L0)],isT R4 n0 g0&&(Uq L0))
  | _=>none
 | _=>none
theorem j2j {S:Specs} (hS:Zu prog S):Zu prog (S.with w2r fRgm):=by
 refine w8s hS (by kernel_rfl) fun args v h=> ?_;unfold fRgm at h;split at h
 ·rename_i a0;split at h
  ·rename_i L0 g0 n0 e0;simp only [Ae,Ad,Ac] at h;obtain ⟨rfl,ho0,hw⟩:=h;obtain ⟨N,hN⟩:=u9n L0 hw;refine ⟨_,_,(.cons (asL_le e0 ho0) .nil),?_,v7z L0 N _ hN,3,?_⟩
   ·cases h1:decide (400<L0.length) <;> cases h2:L0.all Vj <;> simp only [Zd,Wo,h1,h2,Ab,Aa]
    ·exact fun ρ u hu=>z3q (.cons (z6k R4) (RLe.refl _)) ρ u hu
    ·exact fun ρ u hu=>hu
    ·exact fun ρ u hu=>z3q (.cons (z6k R4) (RLe.refl _)) ρ u hu
    ·exact fun ρ u hu=>z3q (.cons (z6k R4) (RLe.refl _)) ρ u hu
   ·cases decide (400<L0.length) <;> cases L0.all Vj <;> rfl
  ·cases h
 ·cases h
def T7 :Specs:=(T6m.with w2r fRgm)
theorem x5s :Zu prog T7:=(j2j y6m)
inductive vl6S where
def vl6C (aU:Int) (aV:Int) (aW:Int) (bQ:Int) (cD:Int) (cE:Int):vl6S→Cfg
 :=nofun
def x6a (aU:Int) (aV:Int) (aW:Int) (bQ:Int) (cD:Int) (cE:Int):vl6S→Xv vl6S
 :=nofun
def y1r (aU:Int) (aV:Int) (aW:Int) (bQ:Int) (cD:Int) (cE:Int):Xv vl6S:=(bif (decide (aU<bQ)) then (bif (decide (aV<cD)) then (bif (decide (aW<cE)) then (bif (decide ((z1i (z1i aU aV) aW)≥(-1000000))) then (bif (decide ((z1j (z1j aU aV) aW)≤1000000)) then (bif (decide ((z1i (z1i bQ cD) cE)≥(-1000000))) then (.ret [(.bool (decide ((z1j (z1j bQ cD) cE)≤1000000)))]) else (.ret [(.bool false)])) else (.ret [(.bool false)])) else (.ret [(.bool false)])) else (.ret [(.bool false)])) else (.ret [(.bool false)])) else (.ret [(.bool false)]))
theorem w4f (aU:Int) (aV:Int) (aW:Int) (bQ:Int) (cD:Int) (cE:Int): ∀s,Ys prog (Zy prog 94) (vl6C aU aV aW bQ cD cE) (vl6C aU aV aW bQ cD cE s) (x6a aU aV aW bQ cD cE s)
 :=nofun
theorem x6b (aU:Int) (aV:Int) (aW:Int) (bQ:Int) (cD:Int) (cE:Int):Ys prog (Zy prog 94) (vl6C aU aV aW bQ cD cE) (Za prog 94 [(.agg [(.int .i64 aU),(.int .i64 aV),(.int .i64 aW),(.int .i64 bQ),(.int .i64 cD),(.int .i64 cE)])] true []) (y1r aU aV aW bQ cD cE):=(lb (fun k0=>(lb (fun k1=>(lb (fun k2=>(lb (fun k3=>(lb (fun k4=>(lb (fun k5=>(lr 38 3 [1,1,1,1,1,1,1,0] 1 3 [(2,(.bool (decide ((z1j (z1j bQ cD) cE)≤1000000))))] (sl x5s 100 [] ⟨[],[],[some [2]],[]⟩ ⟨[],[],[]⟩ (trs 36 []) (tt k5 (tt k4 (tt k3 (tt k2 (tt k1 (tt k0 nn))))))))) (fun k5=>(lr 38 3 [1,1,1,1,1,1,1,0] 1 3 [(2,(.bool false))] (sl x5s 100 [] ⟨[],[],[some [2]],[]⟩ ⟨[],[],[]⟩ (trs 28 [false,false,false,false,false,false,false,false]) (tt k5 (tt k4 (tt k3 (tt k2 (tt k1 (tt k0 nn))))))))))) (fun k4=>(lr 38 3 [1,1,1,1,1,1,1,0] 1 3 [(2,(.bool false))] (sl x5s 72 [] ⟨[],[],[some [2]],[]⟩ ⟨[],[],[]⟩ (trs 25 [false,false,false]) (tt k4 (tt k3 (tt k2 (tt k1 (tt k0 nn)))))))))) (fun k3=>(lr 38 3 [1,1,1,1,1,1,1,0] 1 3 [(2,(.bool false))] (sl x5s 72 [] ⟨[],[],[some [2]],[]⟩ ⟨[],[],[]⟩ (trs 17 [false,false,false,false,false,false,false,false,false,false,false]) (tt k3 (tt k2 (tt k1 (tt k0 nn))))))))) (fun k2=>(lr 38 3 [1,1,1,1,1,1,1,0] 1 3 [(2,(.bool false))] (sl x5s 44 [] ⟨[],[],[some [2]],[]⟩ ⟨[],[],[]⟩ (trs 14 [false,false,false,false,false,false]) (tt k2 (tt k1 (tt k0 nn)))))))) (fun k1=>(lr 38 3 [1,1,1,1,1,1,1,0] 1 3 [(2,(.bool false))] (sl x5s 44 [] ⟨[],[],[some [2]],[]⟩ ⟨[],[],[]⟩ (trs 7 [false,false,false,false,false,false,false,false,false,false,false,false,false]) (tt k1 (tt k0 nn))))))) (fun k0=>(lr 38 3 [1,1,1,1,1,1,1,0] 1 3 [(2,(.bool false))] (sl x5s 44 [] ⟨[],[],[some [2]],[]⟩ ⟨[],[],[]⟩ [false,false,false,false,false,false,false,false,false,false,false,false,false,false,false,false,false,false,false,false] (tt k0 nn)))))
theorem v6b (aU:Int) (aV:Int) (aW:Int) (bQ:Int) (cD:Int) (cE:Int) (n:Nat) (vs:List AVal) (h:Zs (x6a aU aV aW bQ cD cE) n (y1r aU aV aW bQ cD cE)=.ret vs):Jw prog (Zy prog 94) (Za prog 94 [(.agg [(.int .i64 aU),(.int .i64 aV),(.int .i64 aW),(.int .i64 bQ),(.int .i64 cD),(.int .i64 cE)])] true []) vs:=by have:=Zc (w4f aU aV aW bQ cD cE) n _ (x6b aU aV aW bQ cD cE);rwa [h] at this
def z0a (r:R6):Bool:=decide (r.a<r.d)&&(decide (r.b<r.e)&&(decide (r.c<r.f)&&(decide ((z1i (z1i r.a r.b) r.c)≥(-1000000))&&(decide ((z1j (z1j r.a r.b) r.c)≤1000000)&&(decide ((z1i (z1i r.d r.e) r.f)≥(-1000000))&&decide ((z1j (z1j r.d r.e) r.f)≤1000000))))))
def u7j (a b c d e f:Int):Bool:=z0a ⟨a,b,c,d,e,f⟩
theorem u7i (a b c d e f:Int): ∃N,Zs (x6a a b c d e f) N (y1r a b c d e f)=.ret [.bool (u7j a b c d e f)]:=⟨0,by
 unfold y1r u7j z0a;simp only [y0b];cases decide (a<d) <;> cases decide (b<e) <;> cases decide (c<f) <;> cases decide ((z1i (z1i a b) c)≥(-1000000)) <;> cases decide ((z1j (z1j a b) c)≤1000000) <;> cases decide ((z1i (z1i d e) f)≥(-1000000)) <;> rfl⟩
def fVl6 :List AVal→Option (AVal×Bool)
 | [.agg [.int .i64 aU,.int .i64 aV,.int .i64 aW,.int .i64 bQ,.int .i64 cD,.int .i64 cE]]=>some (.bool (u7j aU aV aW bQ cD cE),true)
 | _=>none
theorem j1t {S:Specs} (hS:Zu prog S):Zu prog (S.with w2o fVl6):=by
 refine z0o hS (by kernel_rfl) fun args v h=> ?_;unfold fVl6 at h;split at h
 ·rename_i aU aV aW bQ cD cE;simp only [Ae,Ad,Cp] at h;subst h;obtain ⟨N,hN⟩:=u7i aU aV aW bQ cD cE;exact ⟨_,_,(.cons (.refl _) .nil),rfl,v6b aU aV aW bQ cD cE N _ hN,3,rfl⟩
 ·cases h
def T7v :Specs:=(T7.with w2o fVl6)
theorem Vm :Zu prog T7v:=(j1t x5s)
inductive sckS where
 | h0 (v8:Int)
 | h1 (v16:Int) (aA:List Int)
 | h2 (v4:Int) (aG:List R6) (aP:List R4) (aZ:Int) (bA:Int) (aE:Nat) (aH:List Int)
 | h3 (v4:Int) (v38:Int) (aG:List R6) (aP:List R4) (aZ:Int) (bA:Int) (aE:Nat) (aH:List Int) (aO:Int) (bB:Int) (aB:List R4)
 | h4 (v1:Int) (v2:Int) (v72:List R4) (v73:Int) (v74:Int) (bJ:List R4) (aS:Int) (aD:List R6) (bC:List R4) (bD:Int) (aE:Nat) (aH:List Int) (aO:List R4)
 | h5 (v2:Int) (v8:Int) (bZ:Int) (bJ:List R4) (aS:Int) (aD:List R6) (bC:List R4) (bD:Int) (bX:Int) (bH:Nat) (bO:List Int) (aB:List R4)
abbrev y7u (aD:List R6) (v8:Int) (v2:Int):=(aD.set (0+(tn v8)) (R6.mk (rd aD (0+(tn v8))).a (rd aD (0+(tn v8))).b (rd aD (0+(tn v8))).c (rd aD (0+(tn v8))).d (rd aD (0+(tn v8))).e v2))
def w9z (l0:List R6):AFr:=⟨⟨25,0,true⟩,(Ur prog 51 [1,1,1,0,0] 3),(Zb prog 51 [1,1,1,0,0] 1),none,(Zy prog 3),Ya [(0,(.dat l0.length (Zz l0))),(11,(.agg [.nilf])),(13,(.sl 8 0 1 (.un 1)))]⟩
abbrev y7t (aA:List Int):=(Wa (Yw aA.length (cOf (Zz (Xu (Yw aA.length (cOf (Zz aA))))))))
abbrev y7s (aB:List R4) (l0:List R6) (v38:Int):=(aB++[(R4.mk (rd l0 (tn v38)).a (rd l0 (tn v38)).b (rd l0 (tn v38)).d (rd l0 (tn v38)).e)])
abbrev y7r (aD:List R6) (v72:List R4) (v74:Int) (v1:Int) (v2:Int):=(aD++[(R6.mk (rd v72 (tn v74)).a (rd v72 (tn v74)).b v1 (rd v72 (tn v74)).c (rd v72 (tn v74)).d v2)])
def u3a :=(y6v [(0,⟨.ready,none,65,Ya [(2,(.ptr 1 0)),(4,(.ptr 2 0)),(5,(.ptr 3 0)),(6,(.ptr 4 0))],[15],(Vd prog 95 [1,1,0,1,0,0]),(Vd prog 95 [1,1,0,1,0,1])⟩)])
def z1o (l0:List R6):AVal:=(.dat l0.length (Zz l0))
def u2z :AFr:=⟨⟨65,0,true⟩,none,(.inRangeFunc 0::(Zb prog 95 [1,1,0,1,0] 1)),none,(Zy prog 95),Ya [(4,(.ptr 2 0)),(5,(.ptr 3 0)),(6,(.ptr 4 0))]⟩
abbrev y7q (aA:List Int) (l0:List R6) (v16:Int):=(aA++[(rd l0 (tn v16)).c,(rd l0 (tn v16)).f])
def sckC (l0:List R6):sckS→Cfg
 | .h0 v8=>⟨⟨19,0,true⟩,none,(Zb prog 133 [1,0,1,0,0] 0),none,(Zy prog 5),⟨Ya [(0,(z1o l0)),(1,(.fn 98 [])),(7,(ii (l0.length:Int))),(8,(ii v8))],Wr [] 0,0,[],true⟩,[⟨⟨9,0,true⟩,(Ur prog 89 [1,0] 2),(Zb prog 89 [1,0] 1),none,(Zy prog 5),Ya [(5,(z1o l0)),(6,(.fn 98 []))]⟩,⟨⟨25,0,true⟩,(Ur prog 51 [1,1,0,0] 1),(Zb prog 51 [1,1,0,0] 1),none,(Zy prog 3),Ya [(0,(z1o l0)),(8,(z1o l0))]⟩],.leaf⟩
 | .h1 v16 aA=>⟨⟨36,0,true⟩,none,(Zb prog 136 [1,1,0,1,0,0,1,1,0,0,1,1,0,0] 0),none,(Zy prog 3),⟨Ya [(1,(.ptr 0 0)),(3,(.ptr 2 0)),(8,(.sl 1 0 1 (.un 1))),(9,(ii 1)),(10,(ii 0)),(14,(z1o l0)),(15,(ii (l0.length:Int))),(16,(ii v16))],Wr [⟨[(.sl 1 0 1 (.un 1))],166,none⟩,⟨[(z1o l0)],22,none⟩,⟨[(.sla 7 1 0 aA.length (.un 1))],93,none⟩,⟨[.nilf],117,none⟩,⟨[.nils],38,none⟩,⟨[(ii 0)],26,none⟩,⟨[.nils,.nils,(ii 0),(ii 0)],168,none⟩,⟨rows aA.length (Zz aA),3,some ⟨1,aA.length,(Zz aA)⟩⟩] 0,8,[],true⟩,[⟨⟨65,0,true⟩,(Ur prog 95 [1,1,0,0] 1),(Zb prog 95 [1,1,0,0] 1),none,(Zy prog 95),Ya [(2,(.ptr 3 0)),(4,(.ptr 4 0)),(5,(.ptr 5 0)),(6,(.ptr 6 0)),(13,(.sl 1 0 1 (.un 1)))]⟩,⟨⟨25,0,true⟩,(Ur prog 51 [1,1,1,0,0] 3),(Zb prog 51 [1,1,1,0,0] 1),none,(Zy prog 3),Ya [(0,(z1o l0)),(11,(.agg [.nilf])),(13,(.sl 1 0 1 (.un 1)))]⟩],.leaf⟩
 | .h2 v4 aG aP aZ bA aE aH=>⟨⟨86,0,true⟩,none,(Zb prog 171 [1,0,0] 0),none,[],⟨Ya [(0,(.yld 0)),(1,(.ptr 5 0)),(2,(.ptr 7 0)),(4,(ii v4))],y0t [(1,⟨[.nilf],117,none⟩),(2,⟨[.nils],38,none⟩),(3,⟨[(ii 0)],26,none⟩),(4,⟨[(.sla 9 6 0 aG.length (.un 6)),(.dat aP.length (Zz aP)),(ii aZ),(ii bA)],168,none⟩),(5,⟨[(.sla 6 1 0 aE (.un 1))],93,none⟩),(6,⟨rows aH.length (Zz aH),3,some ⟨1,aH.length,(Zz aH)⟩⟩),(7,⟨[(.sl 8 0 1 (.un 1))],166,none⟩),(8,⟨[(z1o l0)],22,none⟩),(9,⟨rows aG.length (Zz aG),67,some ⟨6,aG.length,(Zz aG)⟩⟩)],10,[],true⟩,[u2z,(w9z l0)],u3a⟩
 | .h3 v4 v38 aG aP aZ bA aE aH aO bB aB=>⟨⟨86,0,true⟩,none,(Zb prog 171 [1,0,0,1,0,0,1,0,1,0,0,1,1,0,0,1,1,0,0] 0),none,[],⟨Ya [(0,(.yld 0)),(1,(.ptr 5 0)),(2,(.ptr 7 0)),(4,(ii v4)),(5,(.ptr 9 0)),(6,(ii 0)),(29,(.sl 8 0 1 (.un 1))),(30,(ii 1)),(31,(ii 0)),(36,(z1o l0)),(37,(ii (l0.length:Int))),(38,(ii v38))],y0t [(1,⟨[.nilf],117,none⟩),(2,⟨[.nils],38,none⟩),(3,⟨[(ii 0)],26,none⟩),(4,⟨[(.sla 12 6 0 aG.length (.un 6)),(.dat aP.length (Zz aP)),(ii aZ),(ii bA)],168,none⟩),(5,⟨[(.sla 6 1 0 aE (.un 1))],93,none⟩),(6,⟨rows aH.length (Zz aH),3,some ⟨1,aH.length,(Zz aH)⟩⟩),(7,⟨[(.sl 8 0 1 (.un 1))],166,none⟩),(8,⟨[(z1o l0)],22,none⟩),(9,⟨[(ii aO),(ii bB),(.sl 10 0 1 (.ex 1))],173,none⟩),(10,⟨[(.sla 11 4 0 aB.length (.un 4))],99,none⟩),(11,⟨rows aB.length (Zz aB),88,some ⟨4,aB.length,(Zz aB)⟩⟩),(12,⟨rows aG.length (Zz aG),67,some ⟨6,aG.length,(Zz aG)⟩⟩)],13,[],true⟩,[u2z,(w9z l0)],u3a⟩
 | .h4 v1 v2 v72 v73 v74 bJ aS aD bC bD aE aH aO=>⟨⟨101,0,true⟩,none,(Zb prog 137 [1,1,1,0,0] 0),none,[],⟨Ya [(0,(.ptr 0 0)),(1,(ii v1)),(2,(ii v2)),(72,(.dat v72.length (Zz v72))),(73,(ii v73)),(74,(ii v74))],y0t [(0,⟨[(.sla 10 6 0 aD.length (.un 6)),(.dat bC.length (Zz bC)),(ii bD),(ii v2)],168,none⟩),(2,⟨[.nilf],117,none⟩),(3,⟨[.nils],38,none⟩),(4,⟨[(ii 0)],26,none⟩),(5,⟨[(.sla 6 1 0 aE (.un 1))],93,none⟩),(6,⟨rows aH.length (Zz aH),3,some ⟨1,aH.length,(Zz aH)⟩⟩),(7,⟨[(.sl 8 0 1 (.un 1))],166,none⟩),(8,⟨[(z1o l0)],22,none⟩),(9,⟨[(.dat aO.length (Zz aO))],99,none⟩),(10,⟨rows aD.length (Zz aD),67,some ⟨6,aD.length,(Zz aD)⟩⟩)],11,[],true⟩,[⟨⟨65,0,true⟩,(Ur prog 95 [1,1,0,1,0,1,0,1,1,1] 5),(Zb prog 95 [1,1,0,1,0,1,0,1,1,1] 1),(some 1),[],Ya [(6,(.ptr 0 0)),(54,(ii v1)),(56,(ii v2)),(57,(.dat bJ.length (Zz bJ)))]⟩,⟨⟨86,0,true⟩,(Ur prog 171 [1,0,0,1,0,0,1,1,0] 2),(Zb prog 171 [1,0,0,1,0,0,1,1,0] 1),none,[],Ya [(0,(.yld 1)),(1,(.ptr 5 0)),(2,(.ptr 7 0)),(4,(ii aS)),(82,(.yld 1)),(83,(.agg [(ii v1),(ii v2),(.sl 9 0 1 (.ex 1))]))]⟩,⟨⟨65,0,true⟩,none,(.inRangeFunc 1::(Zb prog 95 [1,1,0,1,0] 1)),none,(Zy prog 95),Ya [(4,(.ptr 3 0)),(5,(.ptr 4 0)),(6,(.ptr 0 0))]⟩,(w9z l0)],(y6v [(1,⟨.busy,none,65,Ya [(2,(.ptr 2 0)),(4,(.ptr 3 0)),(5,(.ptr 4 0)),(6,(.ptr 0 0))],[15],(Vd prog 95 [1,1,0,1,0,0]),(Vd prog 95 [1,1,0,1,0,1])⟩)])⟩
 | .h5 v2 v8 bZ bJ aS aD bC bD bX bH bO aB=>⟨⟨101,0,true⟩,none,(Zb prog 137 [0,1,0,0,1,0,0] 0),none,[],⟨Ya [(0,(.ptr 0 0)),(2,(ii v2)),(8,(ii v8))],y0t [(0,⟨[(.sla 1 6 0 aD.length (.un 6)),(.dat bC.length (Zz bC)),(ii bD),(ii bX)],168,none⟩),(1,⟨rows aD.length (Zz aD),67,some ⟨6,aD.length,(Zz aD)⟩⟩),(3,⟨[.nilf],117,none⟩),(4,⟨[.nils],38,none⟩),(5,⟨[(ii 0)],26,none⟩),(6,⟨[(.sla 7 1 0 bH (.un 1))],93,none⟩),(7,⟨rows bO.length (Zz bO),3,some ⟨1,bO.length,(Zz bO)⟩⟩),(8,⟨[(.sl 9 0 1 (.un 1))],166,none⟩),(9,⟨[(z1o l0)],22,none⟩),(10,⟨[(.dat aB.length (Zz aB))],99,none⟩)],11,[],true⟩,[⟨⟨65,0,true⟩,(Ur prog 95 [1,1,0,1,0,1,0,1,1,1] 5),(Zb prog 95 [1,1,0,1,0,1,0,1,1,1] 1),(some 2),[],Ya [(6,(.ptr 0 0)),(54,(ii bZ)),(56,(ii v2)),(57,(.dat bJ.length (Zz bJ)))]⟩,⟨⟨86,0,true⟩,(Ur prog 171 [1,0,0,1,0,0,1,1,0] 2),(Zb prog 171 [1,0,0,1,0,0,1,1,0] 1),none,[],Ya [(0,(.yld 2)),(1,(.ptr 6 0)),(2,(.ptr 8 0)),(4,(ii aS)),(82,(.yld 2)),(83,(.agg [(ii bZ),(ii v2),(.sl 10 0 1 (.ex 1))]))]⟩,⟨⟨65,0,true⟩,none,(.inRangeFunc 2::(Zb prog 95 [1,1,0,1,0] 1)),none,(Zy prog 95),Ya [(4,(.ptr 4 0)),(5,(.ptr 5 0)),(6,(.ptr 0 0))]⟩,⟨⟨25,0,true⟩,(Ur prog 51 [1,1,1,0,0] 3),(Zb prog 51 [1,1,1,0,0] 1),none,(Zy prog 3),Ya [(0,(z1o l0)),(11,(.agg [.nilf])),(13,(.sl 9 0 1 (.un 1)))]⟩],(y6v [(2,⟨.busy,none,65,Ya [(2,(.ptr 3 0)),(4,(.ptr 4 0)),(5,(.ptr 5 0)),(6,(.ptr 0 0))],[15],(Vd prog 95 [1,1,0,1,0,0]),(Vd prog 95 [1,1,0,1,0,1])⟩)])⟩
def sckN0 :List (Option (List Nat)):=[some [0,1,7,8],some [5,6],some [0,8]]
def sckM0 :List (Option (List Nat)):=[]
def u8j :List (Option (List Nat)):=[some [1,3,8,9,10,14,15,16],some [2,4,5,6,13],some [0,11,13]]
def u8l :List (Option (List Nat)):=[]
def u8i :List (Option (List Nat)):=[some [0,1,2,4],some [4,5,6],some [0,11,13]]
def u8k :List (Option (List Nat)):=[some [2,4,5,6],none,none,none,none,none,none,none,none,none]
def v6t :List (Option (List Nat)):=[some [0,1,2,4,5,6,29,30,31,36,37,38],some [4,5,6],some [0,11,13]]
def v6v :List (Option (List Nat)):=[some [2,4,5,6],none,none,none,none,none,none,none,none,none,none,none,none]
def v6s :List (Option (List Nat)):=[some [0,1,2,72,73,74],some [6,54,56,57],some [0,1,2,4,82,83],some [4,5,6],some [0,11,13]]
def v6u :List (Option (List Nat)):=[none,some [2,4,5,6],none,none,none,none,none,none,none,none,none]
def sckN5 :List (Option (List Nat)):=[some [0,2,8],some [6,54,56,57],some [0,1,2,4,82,83],some [4,5,6],some [0,11,13]]
def sckM5 :List (Option (List Nat)):=[none,none,some [2,4,5,6],none,none,none,none,none,none,none,none]
def Xk (l0:List R6):sckS→Xv sckS
 | .h0 v8=>(bif (decide (v8<(l0.length:Int))) then (bif ((decide (0≤v8∧v8<(l0.length:Int)))&&true) then (bif (!(u7j (rd l0 v8.toNat).a (rd l0 v8.toNat).b (rd l0 v8.toNat).c (rd l0 v8.toNat).d (rd l0 v8.toNat).e (rd l0 v8.toNat).f)) then (bif (decide (v8≥0)) then (.ret [(.int .i64 8)]) else (.to (.h1 0 ([]:List Int)))) else (.to (.h0 (wrap .i64 (v8+1))))) else .stuck) else (.to (.h1 0 ([]:List Int))))
 | .h1 v16 aA=>(bif (decide (v16<(l0.length:Int))) then (bif ((decide (0≤v16∧v16<(l0.length:Int)))&&true) then (bif (Nat.beq 1 1&&((decide (0+aA.length=aA.length))&&decide ((aA.length+2+1)*(8+1)≤Uj))) then (.to (.h1 (wrap .i64 (v16+1)) (aA++[(rd l0 v16.toNat).c,(rd l0 v16.toNat).f]))) else .stuck) else .stuck) else (bif (decide (aA.length<4611686018427387904)) then (bif (decide (aA.length=aA.length)) then (.to (.h2 1 ([]:List R6) ([]:List R4) 0 0 (w8t (Yw aA.length (cOf (Zz (Xu (Yw aA.length (cOf (Zz aA)))))))) (Wa (Yw aA.length (cOf (Zz (Xu (Yw aA.length (cOf (Zz aA)))))))))) else .stuck) else .stuck))
 | .h2 v4 aG aP aZ bA aE aH=>(bif (decide (v4<((aE:Nat):Int))) then (bif ((decide (0≤(wrap .i64 (v4 - 1))∧(wrap .i64 (v4 - 1))<((aE:Nat):Int)))&&true) then (bif (decide ((0+(Int.toNat (wrap .i64 (v4 - 1))))<aH.length)) then (bif ((decide (0≤v4∧v4<((aE:Nat):Int)))&&true) then (bif (decide ((0+v4.toNat)<aH.length)) then (.to (.h3 v4 0 aG aP aZ bA aE aH (rd aH (0+(Int.toNat (wrap .i64 (v4 - 1))))) (rd aH (0+v4.toNat)) ([]:List R4))) else .stuck) else .stuck) else .stuck) else .stuck) else (bif (decide ((aG.length:Int)>400)) then (.ret [(.int .i64 8)]) else (bif (Nat.beq 6 6&&(decide (0+aG.length≤aG.length)&&z0j (Zz aG))) then (bif (Vg (lst R6 (aG.length) (fun k=>(Zz aG) (0+k))) (cvT l0)) then (bif (!(Kw (lst R6 (aG.length) (fun k=>(Zz aG) (0+k))) (cvT l0))) then (.ret [(.int .i64 8)]) else (.ret [(.int .i64 0)])) else .stuck) else .stuck)))
 | .h3 v4 v38 aG aP aZ bA aE aH aO bB aB=>(bif (decide (v38<(l0.length:Int))) then (bif ((decide (0≤v38∧v38<(l0.length:Int)))&&true) then (bif (decide ((rd l0 v38.toNat).c ≤aO)) then (bif (decide (aO<(rd l0 v38.toNat).f)) then (bif (Nat.beq 4 4&&((decide (0+aB.length=aB.length))&&decide ((aB.length+1+1)*(32+1)≤Uj))) then (.to (.h3 v4 (wrap .i64 (v38+1)) aG aP aZ bA aE aH aO bB (aB++[(R4.mk (rd l0 v38.toNat).a (rd l0 v38.toNat).b (rd l0 v38.toNat).d (rd l0 v38.toNat).e)]))) else .stuck) else (.to (.h3 v4 (wrap .i64 (v38+1)) aG aP aZ bA aE aH aO bB aB))) else (.to (.h3 v4 (wrap .i64 (v38+1)) aG aP aZ bA aE aH aO bB aB))) else .stuck) else (bif (Uq (cvT aB)) then (bif ((Wo (cvT aB)) != 0) then (.ret [(.int .i64 8)]) else (bif (decide ((((Zd (cvT aB)).length :Nat):Int)>0)) then (bif (bA == aO) then (bif (Wp (cvT aP) (cvT (Zd (cvT aB)))) then (bif (Us (cvT aP) (cvT (Zd (cvT aB)))) then (.to (.h5 bB aZ aO (Zd (cvT aB)) v4 aG aP aZ bA aE aH aB)) else (.to (.h4 aO bB (Zd (cvT aB)) (((Zd (cvT aB)).length :Nat):Int) 0 (Zd (cvT aB)) v4 aG (Zd (cvT aB)) (aG.length:Int) aE aH aB))) else .stuck) else (.to (.h4 aO bB (Zd (cvT aB)) (((Zd (cvT aB)).length :Nat):Int) 0 (Zd (cvT aB)) v4 aG (Zd (cvT aB)) (aG.length:Int) aE aH aB))) else (.to (.h4 aO bB (Zd (cvT aB)) (((Zd (cvT aB)).length :Nat):Int) 0 (Zd (cvT aB)) v4 aG (Zd (cvT aB)) (aG.length:Int) aE aH aB)))) else .stuck))
 | .h4 v1 v2 v72 v73 v74 bJ aS aD bC bD aE aH aO=>(bif (decide (v74<v73)) then (bif ((decide (0≤v74∧v74<(v72.length:Int)))&&true) then (bif (Nat.beq 6 6&&((decide (0+aD.length=aD.length))&&decide ((aD.length+1+1)*(48+1)≤Uj))) then (.to (.h4 v1 v2 v72 v73 (wrap .i64 (v74+1)) bJ aS (aD++[(R6.mk (rd v72 v74.toNat).a (rd v72 v74.toNat).b v1 (rd v72 v74.toNat).c (rd v72 v74.toNat).d v2)]) bC bD aE aH aO)) else .stuck) else .stuck) else (.to (.h2 (wrap .i64 (aS+1)) aD bC bD v2 aE aH)))
 | .h5 v2 v8 bZ bJ aS aD bC bD bX bH bO aB=>(bif (decide (v8<(aD.length:Int))) then (bif ((decide (0≤v8∧v8<(aD.length:Int)))&&true) then (bif (decide ((0+v8.toNat)<aD.length)) then (.to (.h5 v2 (wrap .i64 (v8+1)) bZ bJ aS (aD.set (0+v8.toNat) (R6.mk (rd aD (0+v8.toNat)).a (rd aD (0+v8.toNat)).b (rd aD (0+v8.toNat)).c (rd aD (0+v8.toNat)).d (rd aD (0+v8.toNat)).e v2)) bC bD bX bH bO aB)) else .stuck) else .stuck) else (.to (.h2 (wrap .i64 (aS+1)) aD bC bD v2 bH bO)))
def y1y (l0:List R6):Xv sckS:=(bif (decide ((l0.length:Int)>400)) then (.ret [(.int .i64 4)]) else (.to (.h0 0)))
theorem w5a (l0:List R6): ∀s,Ys prog (Zy prog 51) (sckC l0) (sckC l0 s) (Xk l0 s)
 | .h0 v8=>(lb (fun k0=>(lo fun aF=>(lb (fun k1=>(lb (fun k2=>(lr 25 51 [1,1,0,1,0,0] 1 3 [(2,(ii 8))] (sl Vm 53 [] ⟨[],[],[some [2]],[]⟩ ⟨[],[],[]⟩ (trs 3 []) (tt k2 (tt k1 (ww aF (tt k0 nn))))))) (fun k2=>(sl Vm 113 [(3,1,Zz ([]:List Int))] ⟨[6,1,7,2,3,4,5,8],[],u8j,u8l⟩ ⟨[],[.keep,.keep,.cells [.grow 7 1],.keep,.keep,.keep,.keep,.keep],[]⟩ (bl 4 11) (pp (fl ([]:List Int) nn) (tt k2 (tt k1 (ww aF (tt k0 nn))))))))) (fun k1=>(sl Vm 44 [] ⟨[],[],sckN0,sckM0⟩ ⟨[],[],[]⟩ (bl 2 1) (tt k1 (ww aF (tt k0 nn)))))))) (fun k0=>(sl Vm 82 [(3,1,Zz ([]:List Int))] ⟨[5,0,6,1,2,3,4,7],[],u8j,u8l⟩ ⟨[],[.keep,.keep,.cells [.grow 7 1],.keep,.keep,.keep,.keep,.keep],[]⟩ (bl 3 4) (pp (fl ([]:List Int) nn) (tt k0 nn)))))
 | .h1 v16 aA=>(lb (fun k0=>(lo fun o0=>(lo fun o1=>(sl Vm 34 [] ⟨[0,1,2,3,4,5,6,10],[],u8j,u8l⟩ ⟨[],[.keep,.keep,.cells [.len (y7q aA l0 v16).length],.keep,.keep,.keep,.keep,.rowed 1 (y7q aA l0 v16).length (Zz (y7q aA l0 v16))],[]⟩ [true] (pp (xL (aA.length+2) (y7q aA l0 v16).length) (pp (xL (aA.length+2) (y7q aA l0 v16).length) (pp (xS (aA.length+2) (Ze (Zz aA) 0 aA.length 1 [(ii (rd l0 (tn v16)).c),(ii (rd l0 (tn v16)).f)]) (Zz (y7q aA l0 v16))) (pp (pp (xF (Ze (Zz aA) 0 aA.length 1 [(ii (rd l0 (tn v16)).c),(ii (rd l0 (tn v16)).f)])) nn) (ww o1 (ww o0 (tt k0 nn))))))))))) (fun k0=>(lo fun o0=>(lo fun o1=>(sl Vm 46 [(67,6,Zz ([]:List R6))] ⟨[8,3,4,5,6,2,7,0,1,9],[],u8i,u8k⟩ ⟨[],(kpB 4 [.cells [.grow 9 6,.list 0 (Zz ([]:List R4)),.keep,.keep],.keep,.rowed 1 (y7t aA).length (Zz (y7t aA)),.keep,.keep,.keep]),[]⟩ (bl 2 0) (pp (xL aA.length (y7t aA).length (by first | exact z1v _ _ | exact Wc rfl)) (pp (xS aA.length (Zz (y7t aA)) (Zz (y7t aA))) (pp (fl (y7t aA) (fl ([]:List R6) nn)) (pp (pp (xG (Nat.beq 1 1)) (pp (xG (Nat.beq 1 1)) (pp (xG (Nat.beq 0 0)) (pp (xG (decide (aA.length=aA.length))) (pp (xG (isI (Zz (Xu (Yw aA.length (cOf (Zz aA))))))) (xG (decide (aA.length<4611686018427387904)))))))) (pp (pp (xG (Nat.beq 1 1)) (pp (xG (Nat.beq 1 1)) (pp (xG (Nat.beq 0 0)) (pp (xG (decide (aA.length=aA.length))) (pp (xG (isI (Zz aA))) (xG (decide (aA.length<4611686018427387904)))))))) (tt k0 nn)))))))))))
 | .h2 v4 aG aP aZ bA aE aH=>(lb (fun k0=>(lo fun o0=>(lo fun o1=>(lo fun o2=>(lo fun o3=>(sl Vm 48 [(88,4,Zz ([]:List R4))] ⟨[0,1,2,3,4,5,6,7,8,10,11,12,9],[],v6t,v6v⟩ ⟨[],(kpB 10 [.cells [.grow 11 4],.keep,.keep]),[]⟩ (trs 3 []) (pp (fl aH (fl ([]:List R4) (fl aG nn))) (ww o3 (ww o2 (ww o1 (ww o0 (tt k0 nn)))))))))))) (fun k0=>(lb (fun k1=>(lr 25 51 [1,1,1,0,1,1,0,0] 1 3 [(2,(ii 8))] (sl Vm 50 [] ⟨[],[],[some [2]],[]⟩ ⟨[],[],[]⟩ (bl 7 126) (tt k1 (tt k0 nn))))) (fun k1=>(lo fun cA=>(lo fun cX=>(lb (fun k2=>(lr 25 51 [1,1,1,0,1,1,0,0] 1 3 [(2,(ii 8))] (sl Vm 53 [] ⟨[],[],[some [2]],[]⟩ ⟨[],[],[]⟩ (bl 7 64) (tt k2 (pp (pp (pp (xw cA) (pp nn nn)) (pp (xI R6 (aG.length) (fun k=>(Zz aG) (0+k))) (pp (xr l0) (xw cX)))) (tt k1 (tt k0 nn))))))) (fun k2=>(lr 25 3 [1,1,1,1,1,1,1,0] 1 3 [(2,(ii 0))] (sl Vm 54 [] ⟨[],[],[some [2]],[]⟩ ⟨[],[],[]⟩ (bl 7 0) (tt k2 (pp (pp (pp (xw cA) (pp nn nn)) (pp (xI R6 (aG.length) (fun k=>(Zz aG) (0+k))) (pp (xr l0) (xw cX)))) (tt k1 (tt k0 nn))))))))))))))
 | .h3 v4 v38 aG aP aZ bA aE aH aO bB aB=>(lb (fun k0=>(lo fun aF=>(lb (fun k1=>(lb (fun k2=>(lo fun o0=>(sl Vm 41 [] ⟨[0,1,2,3,4,5,6,7,8,9,10,15,12],[],v6t,v6v⟩ ⟨[],(kpB 10 [.cells [.len (y7s aB l0 v38).length],.rowed 4 (y7s aB l0 v38).length (Zz (y7s aB l0 v38)),.keep]),[]⟩ (trs 8 []) (pp (xL (aB.length+1) (y7s aB l0 v38).length) (pp (xL (aB.length+1) (y7s aB l0 v38).length) (pp (xS (aB.length+1) (Ze (Zz aB) 0 aB.length 4 [(ii (rd l0 (tn v38)).a),(ii (rd l0 (tn v38)).b),(ii (rd l0 (tn v38)).d),(ii (rd l0 (tn v38)).e)]) (Zz (y7s aB l0 v38))) (pp (fl aH (pp (xF (Ze (Zz aB) 0 aB.length 4 [(ii (rd l0 (tn v38)).a),(ii (rd l0 (tn v38)).b),(ii (rd l0 (tn v38)).d),(ii (rd l0 (tn v38)).e)])) (fl aG nn))) (ww o0 (tt k2 (tt k1 (ww aF (tt k0 nn)))))))))))) (fun k2=>(sl Vm 41 [] ⟨(List.range 13),[],v6t,v6v⟩ ⟨[],[],[]⟩ (trs 7 [false]) (pp (fl aH (fl aB (fl aG nn))) (tt k2 (tt k1 (ww aF (tt k0 nn))))))))) (fun k1=>(sl Vm 41 [] ⟨(List.range 13),[],v6t,v6v⟩ ⟨[],[],[]⟩ (bl 8 1) (pp (fl aH (fl aB (fl aG nn))) (tt k1 (ww aF (tt k0 nn))))))))) (fun k0=>(Wu (sl Vm (C':=⟨⟨65,0,true⟩,(Ur prog 95 [1,1,0,1,0,1,0,0] 4),(Zb prog 95 [1,1,0,1,0,1,0,0] 1),(some 0),[],⟨Ya [(2,(.ptr 1 0)),(4,(.ptr 2 0)),(5,(.ptr 3 0)),(6,(.ptr 4 0)),(7,(.ptr 6 0)),(20,(.dat aB.length (Zz aB)))],y0t [(1,⟨[.nilf],117,none⟩),(2,⟨[.nils],38,none⟩),(3,⟨[(ii 0)],26,none⟩),(4,⟨[(.sla 5 6 0 aG.length (.un 6)),(.dat aP.length (Zz aP)),(ii aZ),(ii bA)],168,none⟩),(5,⟨rows aG.length (Zz aG),67,some ⟨6,aG.length,(Zz aG)⟩⟩),(6,⟨[(ii aO),(ii bB),(.sl 7 0 1 (.ex 1))],173,none⟩),(7,⟨[(.dat aB.length (Zz aB))],99,none⟩),(8,⟨[(.sla 9 1 0 aE (.un 1))],93,none⟩),(9,⟨rows aH.length (Zz aH),3,some ⟨1,aH.length,(Zz aH)⟩⟩),(10,⟨[(.sl 11 0 1 (.un 1))],166,none⟩),(11,⟨[(.dat l0.length (Zz l0))],22,none⟩)],12,[],true⟩,[⟨⟨86,0,true⟩,(Ur prog 171 [1,0,0,1,0,0,1,1,0] 2),(Zb prog 171 [1,0,0,1,0,0,1,1,0] 1),none,[],Ya [(0,(.yld 0)),(1,(.ptr 8 0)),(2,(.ptr 10 0)),(4,(ii v4)),(82,(.yld 0)),(83,(.agg [(ii aO),(ii bB),(.sl 7 0 1 (.ex 1))]))]⟩,⟨⟨65,0,true⟩,none,(.inRangeFunc 0::(Zb prog 95 [1,1,0,1,0] 1)),none,(Zy prog 95),Ya [(4,(.ptr 2 0)),(5,(.ptr 3 0)),(6,(.ptr 4 0))]⟩,⟨⟨25,0,true⟩,(Ur prog 51 [1,1,1,0,0] 3),(Zb prog 51 [1,1,1,0,0] 1),none,(Zy prog 3),Ya [(0,(.dat l0.length (Zz l0))),(11,(.agg [.nilf])),(13,(.sl 11 0 1 (.un 1)))]⟩],(y6v [(0,⟨.busy,none,65,Ya [(2,(.ptr 1 0)),(4,(.ptr 2 0)),(5,(.ptr 3 0)),(6,(.ptr 4 0))],[15],(Vd prog 95 [1,1,0,1,0,0]),(Vd prog 95 [1,1,0,1,0,1])⟩)])⟩) 37 [] ⟨[0,1,2,3,4,12,13,10,5,6,7,8],[11],[some [2,4,5,6,7,20],some [0,1,2,4,82,83],some [4,5,6],some [0,11,13]],[some [2,4,5,6],none,none,none,none,none,none,none,none,none,none,none]⟩ ⟨[(20,.frz aB.length aB.length (Zz aB) (Zz aB))],[.keep,.keep,.keep,.keep,.keep,.keep,.keep,.cells [.frz aB.length aB.length (Zz aB) (Zz aB)],.keep,.keep,.keep,.keep],[]⟩ (bl 2 0) (pp (xZ (z3k 4 4 0 aB.length aB.length (Zz aB)) aB.length (Zz aB)) (pp (xL aB.length aB.length) (pp (xS aB.length (Zz aB) (Zz aB)) (pp (xZ (z3k 4 4 0 aB.length aB.length (Zz aB)) aB.length (Zz aB)) (pp (xL aB.length aB.length) (pp (xS aB.length (Zz aB) (Zz aB)) (pp (fl aG (fl aH nn)) (pp (fl aB nn) (tt k0 nn)))))))))) (lo fun aF=>(lb (fun k1=>(lr 25 51 [1,1,1,0,1,1,0,0] 1 3 [(2,(ii 8))] (sl Vm 67 [] ⟨[],[],[some [2]],[]⟩ ⟨[],[],[]⟩ (bl 8 254) (tt k1 (tt k1 (pp (pp (xr aB) (xw aF)) nn)))))) (fun k1=>(lb (fun k2=>(lb (fun k3=>(lo fun cB=>(lb (fun k4=>(sl Vm 75 [] ⟨[4,5,0,1,2,3,8,9,10,11,7],[],sckN5,sckM5⟩ ⟨[],[],[]⟩ (bl 15 32764) (pp (fl aG (fl aH nn)) (tt k4 (pp (pp (xr aP) (pp (xI R4 (Zd (cvT aB)).length (Zz (Zd (cvT aB)))) (xw cB))) (tt k3 (tt k2 (tt k1 (pp (pp (xr aB) (xw aF)) nn))))))))) (fun k4=>(sl Vm 95 [] ⟨[4,0,1,2,3,8,9,10,11,7,5],[],v6s,v6u⟩ ⟨[],[],[]⟩ (bl 15 16380) (pp (fl aH (fl aG nn)) (tt k4 (pp (pp (xr aP) (pp (xI R4 (Zd (cvT aB)).length (Zz (Zd (cvT aB)))) (xw cB))) (tt k3 (tt k2 (tt k1 (pp (pp (xr aB) (xw aF)) nn)))))))))))) (fun k3=>(sl Vm 95 [] ⟨[4,0,1,2,3,8,9,10,11,7,5],[],v6s,v6u⟩ ⟨[],[],[]⟩ (bl 15 252) (pp (fl aH (fl aG nn)) (tt k3 (tt k2 (tt k1 (pp (pp (xr aB) (xw aF)) nn))))))))) (fun k2=>(sl Vm 95 [] ⟨[4,0,1,2,3,8,9,10,11,7,5],[],v6s,v6u⟩ ⟨[],[],[]⟩ (bl 15 0) (pp (fl aH (fl aG nn)) (tt k2 (tt k1 (pp (pp (xr aB) (xw aF)) nn)))))))))))))
 | .h4 v1 v2 v72 v73 v74 bJ aS aD bC bD aE aH aO=>(lb (fun k0=>(lo fun o0=>(lo fun o1=>(sl Vm 23 [] ⟨[0,1,2,3,4,5,6,7,8,9,13],[],v6s,v6u⟩ ⟨[],[.cells [.len (y7r aD v72 v74 v1 v2).length,.keep,.keep,.keep],.keep,.keep,.keep,.keep,.keep,.keep,.keep,.keep,.keep,.rowed 6 (y7r aD v72 v74 v1 v2).length (Zz (y7r aD v72 v74 v1 v2))],[]⟩ [true] (pp (xL (aD.length+1) (y7r aD v72 v74 v1 v2).length) (pp (xL (aD.length+1) (y7r aD v72 v74 v1 v2).length) (pp (xS (aD.length+1) (Ze (Zz aD) 0 aD.length 6 [(ii (rd v72 (tn v74)).a),(ii (rd v72 (tn v74)).b),(ii v1),(ii (rd v72 (tn v74)).c),(ii (rd v72 (tn v74)).d),(ii v2)]) (Zz (y7r aD v72 v74 v1 v2))) (pp (fl aH (pp (xF (Ze (Zz aD) 0 aD.length 6 [(ii (rd v72 (tn v74)).a),(ii (rd v72 (tn v74)).b),(ii v1),(ii (rd v72 (tn v74)).c),(ii (rd v72 (tn v74)).d),(ii v2)])) nn)) (ww o1 (ww o0 (tt k0 nn))))))))))) (fun k0=>(sl Vm 22 [] ⟨[1,2,3,4,0,5,6,7,8,10],[],u8i,u8k⟩ ⟨[],[],[]⟩ (bl 2 0) (pp (fl aH (fl aD nn)) (tt k0 nn)))))
 | .h5 v2 v8 bZ bJ aS aD bC bD bX bH bO aB=>(lb (fun k0=>(lo fun o0=>(lo fun o1=>(sl Vm 34 [] ⟨(List.range 11),[],sckN5,sckM5⟩ ⟨[],[.cells [.len (y7u aD v8 v2).length,.keep,.keep,.keep],.rowed 6 (y7u aD v8 v2).length (Zz (y7u aD v8 v2)),.keep,.keep,.keep,.keep,.keep,.keep,.keep,.keep,.keep],[]⟩ [true] (pp (xL aD.length (y7u aD v8 v2).length) (pp (xL aD.length (y7u aD v8 v2).length) (pp (xS aD.length (Xe (Zz aD) (0+(tn v8)) 5 [(ii v2)]) (Zz (y7u aD v8 v2))) (pp (pp (xF (Xe (Zz aD) (0+(tn v8)) 5 [(ii v2)])) (fl bO nn)) (ww o1 (ww o0 (tt k0 nn))))))))))) (fun k0=>(sl Vm 36 [] ⟨[2,3,4,5,0,6,7,8,9,1],[],u8i,u8k⟩ ⟨[],[],[]⟩ (bl 2 0) (pp (fl bO (fl aD nn)) (tt k0 nn)))))
theorem x6u (l0:List R6):Ys prog (Zy prog 51) (sckC l0) (Za prog 51 [(.dat l0.length (Zz l0))] true []) (y1y l0):=(lb (fun k0=>(lr 25 51 [1,0,1,0,0] 1 3 [(2,(ii 4))] (sl Vm 16 [] ⟨[],[],[some [2]],[]⟩ ⟨[],[],[]⟩ [true] (tt k0 nn)))) (fun k0=>(sl Vm 40 [] ⟨[],[],sckN0,sckM0⟩ ⟨[],[],[]⟩ [false] (tt k0 nn))))
theorem v6r (l0:List R6) (n:Nat) (vs:List AVal) (h:Zs (Xk l0) n (y1y l0)=.ret vs):Jw prog (Zy prog 51) (Za prog 51 [(.dat l0.length (Zz l0))] true []) vs:=by have:=Zc (w5a l0) n _ (x6u l0);rwa [h] at this
theorem x7v (l:List R4):(Zd l).length ≤400:=by
 unfold Zd;by_cases h:400<l.length
 ·rw [Ag h];exact AD _
 ·rw [Au h];cases l.all Vj
  ·exact AD _
  ·show (bif decide (((D4.out l).length :Int)>400) then [] else D4.out l).length ≤400;by_cases h2:((D4.out l).length :Int)>400
   ·rw [Ag h2];exact AD _
   ·rw [Au h2];show (D4.out l).length ≤400;omega
def D6 :Dim R6 R4:=⟨R6.c,R6.f,fun r=>⟨r.a,r.b,r.d,r.e⟩,fun x x' s=>⟨s.a,s.b,x,s.c,s.d,x'⟩,fun x r=>⟨r.a,r.b,r.c,r.d,r.e,x⟩,Zd,Us⟩
theorem u7g (l:List R6) (x:Int):(D6.sec l x).length ≤1000:=AL (x7v _) (by omega)
def sckErr :List AVal:=[.int .i64 8]
def x3b (l out:List R6):List AVal:=bif decide ((out.length:Int)>400) then [.int .i64 8] else bif Kw out l then [.int .i64 0] else [.int .i64 8]
def u1q (l:List R6) (x:Int):Bool:=Wo (D6.inn l x) != 0
def okF (l:List R6):Nat→Nat→Bool
 | 0,_=>true
 | k+1,i=>bif u1q l (rd (D6.cuts l) i) then false else okF l k (i+1)
section
variable (l:List R6) (hl:l.length≤400)
include hl
theorem u2w (i:Nat) (out:List R6) (last:List R4) (first fin x x':Int): ∀(k j:Nat) (acc:List R4),j+k=l.length→acc.length≤j→
  ∃n,∀N,Zs (Xk l) (N+n) (.to (.h3 (i:Int) (j:Int) out last first fin ((D6.cuts l).length) (Wa (Xu (D6.ends l))) x x' acc))=Zs (Xk l) N (.to (.h3 (i:Int) (l.length:Int) out last first fin ((D6.cuts l).length) (Wa (Xu (D6.ends l))) x x' (acc++D6.inn (l.drop j) x)))
 | 0,j,acc,h,ha=>by refine ⟨0,fun N=> ?_⟩;rw [Ar (by omega),show D6.inn ([]:List R6) x=[] from rfl,AB,A4,show j=l.length by omega]
 | k+1,j,acc,h,ha=>by
  have hj:j<l.length:=by omega
  obtain ⟨n,hn⟩:=u2w i out last first fin x x' k (j+1) (acc++D6.inn [rd l j] x) (by omega) (by have:=D6.inn_length [rd l j] x;simp only [Ay,Br] at*;omega)
  refine ⟨n+1,fun N=> ?_⟩;have e:D6.inn (l.drop j) x=D6.inn [rd l j] x++D6.inn (l.drop (j+1)) x:=by rw [Yx hj,←D6.inn_append];rfl
  rw [e,←AC,Zv,←AH,←hn N];by_cases h1:D6.lo (rd l j)≤x
  ·by_cases h2:x<D6.hi (rd l j)
   ·rw [D6.inn_t _ _ h1 h2];simp only [D6] at h1 h2 ⊢;simp (disch:=omega) only [Xk,Xn,Zm,Zq,Zo,Zr,Yc,Yk,Yp,Zf,Zk,Zx,Yg,Zj,Ah,Av,Ai,Al,Ab,Aa]
   ·rw [D6.inn_f2 _ _ h2,AB];simp only [D6] at h1 h2;simp (disch:=omega) only [Xk,Xn,Yz,Zm,Zq,Zo,Zr,Yc,Yk,Yp,Zf,Zk,Zx,Yg,Zj,Ah,Av,Ai,Al,Ab,Aa]
  ·rw [D6.inn_f1 _ _ h1,AB];simp only [D6] at h1;simp (disch:=omega) only [Xk,w0f,Zm,Zq,Zo,Zr,Yc,Yk,Yp,Zf,Zk,Zx,Yg,Zj,Ah,Av,Ai,Al,Ab,Aa]
theorem u2v (i:Nat) (hi:i≤1000) (x x':Int) (s last:List R4) (first:Int) (inn:List R4) (hs:s.length≤1000): ∀(k j:Nat) (out:List R6),j+k=s.length→out.length≤10000000+j→
  ∃n,∀N,Zs (Xk l) (N+n) (.to (.h4 x x' s (s.length:Int) (j:Int) s (i:Int) out last first ((D6.cuts l).length) (Wa (Xu (D6.ends l))) inn))=Zs (Xk l) N (.to (.h2 ((i+1:Nat):Int) (out++(s.drop j).map (D6.put x x')) last first x' ((D6.cuts l).length) (Wa (Xu (D6.ends l)))))
 | 0,j,out,h,ho=>by have _u:=hl;refine ⟨1,fun N=> ?_⟩;rw [Ar (by omega),Zv];simp (disch:=omega) only [Xk,Yz,Zk,Zx,Aa,A5,AB]
 | k+1,j,out,h,ho=>by
  obtain ⟨n,hn⟩:=u2v i hi x x' s last first inn hs k (j+1) (out++[D6.put x x' (rd s j)]) (by omega) (by simp;omega)
  refine ⟨n+1,fun N=> ?_⟩;have:=hn N;rw [Yx (show j<s.length by omega),AW,←AC,Zv];simp (disch:=omega) only [Xk,Zm,Zq,Zo,Zr,Yc,Yk,Yp,Zf,Zk,Zx,Yg,Zj,Ah,Av,Ai,Al,Ab,Aa];rw [AH] at this;exact this
theorem u2u (i:Nat) (hi:i≤1000) (x x' fin:Int) (s last:List R4) (first:Int) (inn:List R4): ∀(k j:Nat) (out:List R6),j+k=out.length→out.length≤10000000→
  ∃n,∀N,Zs (Xk l) (N+n) (.to (.h5 x' (j:Int) x s (i:Int) out last first fin ((D6.cuts l).length) (Wa (Xu (D6.ends l))) inn))=Zs (Xk l) N (.to (.h2 ((i+1:Nat):Int) (D6.grow out j x') last first x' ((D6.cuts l).length) (Wa (Xu (D6.ends l)))))
 | 0,j,out,h,ho=>by have _u:=hl;refine ⟨1,fun N=> ?_⟩;rw [D6.grow_nil _ _ _ (by omega),Zv];simp (disch:=omega) only [Xk,Yz,Zk,Zx,Aa]
 | k+1,j,out,h,ho=>by
  obtain ⟨n,hn⟩:=u2u i hi x x' fin s last first inn k (j+1) (out.set j (D6.ext x' (rd out j))) (by simp;omega) (by simpa using ho)
  refine ⟨n+1,fun N=> ?_⟩;have:=hn N;rw [D6.grow_set out j _ (by omega)] at this;rw [←AC,Zv];simp (disch:=omega) only [Xk,Zm,Zq,Zo,Zr,Yc,Yk,Yp,Zf,Zk,Zx,Yg,Zj,Ah,Av,Ai,Al,Ab,Aa];exact this
theorem w9y : ∀(k i:Nat) (s:Sw R6 R4),k=(D6.cuts l).length - 1 - i→i≤(D6.cuts l).length →s.out.length≤i*1000→s.last.length≤1000→s.first≤s.out.length→
  ∃n,Zs (Xk l) n (.to (.h2 ((i+1:Nat):Int) s.out s.last (s.first:Int) s.fin ((D6.cuts l).length) (Wa (Xu (D6.ends l)))))=.ret ((bif okF l k i then x3b l (D6.go l k i s).out else sckErr))
 | 0,i,s,h,hi,ho,hla,hf=>by
  have hc:=D6.cuts_length l;refine ⟨1,?_⟩;rw [Zv,show D6.go l 0 i s=s from rfl,show okF l 0 i=true from rfl,Ab];unfold x3b;by_cases q:(s.out.length:Int)>400
  ·simp (disch:=omega) only [Xk,Yz,Yn,Ab,Aa,Zp]
  ·have e:lst R6 s.out.length (fun k=>(Zz s.out) k)=s.out:=Zq s.out;have w:Vg s.out l=true:=Ag (by omega);have f:z0j (Zz s.out)=true:=Xp _;rcases Ym (Kw s.out l) with q2 | q2 <;>
   simp (disch:=omega) only [Xk,Zm,e,w,f,q2,Yz,Xm,Yc,Yg,Ah,AE,AI,Ai,Ab,Aa,Zp]
 | k +1,i,s,h,hi,ho,hla,hf=>by
  have hc:=D6.cuts_length l;have hi1:i+1<(D6.cuts l).length :=by omega
  have hpl:(Wa (Xu (D6.ends l))).length =2*l.length:=by rw [Ug,Xf,D6.ends_length]
  have r0:rd (Wa (Xu (D6.ends l))) i=rd (D6.cuts l) i:=z4b _ _ (by show i<(D6.cuts l).length;omega);have r1:rd (Wa (Xu (D6.ends l))) (i+1)=rd (D6.cuts l) (i+1):=z4b _ _ (by show i+1<(D6.cuts l).length;omega);have hbig:i*1000≤1000*1000:=AK _ (by omega);have hsl:=u7g l (rd (D6.cuts l) i);have hsd:D6.sec l (rd (D6.cuts l) i)=Zd (D6.inn l (rd (D6.cuts l) i)):=rfl;obtain ⟨n3,h3⟩:=u2w l hl (i+1) s.out s.last (s.first:Int) s.fin (rd (D6.cuts l) i) (rd (D6.cuts l) (i+1)) l.length 0 [] (Ah _) (An _);simp only [AX,Bg,Kb] at h3;have w1:Uq (D6.inn l (rd (D6.cuts l) i))=true:=rfl;have w2:Wp s.last (Zd (D6.inn l (rd (D6.cuts l) i)))=true:=Ag (by omega);have ol:=D6.one_length l (rd (D6.cuts l) i) (rd (D6.cuts l) (i+1)) s;have st0: ∀N,Zs (Xk l) (N+n3+1) (.to (.h2 ((i+1:Nat):Int) s.out s.last (s.first:Int) s.fin ((D6.cuts l).length) (Wa (Xu (D6.ends l)))))=Zs (Xk l) N (.to (.h3 ((i+1:Nat):Int) (l.length:Int) s.out s.last (s.first:Int) s.fin ((D6.cuts l).length) (Wa (Xu (D6.ends l))) (rd (D6.cuts l) i) (rd (D6.cuts l) (i+1)) (D6.inn l (rd (D6.cuts l) i)))):=fun N=>by
   rw [←h3 N,Zv];have e1:wrap .i64 (((i+1:Nat):Int) - 1)=(i:Int):=by rw [Zt];exact Zk (by omega)
   simp (disch:=omega) only [Xk,e1,r0,r1,Zm,Zq,Zo,Zr,Yc,Yk,Yp,Zf,Zk,Zx,Yg,Zj,Ah,Av,Ai,Al,Ab,Aa]
  rcases Ym (u1q l (rd (D6.cuts l) i)) with q0 | q0
  ·refine ⟨1+n3+1,?_⟩;rw [st0 1,Zv];simp only [okF,q0,Ab,Aa];have q0':(Wo (D6.inn l (rd (D6.cuts l) i)) != 0)=true:=q0;simp (disch:=omega) only [Xk,Zm,Zq,Yz,q0',w1,Ab,Aa,Zp];rfl
  have q0':(Wo (D6.inn l (rd (D6.cuts l) i)) != 0)=false:=q0;rcases Ym (decide (0<(D6.sec l (rd (D6.cuts l) i)).length)&&((s.fin == rd (D6.cuts l) i)&&D6.same s.last (D6.sec l (rd (D6.cuts l) i)))) with q | q
  ·obtain ⟨n5,h5⟩:=u2u l hl (i+1) (by omega) (rd (D6.cuts l) i) (rd (D6.cuts l) (i+1)) s.fin (D6.sec l (rd (D6.cuts l) i)) s.last (s.first:Int) (D6.inn l (rd (D6.cuts l) i)) (s.out.length - s.first) s.first s.out (by omega) (by omega)
   have e:D6.one l (rd (D6.cuts l) i) (rd (D6.cuts l) (i+1)) s=⟨D6.grow s.out s.first (rd (D6.cuts l) (i+1)),s.last,s.first,rd (D6.cuts l) (i+1)⟩:=by unfold Dim.one;rw [q];rfl
   obtain ⟨n0,h0⟩:=w9y k (i+1) (D6.one l (rd (D6.cuts l) i) (rd (D6.cuts l) (i+1)) s) (by omega) (by omega) (by omega) (by rw [e];exact hla) (by rw [e];simpa [Dim.grow_length] using hf);refine ⟨n0+n5+1+n3+1,?_⟩;rw [st0 (n0+n5+1),Zv];simp only [Ac,At] at q;obtain ⟨q1,q2,q3⟩:=q;have q3':Us s.last (Zd (D6.inn l (rd (D6.cuts l) i)))=true:=q3;rw [hsd] at q1;simp (disch:=omega) only [Xk,Zm,Zq,Yz,Yn,q0',q2,q3',w1,w2,Ab,Aa];rw [←hsd,h5 n0];simp only [okF,q0,Aa];simp only [Dim.go];rw [e] at h0 ⊢;exact h0
  ·obtain ⟨n4,h4⟩:=u2v l hl (i+1) (by omega) (rd (D6.cuts l) i) (rd (D6.cuts l) (i+1)) (D6.sec l (rd (D6.cuts l) i)) (D6.sec l (rd (D6.cuts l) i)) (s.out.length:Int) (D6.inn l (rd (D6.cuts l) i)) hsl (D6.sec l (rd (D6.cuts l) i)).length 0 s.out (Ah _) (by omega);simp only [AX,Kb] at h4;have e:D6.one l (rd (D6.cuts l) i) (rd (D6.cuts l) (i+1)) s=⟨s.out++(D6.sec l (rd (D6.cuts l) i)).map (D6.put (rd (D6.cuts l) i) (rd (D6.cuts l) (i+1))),D6.sec l (rd (D6.cuts l) i),s.out.length,rd (D6.cuts l) (i+1)⟩:=by unfold Dim.one;rw [q];rfl
   obtain ⟨n0,h0⟩:=w9y k (i+1) (D6.one l (rd (D6.cuts l) i) (rd (D6.cuts l) (i+1)) s) (by omega) (by omega) (by omega) (by rw [e];exact hsl) (by rw [e];simp);have hg:Zs (Xk l) 1 (.to (.h3 ((i+1:Nat):Int) (l.length:Int) s.out s.last (s.first:Int) s.fin ((D6.cuts l).length) (Wa (Xu (D6.ends l))) (rd (D6.cuts l) i) (rd (D6.cuts l) (i+1)) (D6.inn l (rd (D6.cuts l) i))))=.to (.h4 (rd (D6.cuts l) i) (rd (D6.cuts l) (i+1)) (D6.sec l (rd (D6.cuts l) i)) ((D6.sec l (rd (D6.cuts l) i)).length :Int) 0 (D6.sec l (rd (D6.cuts l) i)) ((i+1:Nat):Int) s.out (D6.sec l (rd (D6.cuts l) i)) (s.out.length:Int) ((D6.cuts l).length) (Wa (Xu (D6.ends l))) (D6.inn l (rd (D6.cuts l) i))):=by
    rw [show (1:Nat)=0+1 from rfl,Zv];rw [hsd] at q ⊢;have e3:D6.same s.last (Zd (D6.inn l (rd (D6.cuts l) i)))=Us s.last (Zd (D6.inn l (rd (D6.cuts l) i))):=rfl;rw [e3] at q;by_cases q1:0<(Zd (D6.inn l (rd (D6.cuts l) i))).length
    ·rw [Ag q1,Al] at q;rcases Ym (s.fin == rd (D6.cuts l) i) with q2 | q2
     ·rw [q2,Al] at q;simp (disch:=omega) only [Xk,Zm,Zq,Yz,Yn,q0',q2,q,w1,w2,Ab,Aa];rfl
     ·simp (disch:=omega) only [Xk,Zm,Zq,Yz,Yn,q0',q2,w1,w2,Ab,Aa];rfl
    ·simp (disch:=omega) only [Xk,Zm,Zq,Yz,Xm,q0',w1,w2,Ab,Aa];rfl
   refine ⟨n0+n4+1+n3+1,?_⟩;rw [st0 (n0+n4+1),z8g _ (n0+n4) 1,hg,h4 n0];simp only [okF,q0,Aa];simp only [Dim.go];rw [e] at h0 ⊢;exact h0
theorem u2x : ∀(k i:Nat) (acc:List Int),i+k=l.length→acc=D6.ends (l.take i)→ ∃n,Zs (Xk l) n (.to (.h1 (i:Int) acc))=.ret ((bif okF l ((D6.cuts l).length - 1) 0 then x3b l (D6.go l ((D6.cuts l).length - 1) 0 ⟨[],[],0,0⟩).out else sckErr))
 | 0,i,acc,h,ha=>by
  have e:acc=D6.ends l:=by rw [ha,AQ (by omega)]
  subst e;have hle:=D6.ends_length l;obtain ⟨n,hn⟩:=w9y l hl ((D6.cuts l).length - 1) 0 ⟨[],[],0,0⟩ (by omega) (AD _) (AD _) (AD _) (AD _);refine ⟨n+1,?_⟩;rw [Zv];simp (disch:=omega) only [Xk,Xr,z0c,z9z,Yz,Yk,Yp,Av,Ab,Aa];exact hn
 | k+1,i,acc,h,ha=>by
  have hle:=D6.ends_length (l.take i);have eX:acc.length≤2*i:=by rw [ha,hle];simp;omega
  obtain ⟨n,hn⟩:=u2x k (i+1) (acc++D6.ends [rd l i]) (by omega) (by
   rw [ha,Ba];have:l[i]? =some (rd l i):=by rw [Yo (show i<l.length by omega)];exact Aq _
   rw [this,D6.ends_append];rfl)
  refine ⟨n+1,?_⟩;rw [Zv];simp (disch:=omega) only [Xk,Zm,Zq,Zo,Zr,Yc,Yk,Yp,Zf,Zk,Zx,Yg,Zj,Ah,Av,Ai,Al,Ab,Aa];exact hn
theorem u2y : ∀(k i:Nat),i+k=l.length→(∀s∈l.take i,z0a s=true)→ ∃n,Zs (Xk l) n (.to (.h0 (i:Int)))=.ret (bif l.all z0a then (bif okF l ((D6.cuts l).length - 1) 0 then x3b l (D6.go l ((D6.cuts l).length - 1) 0 ⟨[],[],0,0⟩).out else sckErr) else sckErr)
 | 0,i,h,ht=>by have hv:l.all z0a=true:=Aw.2 fun s hs=>ht s (by rw [AQ (by omega)];exact hs);obtain ⟨n,hn⟩:=u2x l hl l.length 0 [] (Ah _) rfl;refine ⟨n+1,?_⟩;rw [Zv,hv,Ab];simp (disch:=omega) only [Xk,Yz,Aa];exact hn
 | k+1,i,h,ht=>by
  have hi:i<l.length:=by omega
  have hs:Xk l (.h0 (i:Int))=bif z0a (rd l i) then .to (.h0 ((i+1:Nat):Int)) else .ret sckErr:=by have e:u7j (rd l i).a (rd l i).b (rd l i).c (rd l i).d (rd l i).e (rd l i).f =z0a (rd l i):=rfl;simp (disch:=omega) only [Xk,e,z6u,x5a,x5b,Zr,Zk,Zx,Zj,Ai,Ab,Aa];rfl
  rcases Ym (z0a (rd l i)) with q | q
  ·obtain ⟨n,hn⟩:=u2y k (i+1) (by omega) (fun s hs=>by
    rw [Ba] at hs;have e:l[i]? =some (rd l i):=by rw [Yo hi];exact Aq _
    rw [e] at hs;simp only [Cf,AF,AS] at hs;rcases hs with hs | rfl
    ·exact ht s hs
    ·exact q)
   refine ⟨n+1,?_⟩;rw [Zv,hs,q,Ab];exact hn
  ·have hv:l.all z0a=false:=A9.2 fun e=>by have:=Aw.1 e (rd l i) (by rw [Yo hi];exact AN hi);rw [this] at q;cases q
   refine ⟨1,?_⟩;rw [Zv,hv,Aa,hs,q,Aa,Zp]
end
def Wx (l:List R6):Int:=bif decide (400<l.length) then 4 else bif l.all z0a then (bif okF l ((D6.cuts l).length - 1) 0 then (bif decide (((D6.out l).length :Int)>400) then 8 else bif Kw (D6.out l) l then 0 else 8) else 8) else 8
def v0a (l:List R6):Bool:=true
theorem u8h (l:List R6): ∃n,Zs (Xk l) n (y1y l)=.ret [.int .i64 (Wx l)]:=by
 unfold y1y Wx;by_cases h:400<l.length
 ·refine ⟨0,?_⟩;rw [Ag h,Yn (show (l.length:Int)>400 by omega)];rfl
 ·obtain ⟨n,hn⟩:=u2y l (by omega) l.length 0 (Ah _) (fun s hs=>by simp at hs);refine ⟨n,?_⟩;rw [Au h,Xm (show¬(l.length:Int)>400 by omega),Aa,Aa];rw [Kb] at hn;rw [hn];unfold sckErr x3b;cases l.all z0a <;> simp only [Ab,Aa];cases okF l ((D6.cuts l).length - 1) 0 <;> simp only [Ab,Aa];show Xv.ret (bif decide (((D6.out l).length :Int)>400) then _ else bif Kw (D6.out l) l then _ else _)=_;cases decide (((D6.out l).length :Int)>400) <;> simp only [Ab,Aa];cases Kw (D6.out l) l <;> rfl
def fSck :List AVal→Option (AVal×Bool)
 | [a1]=>match asL R6 a1 with
  | some (L1,g1,n1)=>some (.int .i64 (Wx L1),isT R6 n1 g1&&v0a L1)
  | _=>none
 | _=>none
theorem j2a {S:Specs} (hS:Zu prog S):Zu prog (S.with x4d fSck):=by
 refine z0o hS (by kernel_rfl) fun args v h=> ?_;unfold fSck at h;split at h
 ·rename_i a1;split at h
  ·rename_i L1 g1 n1 e1;simp only [Ae,Ad,Ac] at h;obtain ⟨rfl,ho1,hw⟩:=h;obtain ⟨N,hN⟩:=u8h L1;exact ⟨_,_,(.cons (asL_le e1 ho1) .nil),rfl,v6r L1 N _ hN,3,rfl⟩
  ·cases h
 ·cases h
def T8 :Specs:=T7v.with x4d fSck
theorem z0p :Zu prog T8:=j2a Vm
inductive rchkS where
 | h0 (v3:Int)
def u9w (l0:List R6):rchkS→Cfg
 | .h0 v3=>⟨⟨34,0,true⟩,none,(Zb prog 53 [1,1,0,1,0,0] 0),none,(Zy prog 3),⟨Ya [(0,(.dat l0.length (Zz l0))),(3,(ii v3))],Wr [] 0,0,[],true⟩,[],.leaf⟩
def u4x :List (Option (List Nat)):=[some [0,3]]
def u4y :List (Option (List Nat)):=[]
def z0w (l0:List R6):rchkS→Xv rchkS
 | .h0 v3=>(bif (decide (v3<(l0.length:Int))) then (bif ((decide (0≤v3∧v3<(l0.length:Int)))&&true) then (bif (decide ((rd l0 v3.toNat).a ≥(-1000000))) then (bif (decide ((rd l0 v3.toNat).b ≥(-1000000))) then (bif (decide ((rd l0 v3.toNat).c ≥(-1000000))) then (bif (decide ((rd l0 v3.toNat).a ≤1000000)) then (bif (decide ((rd l0 v3.toNat).b ≤1000000)) then (bif (decide ((rd l0 v3.toNat).c ≤1000000)) then (bif (decide ((rd l0 v3.toNat).d ≥(-1000000))) then (bif (decide ((rd l0 v3.toNat).e ≥(-1000000))) then (bif (decide ((rd l0 v3.toNat).f ≥(-1000000))) then (bif (decide ((rd l0 v3.toNat).d ≤1000000)) then (bif (decide ((rd l0 v3.toNat).e ≤1000000)) then (bif (decide ((rd l0 v3.toNat).f ≤1000000)) then (bif (decide ((rd l0 v3.toNat).a <(rd l0 v3.toNat).d)) then (bif (decide ((rd l0 v3.toNat).b <(rd l0 v3.toNat).e)) then (bif (!(decide ((rd l0 v3.toNat).c <(rd l0 v3.toNat).f))) then (.ret [(.int .i64 8)]) else (.to (.h0 (wrap .i64 (v3+1))))) else (.ret [(.int .i64 8)])) else (.ret [(.int .i64 8)])) else (.ret [(.int .i64 8)])) else (.ret [(.int .i64 8)])) else (.ret [(.int .i64 8)])) else (.ret [(.int .i64 8)])) else (.ret [(.int .i64 8)])) else (.ret [(.int .i64 8)])) else (.ret [(.int .i64 8)])) else (.ret [(.int .i64 8)])) else (.ret [(.int .i64 8)])) else (.ret [(.int .i64 8)])) else (.ret [(.int .i64 8)])) else (.ret [(.int .i64 8)])) else .stuck) else (bif (y2y 2 (cvT l0) ([]:List R6)) then (bif (!(x4n 2 (cvT l0) ([]:List R6))) then (.ret [(.int .i64 8)]) else (bif (Vg (cvT (z6m 2 (cvT l0) ([]:List R6))) (cvT l0)) then (bif (!(Kw (cvT (z6m 2 (cvT l0) ([]:List R6))) (cvT l0))) then (.ret [(.int .i64 8)]) else (.ret [(.int .i64 0)])) else .stuck)) else .stuck))
def z7t (l0:List R6):Xv rchkS:=(bif (decide ((l0.length:Int)>400)) then (.ret [(.int .i64 4)]) else (.to (.h0 0)))
theorem x8c (l0:List R6): ∀s,Ys prog (Zy prog 53) (u9w l0) (u9w l0 s) (z0w l0 s)
 | .h0 v3=>(lb (fun k0=>(lo fun aF=>(lb (fun k1=>(lb (fun k2=>(lb (fun k3=>(lb (fun k4=>(lb (fun k5=>(lb (fun k6=>(lb (fun k7=>(lb (fun k8=>(lb (fun k9=>(lb (fun k10=>(lb (fun k11=>(lb (fun k12=>(lb (fun k13=>(lb (fun k14=>(lb (fun k15=>(lr 34 53 [1,1,0,1,0,0,1,0,0,1,0,0] 1 3 [(2,(ii 8))] (sl z0p 158 [] ⟨[],[],[some [2]],[]⟩ ⟨[],[],[]⟩ (trs 60 []) (tt k15 (tt k14 (tt k13 (tt k12 (tt k11 (tt k10 (tt k9 (tt k8 (tt k7 (tt k6 (tt k5 (tt k4 (tt k3 (tt k2 (tt k1 (ww aF (tt k0 nn)))))))))))))))))))) (fun k15=>(sl z0p 162 [] ⟨[],[],u4x,u4y⟩ ⟨[],[],[]⟩ (trs 59 [false]) (tt k15 (tt k14 (tt k13 (tt k12 (tt k11 (tt k10 (tt k9 (tt k8 (tt k7 (tt k6 (tt k5 (tt k4 (tt k3 (tt k2 (tt k1 (ww aF (tt k0 nn))))))))))))))))))))) (fun k14=>(lr 34 53 [1,1,0,1,0,0,1,0,0,1,0,0] 1 3 [(2,(ii 8))] (sl z0p 158 [] ⟨[],[],[some [2]],[]⟩ ⟨[],[],[]⟩ (trs 52 (bl 8 128)) (tt k14 (tt k13 (tt k12 (tt k11 (tt k10 (tt k9 (tt k8 (tt k7 (tt k6 (tt k5 (tt k4 (tt k3 (tt k2 (tt k1 (ww aF (tt k0 nn))))))))))))))))))))) (fun k13=>(lr 34 53 [1,1,0,1,0,0,1,0,0,1,0,0] 1 3 [(2,(ii 8))] (sl z0p 158 [] ⟨[],[],[some [2]],[]⟩ ⟨[],[],[]⟩ (trs 45 (bl 15 16384)) (tt k13 (tt k12 (tt k11 (tt k10 (tt k9 (tt k8 (tt k7 (tt k6 (tt k5 (tt k4 (tt k3 (tt k2 (tt k1 (ww aF (tt k0 nn)))))))))))))))))))) (fun k12=>(lr 34 53 [1,1,0,1,0,0,1,0,0,1,0,0] 1 3 [(2,(ii 8))] (sl z0p 158 [] ⟨[],[],[some [2]],[]⟩ ⟨[],[],[]⟩ (trs 38 (bl 22 2097152)) (tt k12 (tt k11 (tt k10 (tt k9 (tt k8 (tt k7 (tt k6 (tt k5 (tt k4 (tt k3 (tt k2 (tt k1 (ww aF (tt k0 nn))))))))))))))))))) (fun k11=>(lr 34 53 [1,1,0,1,0,0,1,0,0,1,0,0] 1 3 [(2,(ii 8))] (sl z0p 158 [] ⟨[],[],[some [2]],[]⟩ ⟨[],[],[]⟩ (trs 35 (bl 25 16777216)) (tt k11 (tt k10 (tt k9 (tt k8 (tt k7 (tt k6 (tt k5 (tt k4 (tt k3 (tt k2 (tt k1 (ww aF (tt k0 nn)))))))))))))))))) (fun k10=>(lr 34 53 [1,1,0,1,0,0,1,0,0,1,0,0] 1 3 [(2,(ii 8))] (sl z0p 158 [] ⟨[],[],[some [2]],[]⟩ ⟨[],[],[]⟩ (trs 32 (bl 28 134217728)) (tt k10 (tt k9 (tt k8 (tt k7 (tt k6 (tt k5 (tt k4 (tt k3 (tt k2 (tt k1 (ww aF (tt k0 nn))))))))))))))))) (fun k9=>(lr 34 53 [1,1,0,1,0,0,1,0,0,1,0,0] 1 3 [(2,(ii 8))] (sl z0p 158 [] ⟨[],[],[some [2]],[]⟩ ⟨[],[],[]⟩ (trs 29 (bl 31 1073741824)) (tt k9 (tt k8 (tt k7 (tt k6 (tt k5 (tt k4 (tt k3 (tt k2 (tt k1 (ww aF (tt k0 nn)))))))))))))))) (fun k8=>(lr 34 53 [1,1,0,1,0,0,1,0,0,1,0,0] 1 3 [(2,(ii 8))] (sl z0p 158 [] ⟨[],[],[some [2]],[]⟩ ⟨[],[],[]⟩ (trs 25 (bl 35 17179869184)) (tt k8 (tt k7 (tt k6 (tt k5 (tt k4 (tt k3 (tt k2 (tt k1 (ww aF (tt k0 nn))))))))))))))) (fun k7=>(lr 34 53 [1,1,0,1,0,0,1,0,0,1,0,0] 1 3 [(2,(ii 8))] (sl z0p 158 [] ⟨[],[],[some [2]],[]⟩ ⟨[],[],[]⟩ (trs 21 (bl 39 274877906944)) (tt k7 (tt k6 (tt k5 (tt k4 (tt k3 (tt k2 (tt k1 (ww aF (tt k0 nn)))))))))))))) (fun k6=>(lr 34 53 [1,1,0,1,0,0,1,0,0,1,0,0] 1 3 [(2,(ii 8))] (sl z0p 117 [] ⟨[],[],[some [2]],[]⟩ ⟨[],[],[]⟩ (trs 18 (bl 25 16777216)) (tt k6 (tt k5 (tt k4 (tt k3 (tt k2 (tt k1 (ww aF (tt k0 nn))))))))))))) (fun k5=>(lr 34 53 [1,1,0,1,0,0,1,0,0,1,0,0] 1 3 [(2,(ii 8))] (sl z0p 117 [] ⟨[],[],[some [2]],[]⟩ ⟨[],[],[]⟩ (trs 15 (bl 28 134217728)) (tt k5 (tt k4 (tt k3 (tt k2 (tt k1 (ww aF (tt k0 nn)))))))))))) (fun k4=>(lr 34 53 [1,1,0,1,0,0,1,0,0,1,0,0] 1 3 [(2,(ii 8))] (sl z0p 117 [] ⟨[],[],[some [2]],[]⟩ ⟨[],[],[]⟩ (trs 12 (bl 31 1073741824)) (tt k4 (tt k3 (tt k2 (tt k1 (ww aF (tt k0 nn))))))))))) (fun k3=>(lr 34 53 [1,1,0,1,0,0,1,0,0,1,0,0] 1 3 [(2,(ii 8))] (sl z0p 117 [] ⟨[],[],[some [2]],[]⟩ ⟨[],[],[]⟩ (trs 9 (bl 34 8589934592)) (tt k3 (tt k2 (tt k1 (ww aF (tt k0 nn)))))))))) (fun k2=>(lr 34 53 [1,1,0,1,0,0,1,0,0,1,0,0] 1 3 [(2,(ii 8))] (sl z0p 117 [] ⟨[],[],[some [2]],[]⟩ ⟨[],[],[]⟩ (trs 5 (bl 38 137438953472)) (tt k2 (tt k1 (ww aF (tt k0 nn))))))))) (fun k1=>(lr 34 53 [1,1,0,1,0,0,1,0,0,1,0,0] 1 3 [(2,(ii 8))] (sl z0p 117 [] ⟨[],[],[some [2]],[]⟩ ⟨[],[],[]⟩ (bl 43 4398046511105) (tt k1 (ww aF (tt k0 nn))))))))) (fun k0=>(lo fun aF=>(lb (fun k1=>(lr 34 53 [1,1,1,1,0,1,0,0] 1 3 [(2,(ii 8))] (sl z0p 37 [] ⟨[],[],[some [2]],[]⟩ ⟨[],[],[]⟩ (bl 6 62) (tt k1 (pp (pp (xr l0) (pp (xI R6 0 (fun _=>[])) (xw aF))) (tt k0 nn)))))) (fun k1=>(lo fun cA=>(lb (fun k2=>(lr 34 53 [1,1,1,1,0,1,0,0] 1 3 [(2,(ii 8))] (sl z0p 37 [] ⟨[],[],[some [2]],[]⟩ ⟨[],[],[]⟩ (bl 6 32) (tt k2 (pp (pp (xI R6 (z6m 2 (cvT l0) ([]:List R6)).length (Zz (z6m 2 (cvT l0) ([]:List R6)))) (pp (xr l0) (xw cA))) (tt k1 (pp (pp (xr l0) (pp (xI R6 0 (fun _=>[])) (xw aF))) (tt k0 nn)))))))) (fun k2=>(lr 34 3 [1,1,1,1,1,1,1,0] 1 3 [(2,(ii 0))] (sl z0p 38 [] ⟨[],[],[some [2]],[]⟩ ⟨[],[],[]⟩ (bl 6 0) (tt k2 (pp (pp (xI R6 (z6m 2 (cvT l0) ([]:List R6)).length (Zz (z6m 2 (cvT l0) ([]:List R6)))) (pp (xr l0) (xw cA))) (tt k1 (pp (pp (xr l0) (pp (xI R6 0 (fun _=>[])) (xw aF))) (tt k0 nn)))))))))))))))
theorem x3o (l0:List R6):Ys prog (Zy prog 53) (u9w l0) (Za prog 53 [(.dat l0.length (Zz l0))] true []) (z7t l0):=(lb (fun k0=>(lr 34 53 [1,0,1,0,0] 1 3 [(2,(ii 4))] (sl z0p 16 [] ⟨[],[],[some [2]],[]⟩ ⟨[],[],[]⟩ [true] (tt k0 nn)))) (fun k0=>(sl z0p 20 [] ⟨[],[],u4x,u4y⟩ ⟨[],[],[]⟩ [false] (tt k0 nn))))
theorem v1q (l0:List R6) (n:Nat) (vs:List AVal) (h:Zs (z0w l0) n (z7t l0)=.ret vs):Jw prog (Zy prog 53) (Za prog 53 [(.dat l0.length (Zz l0))] true []) vs:=by have:=Zc (x8c l0) n _ (x3o l0);rwa [h] at this
def w4h (r:R6):Bool:=decide (r.a≥ -1000000)&&(decide (r.b≥ -1000000)&&(decide (r.c≥ -1000000)&&(decide (r.a≤1000000)&&(decide (r.b≤1000000)&&(decide (r.c≤1000000)&&(decide (r.d≥ -1000000)&&(decide (r.e≥ -1000000)&&(decide (r.f≥ -1000000)&&(decide (r.d≤1000000)&&(decide (r.e≤1000000)&&(decide (r.f≤1000000)&&(decide (r.a<r.d)&&(decide (r.b<r.e)&&decide (r.c<r.f))))))))))))))
def rckF (l:List R6):Int:=bif x4n 2 l [] then (bif Kw (z6m 2 l []) l then 0 else 8) else 8
def Vn (l:List R6):Int:=bif decide (400<l.length) then 4 else bif l.all w4h then rckF l else 8
def v1o (l:List R6):Bool:=true
theorem w6z (k:Int) (l m:List R6):(z6m k l m).length ≤400∨x4n k l m=false:=by
 unfold z6m x4n;cases jsO k l m with
 | none=>exact .inl (AD _)
 | some out=>
  by_cases h:(out.length:Int)≤400
  ·left;show out.length≤400;omega
  ·right;exact Au h
section
variable (l:List R6) (hl:l.length≤400)
include hl
theorem v1p : ∀(k i:Nat),i+k=l.length→(∀s∈l.take i,w4h s=true)→ ∃n,Zs (z0w l) n (.to (.h0 (i:Int)))=.ret [.int .i64 (bif l.all w4h then rckF l else 8)]
 | 0,i,h,ht=>by
  have hv:l.all w4h=true:=Aw.2 fun s hs=>ht s (by rw [AQ (by omega)];exact hs);have w1:y2y 2 l []=true:=Ag ⟨by omega,by simp⟩;refine ⟨1,?_⟩;rw [Zv,hv,Ab];unfold rckF;rcases Ym (x4n 2 l []) with q | q
  ·have w2:Vg (z6m 2 l []) l=true:=Ag (by
    rcases w6z 2 l [] with h | h
    ·omega
    ·rw [h] at q;cases q)
   rcases Ym (Kw (z6m 2 l []) l) with q2 | q2 <;>
   simp (disch:=omega) only [z0w,Zm,Yz,q,q2,w1,w2,AE,AI,Ab,Aa,Zp]
  ·simp (disch:=omega) only [z0w,Zm,Yz,q,w1,AE,AI,Ab,Aa,Zp]
 | k+1,i,h,ht=>by
  have hi:i<l.length:=by omega
  have hs:z0w l (.h0 (i:Int))=bif w4h (rd l i) then .to (.h0 ((i+1:Nat):Int)) else .ret [.int .i64 8]:=by simp (disch:=omega) only [z0w,w4h,y0b,z6u,x5a,Zr,Zk,Zx,Zj,Ai,Ab,Aa]
  rcases Ym (w4h (rd l i)) with q | q
  ·obtain ⟨n,hn⟩:=v1p k (i+1) (by omega) (fun s hs=>by
    rw [Ba] at hs;have e:l[i]? =some (rd l i):=by rw [Yo hi];exact Aq _
    rw [e] at hs;simp only [Cf,AF,AS] at hs;rcases hs with hs | rfl
    ·exact ht s hs
    ·exact q)
   refine ⟨n+1,?_⟩;rw [Zv,hs,q,Ab];exact hn
  ·have hv:l.all w4h=false:=A9.2 fun e=>by have:=Aw.1 e (rd l i) (by rw [Yo hi];exact AN hi);rw [this] at q;cases q
   refine ⟨1,?_⟩;rw [Zv,hv,Aa,hs,q,Aa,Zp]
end
theorem v8q (l:List R6): ∃n,Zs (z0w l) n (z7t l)=.ret [.int .i64 (Vn l)]:=by
 unfold z7t Vn;by_cases h:400<l.length
 ·refine ⟨0,?_⟩;rw [Ag h,Yn (show (l.length:Int)>400 by omega)];rfl
 ·obtain ⟨n,hn⟩:=v1p l (by omega) l.length 0 (Ah _) (fun s hs=>by simp at hs);refine ⟨n,?_⟩;rw [Au h,Xm (show¬(l.length:Int)>400 by omega),Aa,Aa];exact hn
def fRck :List AVal→Option (AVal×Bool)
 | [a1]=>match asL R6 a1 with
  | some (L1,g1,n1)=>some (.int .i64 (Vn L1),isT R6 n1 g1&&v1o L1)
  | _=>none
 | _=>none
theorem j2m {S:Specs} (hS:Zu prog S):Zu prog (S.with v2i fRck):=by
 refine z0o hS (by kernel_rfl) fun args v h=> ?_;unfold fRck at h;split at h
 ·rename_i a1;split at h
  ·rename_i L1 g1 n1 e1;simp only [Ae,Ad,Ac] at h;obtain ⟨rfl,ho1,hw⟩:=h;obtain ⟨N,hN⟩:=v8q L1;exact ⟨_,_,(.cons (asL_le e1 ho1) .nil),rfl,v1q L1 N _ hN,3,rfl⟩
  ·cases h
 ·cases h
def T9 :Specs:=T8.with v2i fRck
theorem z5k :Zu prog T9:=j2m z0p
def pt (L:List R2) (y:Int):Prop:= ∃s∈L,s.a≤y∧y<s.b
structure Can (L:List R2):Prop where
 pos: ∀s∈L,s.a<s.b
 sep:L.Pairwise fun s t=>s.b<t.a
theorem Can.nil :Can []:=⟨by simp,.nil⟩
theorem Can.tail {s:R2} {L:List R2} (h:Can (s::L)):Can L:=⟨fun t ht=>h.pos t (List.mem_cons_of_mem _ ht),(AU.1 h.sep).2⟩
theorem Can.head {s:R2} {L:List R2} (h:Can (s::L)): ∀t∈L,s.b<t.a:=(AU.1 h.sep).1
theorem u7a {s:R2} {L:List R2} (h:Can (s::L)) {y:Int} (hy:pt (s::L) y):s.a≤y:=by
 obtain ⟨t,ht,h1,h2⟩:=hy;rcases AG.1 ht with rfl | ht
 ·exact h1
 ·have:=h.head t ht;have:=h.pos s (by simp);omega
theorem v5c : ∀(L M:List R2),Can L→Can M→(∀y,pt L y↔pt M y)→L=M
 | [],[],_,_,_=>rfl
 | [],t::M,_,hM,h=>by have:=(h t.a).2 ⟨t,by simp,AZ _,hM.pos t (by simp)⟩;obtain ⟨s,hs,_⟩:=this;cases hs
 | s::L,[],hL,_,h=>by have:=(h s.a).1 ⟨s,by simp,AZ _,hL.pos s (by simp)⟩;obtain ⟨s,hs,_⟩:=this;cases hs
 | s::L,t::M,hL,hM,h=>by
  have p1:=hL.pos s (by simp);have p2:=hM.pos t (by simp);have a1:t.a≤s.a:=u7a hM ((h s.a).1 ⟨s,by simp,AZ _,p1⟩);have a2:s.a≤t.a:=u7a hL ((h t.a).2 ⟨t,by simp,AZ _,p2⟩);have b1: ¬s.b<t.b:=fun hb=>by
   obtain ⟨u,hu,h1,h2⟩:=(h s.b).2 ⟨t,by simp,by omega,hb⟩;rcases AG.1 hu with rfl | hu
   ·omega
   ·have:=hL.head u hu;omega
  have b2: ¬t.b<s.b:=fun hb=>by
   obtain ⟨u,hu,h1,h2⟩:=(h t.b).1 ⟨s,by simp,by omega,hb⟩;rcases AG.1 hu with rfl | hu
   ·omega
   ·have:=hM.head u hu;omega
  have e:s=t:=by
   obtain ⟨sa,sb⟩:=s;obtain ⟨ta,tb⟩:=t;simp only at a1 a2 b1 b2;have:sa=ta:=by omega
   have:sb=tb:=by omega
   subst_vars;rfl
  subst e
  congr 1
  refine v5c L M hL.tail hM.tail fun y=>⟨fun hy=> ?_,fun hy=> ?_⟩
  ·obtain ⟨u,hu,h1,h2⟩:=hy;have g:=hL.head u hu;obtain ⟨v,hv,h3,h4⟩:=(h y).1 ⟨u,by simp [hu],h1,h2⟩;rcases AG.1 hv with rfl | hv
   ·omega
   ·exact ⟨v,hv,h3,h4⟩
  ·obtain ⟨u,hu,h1,h2⟩:=hy;have g:=hM.head u hu;obtain ⟨v,hv,h3,h4⟩:=(h y).2 ⟨u,by simp [hu],h1,h2⟩;rcases AG.1 hv with rfl | hv
   ·omega
   ·exact ⟨v,hv,h3,h4⟩
def push (out:List R2) (x x':Int):List R2:=
 bif decide (0<out.length)&&((rd out (out.length - 1)).b == x) then out.set (out.length - 1) ⟨(rd out (out.length - 1)).a,x'⟩ else out++[⟨x,x'⟩]
theorem v1t (out:List R2) (s:R2) (x x':Int):push (out++[s]) x x'=bif s.b == x then out++[⟨s.a,x'⟩] else out++[s]++[⟨x,x'⟩]:=by
 have e:rd (out++[s]) ((out++[s]).length - 1)=s:=by rw [Up (by simp)];simp [rd]
 unfold push;rw [e,Ag (by simp),Al];cases (s.b == x)
 ·rfl
 ·simp
theorem w2i {out:List R2} {x x':Int} (hc:Can out) (hb: ∀s∈out,s.b≤x) (hx:x<x'):
  Can (push out x x')∧(∀s∈push out x x',s.b≤x')∧ ∀y,pt (push out x x') y↔pt out y∨(x≤y∧y<x'):=by
 rcases List.eq_nil_or_concat out with rfl | ⟨L,s,rfl⟩
 ·refine ⟨⟨?_,?_⟩,?_,fun y=> ?_⟩
  ·intro s hs;simp [push] at hs;subst hs;exact hx
  ·simp [push]
  ·intro s hs;simp [push] at hs;subst hs;exact AZ _
  ·simp [push,pt]
 ·rw [List.concat_eq_append] at*;rw [v1t];have hs:=hb s (by simp);have hp:=hc.pos s (by simp);have sep:=BI.1 hc.sep;rcases Ym (s.b == x) with q | q
  ·rw [q,Ab];have q:s.b=x:=by simpa using q
   refine ⟨⟨?_,?_⟩,?_,fun y=> ?_⟩
   ·intro t ht;rcases AF.1 ht with ht | ht
    ·exact hc.pos t (by simp [ht])
    ·rw [AS.1 ht];show s.a<x';omega
   ·refine BI.2 ⟨sep.1,List.pairwise_singleton _ _,fun t ht u hu=> ?_⟩;rw [AS.1 hu];exact sep.2.2 t ht s (by simp)
   ·intro t ht;rcases AF.1 ht with ht | ht
    ·have:=hb t (by simp [ht]);omega
    ·rw [AS.1 ht];exact AZ _
   ·constructor
    ·rintro ⟨t,ht,h1,h2⟩;rcases AF.1 ht with ht | ht
     ·exact .inl ⟨t,by simp [ht],h1,h2⟩
     ·rw [AS.1 ht] at h1 h2;by_cases hy:y<s.b
      ·exact .inl ⟨s,by simp,h1,hy⟩
      ·exact .inr ⟨by omega,h2⟩
    ·rintro (⟨t,ht,h1,h2⟩ | ⟨h1,h2⟩)
     ·rcases AF.1 ht with ht | ht
      ·exact ⟨t,by simp [ht],h1,h2⟩
      ·rw [AS.1 ht] at h1 h2;exact ⟨⟨s.a,x'⟩,by simp,h1,by show y<x';omega⟩
     ·exact ⟨⟨s.a,x'⟩,by simp,by show s.a≤y;omega,h2⟩
  ·rw [q,Aa];have q:s.b≠x:=by simpa using q
   refine ⟨⟨?_,?_⟩,?_,fun y=> ?_⟩
   ·intro t ht;rcases AF.1 ht with ht | ht
    ·exact hc.pos t ht
    ·rw [AS.1 ht];exact hx
   ·refine BI.2 ⟨hc.sep,List.pairwise_singleton _ _,fun t ht u hu=> ?_⟩;rw [AS.1 hu];show t.b<x;rcases AF.1 ht with h | h
    ·have h1:=sep.2.2 t h s (by simp);omega
    ·rw [AS.1 h];omega
   ·intro t ht;rcases AF.1 ht with ht | ht
    ·have:=hb t ht;omega
    ·rw [AS.1 ht];exact AZ _
   ·constructor
    ·rintro ⟨t,ht,h1,h2⟩;rcases AF.1 ht with ht | ht
     ·exact .inl ⟨t,ht,h1,h2⟩
     ·rw [AS.1 ht] at h1 h2;exact .inr ⟨h1,h2⟩
    ·rintro (⟨t,ht,h1,h2⟩ | ⟨h1,h2⟩)
     ·exact ⟨t,AF.2 (.inl ht),h1,h2⟩
     ·exact ⟨⟨x,x'⟩,by simp,h1,h2⟩
theorem z8b {l:List Int} (h:l.Pairwise (· < ·)) {i j:Nat} (hij:i<j) (hj:j<l.length):rd l i<rd l j:=by rw [Yo (by omega),Yo hj];exact Bo.1 h i j (by omega) hj hij
theorem y3k (cuts:List Int) (ins:List Bool) (hc:cuts.Pairwise (· < ·)): ∀(k i:Nat) (out:List R2),i+k<cuts.length∨k=0→Can out→(∀s∈out,s.b≤rd cuts i)→
  Can (w8u cuts ins k i out)∧ ∀y,pt (w8u cuts ins k i out) y↔pt out y∨ ∃j,i≤j∧j<i+k∧rd ins j=true∧rd cuts j≤y∧y<rd cuts (j+1)
 | 0,i,out,h,ho,hb=>⟨ho,fun y=>⟨.inl,fun hy=>hy.elim id fun ⟨j,h1,h2,_⟩=>by omega⟩⟩
 | k +1,i,out,h,ho,hb=>by
  have hlt:rd cuts i<rd cuts (i+1):=z8b hc (BQ _) (by omega);obtain ⟨p1,p2,p3⟩:=w2i ho hb hlt;have e:w8u cuts ins (k+1) i out=w8u cuts ins k (i+1) (bif rd ins i then push out (rd cuts i) (rd cuts (i+1)) else out):=rfl;rw [e];rcases Ym (rd ins i) with q | q
  ·rw [q,Ab];obtain ⟨r1,r2⟩:=y3k cuts ins hc k (i+1) (push out (rd cuts i) (rd cuts (i+1))) (by omega) p1 p2;refine ⟨r1,fun y=> ?_⟩;rw [r2,p3];constructor
   ·rintro ((h | h) | ⟨j,h1,h2,h3⟩)
    ·exact .inl h
    ·exact .inr ⟨i,An _,by omega,q,h⟩
    ·exact .inr ⟨j,by omega,by omega,h3⟩
   ·rintro (h | ⟨j,h1,h2,h3⟩)
    ·exact .inl (.inl h)
    ·rcases Bd h1 with rfl | h1
     ·exact .inl (.inr h3.2)
     ·exact .inr ⟨j,h1,by omega,h3⟩
  ·rw [q,Aa];obtain ⟨r1,r2⟩:=y3k cuts ins hc k (i+1) out (by omega) ho (fun s hs=>by have:=hb s hs;omega);refine ⟨r1,fun y=> ?_⟩;rw [r2];constructor
   ·rintro (h | ⟨j,h1,h2,h3⟩)
    ·exact .inl h
    ·exact .inr ⟨j,by omega,by omega,h3⟩
   ·rintro (h | ⟨j,h1,h2,h3⟩)
    ·exact .inl h
    ·rcases Bd h1 with rfl | h1
     ·rw [q] at h3;cases h3.1
     ·exact .inr ⟨j,h1,by omega,h3⟩
theorem x1y {cuts:List Int}: ∀(k:Nat),k<cuts.length→ ∀y,rd cuts 0≤y→y<rd cuts k→ ∃j,j<k∧rd cuts j≤y∧y<rd cuts (j+1)
 | 0,_,y,h1,h2=>by omega
 | k+1,hk,y,h1,h2=>by
  by_cases h:rd cuts k≤y
  ·exact ⟨k,BQ _,h,h2⟩
  ·obtain ⟨j,h3,h4⟩:=x1y k (by omega) y h1 (by omega);exact ⟨j,by omega,h4⟩
theorem u1n (cuts:List Int) (hc:cuts.Pairwise (· < ·)) (P:Int→Bool) (S:List R2) (hS: ∀s∈S,s.a∈cuts∧s.b∈cuts) (hP: ∀y,P y=true↔pt S y):
  Can (z1m cuts (cuts.map P))∧ ∀y,pt (z1m cuts (cuts.map P)) y↔pt S y:=by
 obtain ⟨r1,r2⟩:=y3k cuts (cuts.map P) hc (cuts.length - 1) 0 [] (by omega) .nil (by simp);refine ⟨r1,fun y=> ?_⟩;unfold z1m;rw [r2];have hin: ∀x,x∈cuts→ ∃i,i<cuts.length∧rd cuts i=x:=fun x hx=>by obtain ⟨i,hi,h⟩:=A1 hx;exact ⟨i,hi,by rw [Yo hi];exact h⟩
 have hmap: ∀j,j<cuts.length→rd (cuts.map P) j=P (rd cuts j):=fun j hj=>by rw [Yo (by simpa using hj),Yo hj,BR]
 have le_of: ∀i j,i<cuts.length→j<cuts.length→i≤j→rd cuts i≤rd cuts j:=fun i j hi hj hij=>by
  rcases Bd hij with rfl | h
  ·exact AZ _
  ·exact Cs (z8b hc h hj)
 constructor
 ·rintro (⟨s,hs,_⟩ | ⟨j,h1,h2,h3,h4,h5⟩)
  ·cases hs
  ·have hj:j+1<cuts.length:=by omega
   rw [hmap j (by omega)] at h3;obtain ⟨s,hs,a1,a2⟩:=(hP _).1 h3;obtain ⟨ca,cb⟩:=hS s hs;obtain ⟨m,hm,em⟩:=hin s.b cb;refine ⟨s,hs,by omega,?_⟩;have:j<m:=by
    rcases Bi j m with h | h
    ·exact h
    ·have:=le_of m j hm (by omega) h;omega
   have:=le_of (j+1) m hj hm this;omega
 ·rintro ⟨s,hs,a1,a2⟩;right;obtain ⟨ca,cb⟩:=hS s hs;obtain ⟨n,hn,en⟩:=hin s.a ca;obtain ⟨m,hm,em⟩:=hin s.b cb;have h0:=le_of 0 n (by omega) hn (AD _);obtain ⟨j,h1,h2,h3⟩:=x1y m hm y (by omega) (by omega);refine ⟨j,AD _,by omega,?_,h2,h3⟩;rw [hmap j (by omega),hP];refine ⟨s,hs,?_,?_⟩
  ·have:n≤j:=by
    rcases Bi j n with h | h
    ·have:=le_of (j+1) n (by omega) hn h;omega
    ·exact h
   have:=le_of n j hn (by omega) this;omega
  ·omega
def net (E:List R3) (y:Int):Int:=(E.map fun e=>if e.a≤y then e.c else 0).sum
theorem Qn (e:R3) (E:List R3) (y:Int):net (e::E) y=(if e.a≤y then e.c else 0)+net E y:=by simp [net]
theorem v9b {E F:List R3} (h:E.Perm F) (y:Int):net E y=net F y:=by
 induction h with
 | nil=>rfl
 | cons e _ ih=>rw [Qn,Qn,ih]
 | swap a b l=>simp only [Qn];omega
 | trans _ _ i1 i2=>rw [i1,i2]
theorem w2m (E:List R3) (y:Int) (h: ∀e∈E,y<e.a):net E y=0:=by
 induction E with
 | nil=>rfl
 | cons e E ih=>rw [Qn,As (by have:=h e (by simp);omega),ih fun f hf=>h f (by simp [hf])];rfl
theorem v4w (out:List R2) (last:Int) (inn:Bool) (x:Int):Vp out last inn x=bif inn&& !(last == x) then push out last x else out:=by
 unfold Vp push;cases inn
 ·rfl
 ·cases (last == x) <;> rfl
theorem y9o {out:List R2} {last x:Int} (inn:Bool) (hc:Can out) (hb: ∀s∈out,s.b≤last) (hx:last≤x):
  Can (Vp out last inn x)∧(∀s∈Vp out last inn x,s.b≤x)∧ ∀y,pt (Vp out last inn x) y↔pt out y∨(inn=true∧last≤y∧y<x):=by
 rw [v4w];rcases Ym (inn&& !(last == x)) with q | q
 ·rw [q,Ab];simp only [Ac,BZ,beq_eq_false_iff_ne,ne_eq] at q;obtain ⟨p1,p2,p3⟩:=w2i hc hb (show last<x by omega);refine ⟨p1,p2,fun y=> ?_⟩;rw [p3];simp [q.1]
 ·rw [q,Aa];refine ⟨hc,fun s hs=>by have:=hb s hs;omega,fun y=>⟨.inl,fun h=>h.elim id fun ⟨h1,h2,h3⟩=> ?_⟩⟩;rw [h1,Al] at q;have:last=x:=by simpa using q
  omega
def Asc (E:List R3):Prop:=E.Pairwise fun e f=>e.a≤f.a
theorem w9d : ∀(E:List R3) (o last:Int) (out:List R2),Asc E→(∀e∈E,last≤e.a)→Can out→(∀s∈out,s.b≤last)→
  Can (swF E o last (decide (o>0)) out)∧ ∀y,pt (swF E o last (decide (o>0)) out) y↔pt out y∨(last≤y∧0<o+net E y∧ ∃e∈E,y<e.a)
 | [],o,last,out,_,_,hc,_=>⟨hc,fun y=>⟨.inl,fun h=>h.elim id fun ⟨_,_,e,he,_⟩=>by cases he⟩⟩
 | e ::r,o,last,out,hE,hl,hc,hb=>by
  have he:=hl e (by simp);have hr:=AU.1 hE;obtain ⟨p1,p2,p3⟩:=y9o (decide (o>0)) hc hb he;obtain ⟨q1,q2⟩:=w9d r (o+e.c) e.a (Vp out last (decide (o>0)) e.a) hr.2 hr.1 p1 p2;rw [y1u];refine ⟨q1,fun y=> ?_⟩;rw [q2,p3,Qn];constructor
  ·rintro ((h | ⟨h1,h2,h3⟩) | ⟨h1,h2,f,hf,h3⟩)
   ·exact .inl h
   ·right;have h1:=AA h1;refine ⟨h2,?_,e,by simp,h3⟩;rw [As (by omega),w2m r y fun f hf=>by have:=hr.1 f hf;omega];omega
   ·right;refine ⟨by omega,?_,f,by simp [hf],h3⟩;rw [Az h1];omega
  ·rintro (h | ⟨h1,h2,f,hf,h3⟩)
   ·exact .inl (.inl h)
   ·by_cases hy:e.a≤y
    ·right;rw [Az hy] at h2;refine ⟨hy,by omega,f,?_,h3⟩;rcases AG.1 hf with rfl | hf
     ·omega
     ·exact hf
    ·left;right;rw [As hy,w2m r y fun f hf=>by have:=hr.1 f hf;omega] at h2;exact ⟨Ag (by omega),h1,by omega⟩
theorem v9c (l:List R2) (hv: ∀s∈l,s.a<s.b) (y:Int):0≤net (Ka l) y∧(0<net (Ka l) y↔pt l y):=by
 induction l with
 | nil=>exact ⟨AZ _,by simp [net,Ka,pt]⟩
 | cons s l ih=>
  obtain ⟨i1,i2⟩:=ih fun t ht=>hv t (by simp [ht]);have hs:=hv s (by simp);have e:net (Ka (s::l)) y=(if s.a≤y∧y<s.b then 1 else 0)+net (Ka l) y:=by
   show net (⟨s.a,0,1⟩::⟨s.b,0,-1⟩::Ka l) y=_;rw [Qn,Qn];show (if s.a≤y then (1:Int) else 0)+((if s.b≤y then (-1:Int) else 0)+net (Ka l) y)=_;by_cases h1:s.a≤y
   ·by_cases h2:s.b≤y
    ·rw [Az h1,Az h2,As (show¬(s.a≤y∧y<s.b) by omega)];omega
    ·rw [Az h1,As h2,Az (show s.a≤y∧y<s.b by omega)];omega
   ·rw [As h1,As (show¬s.b≤y by omega),As (show¬(s.a≤y∧y<s.b) by omega)];omega
  rw [e];by_cases h:s.a≤y∧y<s.b
  ·rw [Az h];exact ⟨by omega,⟨fun _=>⟨s,by simp,h⟩,fun _=>by omega⟩⟩
  ·rw [As h];refine ⟨by omega,?_⟩;rw [B6,i2];constructor
   ·rintro ⟨t,ht,h2⟩;exact ⟨t,by simp [ht],h2⟩
   ·rintro ⟨t,ht,h2⟩;rcases AG.1 ht with rfl | ht
    ·exact absurd h2 h
    ·exact ⟨t,ht,h2⟩
theorem y5q {l:List R2} {s:R2} (h:s∈l):(⟨s.b,0,-1⟩:R3)∈Ka l∧(⟨s.a,0,1⟩:R3)∈Ka l:=
 ⟨AP.2 ⟨s,h,by simp⟩,AP.2 ⟨s,h,by simp⟩⟩
theorem w1n (l:List R3) (h:y1j l=true):Asc (z0v l):=by refine Bo.2 fun i j hi hj hij=> ?_;have:=(Kr l h).2 i j hij hj;rwa [Yo hi,Yo hj] at this
theorem x6i (l:List R2) (hv:l.all z0u=true):Can (swV l)∧ ∀y,pt (swV l) y↔pt l y:=by
 have hb:y1j (Ka l)=true:=Aw.2 fun e he=>by obtain ⟨s,hs,h1⟩:=AP.1 he;have hv:=Aw.1 hv s hs;simp only [z0u,Ac,At] at hv;simp only [AG,BD,Cq] at h1;rcases h1 with rfl | rfl <;> exact Ag (by simp only;omega)
 have hpos: ∀s∈l,s.a<s.b:=fun s hs=>by have:=Aw.1 hv s hs;simp only [z0u,Ac,At] at this;exact this.1
 obtain ⟨hp,_⟩:=Kr (Ka l) hb;have ha:=w1n (Ka l) hb;have hn: ∀y,net (z0v (Ka l)) y=net (Ka l) y:=fun y=>v9b hp y;unfold swV;generalize z0v (Ka l)=E at hp ha hn;cases E with
 | nil=>refine ⟨.nil,fun y=>⟨fun ⟨s,hs,_⟩=>(by cases hs),fun ⟨s,hs,_⟩=> ?_⟩⟩;have:=hp.mem_iff.2 (y5q hs).1;cases this
 | cons e r=>
  have hr:=AU.1 ha;rw [y1u,B6];have e0:Vp [] 0 false e.a=[]:=rfl;rw [e0];obtain ⟨q1,q2⟩:=w9d r e.c e.a [] hr.2 hr.1 .nil (by simp);refine ⟨q1,fun y=> ?_⟩;rw [q2];obtain ⟨n1,n2⟩:=v9c l hpos y;rw [←n2,←hn,Qn];constructor
  ·rintro (⟨s,hs,_⟩ | ⟨h1,h2,_⟩)
   ·cases hs
   ·rw [Az h1];omega
  ·intro h;have hpt:=n2.1 (by rw [←hn,Qn];exact h);obtain ⟨s,hs,s1,s2⟩:=hpt;have m1:=hp.mem_iff.2 (y5q hs).1;have m2:=hp.mem_iff.2 (y5q hs).2;have hea:e.a≤y:=by
    rcases AG.1 m2 with h' | h'
    ·rw [←h'];exact s1
    ·have h'':e.a≤s.a:=hr.1 _ h';omega
   right;rw [Az hea] at h;refine ⟨hea,h,⟨s.b,0,-1⟩,?_,s2⟩;rcases AG.1 m1 with h' | h'
   ·have h'':e.a=s.b:=(by rw [←h']);omega
   ·exact h'
theorem x3v (out:List Int) (hs:out.Pairwise (· < ·)) (x:Int): ∀k,k≤out.length→x8j out x k≤k∧(∀i,x8j out x k≤i→i<k→x<rd out i)∧(0<x8j out x k→rd out (x8j out x k - 1)≤x)
 | 0,_=>⟨An _,fun i h1 h2=>by omega,fun h=>by simp [x8j] at h⟩
 | k+1,hk=>by
  unfold x8j;rcases Ym (decide (rd out k>x)) with q | q
  ·rw [q,Ab];obtain ⟨h1,h2,h3⟩:=x3v out hs x k (by omega);refine ⟨by omega,fun i a b=> ?_,h3⟩;rcases Bd (Ca b) with rfl | b
   ·exact AA q
   ·exact h2 i a b
  ·rw [q,Aa];exact ⟨An _,fun i a b=>by omega,fun _=>by have:=of_decide_eq_false q;simp only [Nat.add_sub_cancel];omega⟩
theorem v3k (out:List Int) (hs:out.Pairwise (· < ·)) (x:Int):(y5e out x).Pairwise (· < ·)∧ ∀y,y∈y5e out x↔y∈out∨y=x:=by
 obtain ⟨h1,h2,h3⟩:=x3v out hs x out.length (An _);unfold y5e;split
 ·rename_i h0;rw [h0] at h2;refine ⟨AU.2 ⟨fun y hy=> ?_,hs⟩,fun y=>by simp [or_comm]⟩;obtain ⟨i,hi,rfl⟩:=A1 hy;have:=h2 i (AD _) hi;rwa [Yo hi] at this
 ·rename_i k hk;rw [hk] at h1 h2 h3;have h3:rd out k≤x:=h3 (Nat.succ_pos _);have hkl:k<out.length:=by omega
  rcases Ym (rd out k == x) with q | q
  ·rw [q,Ab];have q:rd out k=x:=by simpa using q
   refine ⟨hs,fun y=>⟨.inl,fun h=>h.elim id fun e=> ?_⟩⟩;rw [e,←q,Yo hkl];exact AN hkl
  ·rw [q,Aa];have q:rd out k≠x:=by simpa using q
   refine ⟨?_,fun y=> ?_⟩
   ·have st:(out.take (k+1)).Pairwise (· < ·):=hs.sublist (List.take_sublist _ _);have sd:(out.drop (k+1)).Pairwise (· < ·):=hs.sublist (List.drop_sublist _ _);have ht: ∀y∈out.take (k+1),y<x:=fun y hy=>by
     obtain ⟨i,hi,rfl⟩:=A1 hy;have hi':i<k+1:=by simp at hi;omega
     rw [Bl];have:rd out i≤rd out k:=by
      rcases Bd (Ca hi') with rfl | h
      ·exact AZ _
      ·exact Cs (z8b hs h hkl)
     rw [Yo (show i<out.length by omega)] at this;omega
    have hd: ∀y∈out.drop (k+1),x<y:=fun y hy=>by
     obtain ⟨i,hi,rfl⟩:=A1 hy;have hi':k+1+i<out.length:=by simp at hi;omega
     rw [Cr,←Yo hi'];exact h2 _ (by omega) hi'
    refine BI.2 ⟨st,AU.2 ⟨hd,sd⟩,fun a ha b hb=> ?_⟩;rcases AG.1 hb with rfl | hb
    ·exact ht a ha
    ·exact Int.lt_trans (ht a ha) (hd b hb)
   ·rw [AF,AG];constructor
    ·rintro (h | h | h)
     ·exact .inl (BY h)
     ·exact .inr h
     ·exact .inl (List.mem_of_mem_drop h)
    ·rintro (h | h)
     ·rw [←List.take_append_drop (k+1) out,AF] at h;exact h.elim .inl fun h=>.inr (.inr h)
     ·exact .inr (.inl h)
theorem Wy (l:List Int):(z1g l).Pairwise (· < ·)∧ ∀y,y∈z1g l↔y∈l:=by
 have: ∀(l out:List Int),out.Pairwise (· < ·)→(l.foldl y5e out).Pairwise (· < ·)∧ ∀y,y∈l.foldl y5e out↔y∈out∨y∈l:=by
  intro l
  induction l with
  | nil=>intro out h;exact ⟨h,fun y=>by simp⟩
  | cons x l ih=>intro out h;obtain ⟨a,b⟩:=v3k out h x;obtain ⟨c,d⟩:=ih (y5e out x) a;refine ⟨c,fun y=> ?_⟩;show y∈l.foldl y5e (y5e out x)↔_;rw [d,b,AG,or_assoc]
 obtain ⟨a,b⟩:=this l [] .nil;exact ⟨a,fun y=>by rw [z1g,b];simp⟩
theorem y0y : ∀(l m:List Int),l.Pairwise (· < ·)→m.Pairwise (· < ·)→(∀x,x∈l↔x∈m)→l=m
 | [],[],_,_,_=>rfl
 | [],b::m,_,_,h=>by have:=(h b).2 (by simp);cases this
 | a::l,[],_,_,h=>by have:=(h a).1 (by simp);cases this
 | a::l,b::m,hl,hm,h=>by
  obtain ⟨a1,a2⟩:=AU.1 hl;obtain ⟨b1,b2⟩:=AU.1 hm;have e:a=b:=by
   have x1:=(h a).1 (by simp);have x2:=(h b).2 (by simp);rcases AG.1 x1 with x1 | x1
   ·exact x1
   rcases AG.1 x2 with x2 | x2
   ·exact x2.symm
   have:=b1 a x1;have:=a1 b x2;omega
  subst e
  congr 1
  refine y0y l m a2 b2 fun x=>⟨fun hx=> ?_,fun hx=> ?_⟩
  ·rcases AG.1 ((h x).1 (by simp [hx])) with e | e
   ·have:=a1 x hx;omega
   ·exact e
  ·rcases AG.1 ((h x).2 (by simp [hx])) with e | e
   ·have:=b1 x hx;omega
   ·exact e
theorem y1a (zs:List Int) (hs:zs.Pairwise (· ≤ ·)): ∀m,m≤zs.length→(compactUpTo zs.toArray m).Pairwise (· < ·)∧ ∀x,x∈compactUpTo zs.toArray m↔x∈zs.take m
 | 0,_=>by simp [compactUpTo]
 | m +1,h=>by
  obtain ⟨h1,h2⟩:=y1a zs hs m (by omega);have hg: ∀j (hj:j<zs.length),zs.toArray[j]! =zs[j]:=fun j hj=>by simp [hj]
  have hle: ∀i j (hi:i<zs.length) (hj:j<zs.length),i<j→zs[i]≤zs[j]:=fun i j hi hj hij=>Bo.1 hs i j hi hj hij;have hm:m<zs.length:=by omega
  rw [compactUpTo_succ,hg m hm,List.take_succ_eq_append_getElem hm];by_cases hk:keeps zs.toArray m=true
  ·rw [Az hk];refine ⟨BI.2 ⟨h1,List.pairwise_singleton _ _,fun x hx y hy=> ?_⟩,fun x=>by rw [AF,AF,h2 x]⟩;rw [AS.1 hy];obtain ⟨i,hi,rfl⟩:=A1 ((h2 x).1 hx);have hi':i<m:=by simp at hi;omega
   rw [Bl];simp only [keeps,At] at hk;rcases hk with hk | hk
   ·omega
   ·rw [hg m hm,hg (m - 1) (by omega)] at hk;have k1:zs[i]≤zs[m - 1]:=by
     rcases Bi i (m - 1) with q | q
     ·exact hle i (m - 1) _ _ q
     ·have e:i=m - 1:=(by omega);subst e;exact AZ _
    have k2:=hle (m - 1) m (by omega) hm (by omega);omega
  ·rw [As hk,AB];refine ⟨h1,fun x=> ?_⟩;rw [h2 x,AF,AS];refine ⟨.inl,fun hx=>hx.elim id fun e=> ?_⟩;simp only [keeps,At,not_or,Decidable.not_not] at hk;rw [hg m hm,hg (m - 1) (by omega)] at hk;rw [e,hk.2];have:m - 1<(zs.take m).length :=by simp;omega
   have e2:(zs.take m)[m - 1]=zs[m - 1]:=Bl;rw [←e2];exact AN this
theorem u1y (zs:List Int):(Xu zs).Pairwise (· ≤ ·):=by have:=List.pairwise_mergeSort (le:=fun x y:Int=>decide (x≤y)) (fun a b c h1 h2=>by simp at*;omega) (fun a b=>by simp;omega) zs;exact this.imp fun h=>by simpa using h
theorem w9j (zs:List Int) (x:Int):x∈Xu zs↔x∈zs:=List.mem_mergeSort
theorem Jd (zs:List Int):Jq zs=z1g zs:=by obtain ⟨h1,h2⟩:=y1a (Xu zs) (u1y zs) (Xu zs).length (An _);obtain ⟨s1,s2⟩:=Wy zs;refine y0y _ _ h1 s1 fun x=> ?_;rw [show Jq zs=compactUpTo (Xu zs).toArray (Xu zs).length from rfl,h2 x,Cu,w9j,s2]
namespace Dim
variable {α β:Type} (D:Dim α β)
def ref (sec:Int→List β) (cs:List Int):Nat→Nat→List α→List β→Nat→List α
 | 0,_,out,_,_=>out
 | k+1,i,out,last,first=>
  bif decide (0<i)&&D.same (sec (rd cs i)) last then ref sec cs k (i+1) (D.grow out first (rd cs (i+1))) last first
  else ref sec cs k (i+1) (out++(sec (rd cs i)).map (D.put (rd cs i) (rd cs (i+1)))) (sec (rd cs i)) out.length
theorem ref_eq (hs: ∀a b,D.same a b=true↔a=b) (l:List α): ∀(k i:Nat) (s:Sw α β) (out:List α) (last:List β) (first:Nat),
  s.out=out→s.last=last→(last≠ []→s.first=first)→(last=[]→out.length≤first)→(0<i→s.fin=rd (D.cuts l) i)→(i=0→last=[])→
  (D.go l k i s).out =D.ref (D.sec l) (D.cuts l) k i out last first
 | 0,i,s,out,last,first,h1,h2,h3,h4,h5,h6=>h1
 | k +1,i,s,out,last,first,h1,h2,h3,h4,h5,h6=>by
  subst h1 h2;have e1:D.go l (k+1) i s=D.go l k (i+1) (D.one l (rd (D.cuts l) i) (rd (D.cuts l) (i+1)) s):=rfl;rw [e1];unfold ref;rcases Ym (decide (0<(D.sec l (rd (D.cuts l) i)).length)&&((s.fin == rd (D.cuts l) i)&&D.same s.last (D.sec l (rd (D.cuts l) i)))) with q | q
  ·have e:D.one l (rd (D.cuts l) i) (rd (D.cuts l) (i+1)) s=⟨D.grow s.out s.first (rd (D.cuts l) (i+1)),s.last,s.first,rd (D.cuts l) (i+1)⟩:=by unfold one;rw [q];rfl
   simp only [Ac,At] at q;obtain ⟨q1,q2,q3⟩:=q;have q3:=(hs _ _).1 q3;have hne:s.last≠ []:=fun h=>by rw [h] at q3;rw [←q3] at q1;exact Nat.lt_irrefl _ q1
   have hi:0<i:=Nat.pos_of_ne_zero fun h=>hne (h6 h);have e2:(decide (0<i)&&D.same (D.sec l (rd (D.cuts l) i)) s.last)=true:=by rw [Ag hi,Al,hs,q3]
   rw [e2,Ab,e];refine ref_eq hs l k (i+1) _ _ _ _ ?_ rfl h3 (fun h=>absurd h hne) (fun _=>rfl) (fun h=>by omega);rw [h3 hne]
  ·have e:D.one l (rd (D.cuts l) i) (rd (D.cuts l) (i+1)) s=⟨s.out++(D.sec l (rd (D.cuts l) i)).map (D.put (rd (D.cuts l) i) (rd (D.cuts l) (i+1))),D.sec l (rd (D.cuts l) i),s.out.length,rd (D.cuts l) (i+1)⟩:=by unfold one;rw [q];rfl
   rcases Ym (decide (0<i)&&D.same (D.sec l (rd (D.cuts l) i)) s.last) with q2 | q2
   ·rw [q2,Ab,e];simp only [Ac,At] at q2;obtain ⟨hi,q3⟩:=q2;have q3:=(hs _ _).1 q3;rw [(hs s.last (D.sec l (rd (D.cuts l) i))).2 q3.symm,Ai,h5 hi] at q;have hz:D.sec l (rd (D.cuts l) i)=[]:=by
     cases h:D.sec l (rd (D.cuts l) i) with
     | nil=>rfl
     | cons a b=>rw [h] at q;simp at q
    have hl:s.last=[]:=(by rw [←q3,hz]);have hf:=h4 hl;rw [hz,A5,AB];refine ref_eq hs l k (i+1) _ _ _ _ ?_ hl.symm (fun h=>absurd hl h) (fun _=> ?_) (fun _=>rfl) (fun h=>by omega)
    ·exact (D.grow_nil _ _ _ hf).symm
    ·rw [D.grow_length];exact hf
   ·rw [q2,Aa,e];exact ref_eq hs l k (i+1) _ _ _ _ rfl rfl (fun _=>rfl) (fun h=>by rw [h];simp) (fun _=>rfl) (fun h=>by omega)
theorem out_eq (hs: ∀a b,D.same a b=true↔a=b) (l:List α):D.out l=D.ref (D.sec l) (D.cuts l) ((D.cuts l).length - 1) 0 [] [] 0:=
 D.ref_eq hs l _ 0 _ [] [] 0 rfl rfl (fun _=>rfl) (fun _=>An _) (fun h=>absurd h (Nat.lt_irrefl _)) (fun _=>rfl)
end Dim
theorem j4k (l:List R4):D4.cuts l=xsV l []:=by unfold Dim.cuts xsV;rw [Jd,show z3n ([]:List R4)=[] from rfl,AB];rfl
theorem j3w (l:List R4) (x y:Int):v6a 2 l [] x y=has4V l x y:=by unfold v6a y5i;show (has4V l x y||has4V [] x y)=_;rw [show has4V [] x y=false from rfl,Bool.or_false]
theorem x1o {l:List R4} {x:Int} {s:R2} (h:s∈D4.inn l x): ∃r∈l,r.a≤x∧x<r.c∧s=⟨r.b,r.d⟩:=by obtain ⟨r,hr,e⟩:=AR.1 h;obtain ⟨h1,h2⟩:=A3.1 hr;simp only [Ac,At] at h2;exact ⟨r,h1,h2.1,h2.2,e.symm⟩
theorem j0w {l:List R4} {x:Int} {r:R4} (h:r∈l) (h1:r.a≤x) (h2:x<r.c):(⟨r.b,r.d⟩:R2)∈D4.inn l x:=by refine AR.2 ⟨r,A3.2 ⟨h,?_⟩,rfl⟩;simp only [Ac,At];exact ⟨h1,h2⟩
theorem sec_eq (l:List R4) (hv:l.all Vj=true) (hl:l.length≤400) (x:Int):D4.sec l x=x5w 2 l [] x:=by
 have hin:=D4.inn_length l x;have hvi:(D4.inn l x).all z0u=true:=Aw.2 fun s hs=>by obtain ⟨r,hr,_,_,rfl⟩:=x1o hs;have:=Aw.1 hv r hr;simp only [Vj,z0u,Ac,At] at this ⊢;omega
 have e1:D4.sec l x=swV (D4.inn l x):=by show Xb (D4.inn l x)=_;unfold Xb;rw [Au (by omega),hvi];rfl
 obtain ⟨c1,c2⟩:=x6i _ hvi;obtain ⟨y1,y2⟩:=Wy (z2c l++z2c []);have e2:x5w 2 l [] x=z1m (ysV l []) ((ysV l []).map fun y=>has4V l x y):=by
  unfold x5w
  congr 1
  exact B2 fun y _=>j3w l x y
 obtain ⟨d1,d2⟩:=u1n (ysV l []) y1 (fun y=>has4V l x y) (D4.inn l x) (fun s hs=>by
  obtain ⟨r,hr,_,_,rfl⟩:=x1o hs;unfold ysV;exact ⟨(y2 _).2 (AF.2 (.inl (AP.2 ⟨r,hr,by simp⟩))),(y2 _).2 (AF.2 (.inl (AP.2 ⟨r,hr,by simp⟩)))⟩) (fun y=>by
  unfold has4V;rw [List.any_eq_true];constructor
  ·rintro ⟨r,hr,h⟩;simp only [in4,Ac,At] at h;exact ⟨_,j0w hr h.1 h.2.1,h.2.2.1,h.2.2.2⟩
  ·rintro ⟨s,hs,h1,h2⟩;obtain ⟨r,hr,r1,r2,rfl⟩:=x1o hs;refine ⟨r,hr,?_⟩;simp only [in4,Ac,At];exact ⟨r1,r2,h1,h2⟩)
 rw [e1,e2];exact v5c _ _ c1 d1 fun y=>by rw [c2,d2]
theorem v3f (l:List R4): ∀(k i:Nat) (out:List R4) (last:List R2) (first:Nat),jF 2 l [] k i out last first=D4.ref (x5w 2 l []) (xsV l []) k i out last first
 | 0,_,_,_,_=>rfl
 | k+1,i,out,last,first=>by unfold jF Dim.ref;rw [v3f l k,v3f l k];rfl
theorem u6p (l:List R4) (hv:l.all Vj=true) (hl:l.length≤400):D4.out l=joV 2 l []:=by
 rw [D4.out_eq (fun a b=>Ch) l,joV,v3f,←j4k]
 congr 1
 funext x
 exact sec_eq l hv hl x
theorem v5u (l:List R6):D6.cuts l=Vy l []:=by unfold Dim.cuts Vy;rw [Jd,show z3m ([]:List R6)=[] from rfl,AB];rfl
theorem u7h (l:List R6) (z:Int):D6.inn l z=atV l z:=rfl
theorem w8z (r:R6):z0a r=w4h r:=by
 unfold z0a w4h;simp only [y5g,y5h];rw [Bool.eq_iff_iff];simp only [Ac,At];have m1: ∀x y z:Int,x≤min y z↔x≤y∧x≤z:=fun x y z=>by omega
 have m2: ∀x y z:Int,max y z≤x↔y≤x∧z≤x:=fun x y z=>by omega
 simp only [ge_iff_le,m1,m2];constructor <;> intro h <;> (repeat' apply And.intro) <;> omega
theorem v5f (l:List R6) (hv:l.all z0a=true) (z:Int):(atV l z).all Vj=true:=Aw.2 fun s hs=>by
 obtain ⟨r,hr,rfl⟩:=AR.1 hs;have:=Aw.1 hv r (A3.1 hr).1;rw [w8z] at this;simp only [w4h,Ac,At] at this;show Vj ⟨r.a,r.b,r.d,r.e⟩=true;simp only [Vj,Ac,At]
 (repeat' apply And.intro) <;> omega
section
variable (l:List R6) (hv:l.all z0a=true) (hl:l.length≤400)
include hv hl
theorem u7d (z:Int):D4.out (atV l z)=joV 2 (atV l z) []:=u6p _ (v5f l hv z) (AL (z2a l z) hl)
theorem u7c (z:Int):u1q l z=y1g 2 l [] z:=by
 have h1:=u7d l hv hl z;have h2:=z2a l z;have e:joV 2 (atV [] z) []=[]:=rfl;unfold u1q y1g x2p;rw [e,show atV ([]:List R6) z=[] from rfl,u7h];unfold Wo;rw [Au (by omega),v5f l hv z,h1,Aa,Ab];by_cases h:400<(joV 2 (atV l z) []).length
 ·rw [Ag (show ((joV 2 (atV l z) []).length :Int)>400 by omega),Ag h];rfl
 ·rw [Au (show¬((joV 2 (atV l z) []).length :Int)>400 by omega),Au h];rfl
theorem u8g (z:Int) (h:u1q l z=false):D6.sec l z=x2p 2 l [] z:=by
 have h1:=u7d l hv hl z;have h2:=z2a l z;rw [u7c l hv hl] at h;show Zd (D6.inn l z)=joV 2 (atV l z) (atV [] z);rw [u7h];unfold Zd;have h3: ¬400<(joV 2 (atV l z) []).length :=fun hh=>by unfold y1g x2p at h;rw [show atV ([]:List R6) z=[] from rfl,Ag hh] at h;cases h
 rw [Au (by omega),v5f l hv z,h1,Aa,Ab,Au (by omega)];rfl
theorem x9k : ∀(k i:Nat) (out:List R6) (last:List R4) (first:Nat),jsF 2 l [] k i out last first=bif okF l k i then some (D6.ref (D6.sec l) (D6.cuts l) k i out last first) else none
 | 0,_,_,_,_=>rfl
 | k+1,i,out,last,first=>by
  unfold jsF okF Dim.ref;rw [←v5u,←u7c l hv hl];rcases Ym (u1q l (rd (D6.cuts l) i)) with q | q
  ·rw [q];rfl
  ·have:=u8g l hv hl _ q;rw [q,Aa,Aa,this,x9k k,x9k k];have e:D6.same (x2p 2 l [] (rd (D6.cuts l) i)) last=Us (x2p 2 l [] (rd (D6.cuts l) i)) last:=rfl;rw [e];cases (decide (0<i)&&Us (x2p 2 l [] (rd (D6.cuts l) i)) last) <;> rfl
theorem jsO_eq :jsO 2 l []=bif okF l ((D6.cuts l).length - 1) 0 then some (D6.out l) else none:=by unfold jsO;rw [x9k l hv hl,←v5u,D6.out_eq (fun a b=>Ch) l]
end
theorem w3y (l:List R6):Wx l=Vn l:=by
 unfold Wx Vn;by_cases h:400<l.length
 ·rw [Ag h];rfl
 ·rw [Au h,Aa,Aa,show l.all w4h=l.all z0a from by congr 1;funext r;exact (w8z r).symm];rcases Ym (l.all z0a) with hv | hv
  ·rw [hv,Ab,Ab];unfold rckF x4n z6m;rw [jsO_eq l hv (by omega)];rcases Ym (okF l ((D6.cuts l).length - 1) 0) with q | q
   ·rw [q,Ab,Ab];show _=bif decide (((D6.out l).length :Int)≤400) then (bif Kw (D6.out l) l then 0 else 8) else 8;by_cases h2:((D6.out l).length :Int)>400
    ·rw [Ag h2,Au (by omega)];rfl
    ·rw [Au h2,Ag (by omega)];rfl
   ·rw [q];rfl
  ·rw [hv];rfl
def Cg (x y:Int):Prop:=(18446744073709551616:Int)∣x - y
theorem Cg.refl (x:Int):Cg x x:=by unfold Cg;rw [Int.sub_self];exact Int.dvd_zero _
theorem Cg.trans {x y z:Int} (h:Cg x y) (k:Cg y z):Cg x z:=by unfold Cg at*;omega
theorem Cg.add {x y u v:Int} (h:Cg x y) (k:Cg u v):Cg (x+u) (y+v):=by unfold Cg at*;omega
theorem Cg.wrap (x:Int):Cg (IntKind.wrap .i64 x) x:=by rw [w64];unfold Cg;omega
theorem Cg.eq {x y:Int} (h:Cg x y):IntKind.wrap .i64 x=IntKind.wrap .i64 y:=by rw [w64,w64];unfold Cg at h;omega
theorem Cg.w {x y:Int} (h:Cg x y):Cg (IntKind.wrap .i64 x) y:=(Cg.wrap x).trans h
theorem Cg.is {x y:Int} (h:Cg x y) (hx: -9223372036854775808≤x∧x≤9223372036854775807) (hy: -9223372036854775808≤y∧y≤9223372036854775807):x=y:=by unfold Cg at h;omega
def ovl (a b c d:Int):Int:=max 0 (min b d - max a c)
def ov (r s:R6):Int:=ovl r.a r.d s.a s.d*ovl r.b r.e s.b s.e*ovl r.c r.f s.c s.f
def nx (d:Int) (r:R6):R6:=
 let t:=1 - 2*Int.tmod d 2
 bif Int.tdiv d 2 == 0 then ⟨r.a+t,r.b,r.c,r.d+t,r.e,r.f⟩ else bif Int.tdiv d 2 == 1 then ⟨r.a,r.b+t,r.c,r.d,r.e+t,r.f⟩ else ⟨r.a,r.b,r.c+t,r.d,r.e,r.f+t⟩
def sm {α:Type} (l:List α) (f:α→Int):Int:=(l.map f).sum
theorem z3h {α:Type} (f:α→Int):sm ([]:List α) f=0:=rfl
theorem We {α:Type} (x:α) (l:List α) (f:α→Int):sm (x::l) f=f x+sm l f:=by simp [sm]
theorem Ks {α:Type} (l m:List α) (f:α→Int):sm (l++m) f=sm l f+sm m f:=by simp [sm]
theorem Yv {α:Type} {l:List α} {f g:α→Int} (h: ∀x∈l,f x=g x):sm l f=sm l g:=by unfold sm;rw [B2 h]
theorem z5n {α:Type} (l:List α) (f g:α→Int):sm l (fun x=>f x+g x)=sm l f+sm l g:=by
 induction l with
 | nil=>rfl
 | cons x l ih=>simp only [We,ih];omega
theorem w9u {α:Type} (l:List α) (f:α→Int) (c:Int):sm l (fun x=>f x*c)=sm l f*c:=by
 induction l with
 | nil=>simp [sm]
 | cons x l ih=>simp only [We,ih,Int.add_mul]
theorem x0b {α:Type} (l:List α) (f:α→Int) (c:Int):sm l (fun x=>c*f x)=c*sm l f:=by
 induction l with
 | nil=>simp [sm]
 | cons x l ih=>simp only [We,ih,Int.mul_add]
theorem Vw {α:Type} (l:List α):sm l (fun _=>0)=0:=by
 induction l with
 | nil=>rfl
 | cons x l ih=>rw [We,ih];rfl
theorem z3s {α β:Type} (l:List α) (m:List β) (f:α→β→Int):sm l (fun x=>sm m (f x))=sm m (fun y=>sm l fun x=>f x y):=by
 induction l with
 | nil=>simp only [z3h,Vw]
 | cons x l ih=>simp only [We,ih,z5n]
theorem w9v {α:Type} {l:List α} {f g:α→Int} (h: ∀x∈l,f x≤g x):sm l f≤sm l g:=by
 induction l with
 | nil=>exact AZ _
 | cons x l ih=>rw [We,We];exact Int.add_le_add (h x (by simp)) (ih fun y hy=>h y (by simp [hy]))
theorem y4a {α:Type} {l:List α} {f:α→Int} (h: ∀x∈l,0≤f x):0≤sm l f:=by have:=w9v h;rwa [Vw] at this
theorem w4w {α:Type} {l:List α} {f:α→Int} (h: ∀x∈l,0≤f x) (h0:sm l f=0): ∀x∈l,f x=0:=by
 induction l with
 | nil=>intro x hx;cases hx
 | cons y l ih=>
  rw [We] at h0;have h1:=h y (by simp);have h2:=y4a fun x hx=>h x (List.mem_cons_of_mem y hx);intro x hx;rcases AG.1 hx with rfl | hx
  ·omega
  ·exact ih (fun z hz=>h z (by simp [hz])) (by omega) x hx
def E2 (d:Int) (X Y:List R6):Int:=sm X fun x=>sm Y fun y=>ov (nx d x) y
def Eqv (B B':List R6):Prop:= ∀f,sm B f=sm B' f
theorem Eqv.refl (X:List R6):Eqv X X:=fun _=>rfl
def c1 (d:Int) (X Y B:List R6):Int:=(E2 d X Y - E2 d B Y) - (E2 d X B - E2 d B B)
open Go.Proofs Go.Sort Go.Shelf Go.RowKit Go.Lib
namespace Dim
variable {α β:Type} (D:Dim α β)
structure Fair :Prop where
 lo_put: ∀x x' b,D.lo (D.put x x' b)=x
 hi_put: ∀x x' b,D.hi (D.put x x' b)=x'
 pr_put: ∀x x' b,D.pr (D.put x x' b)=b
 ext_put: ∀x x' x'' b,D.ext x'' (D.put x x' b)=D.put x x'' b
def Ap (R:β→β→Prop) (a b:α):Prop:=D.hi a≤D.lo b∨D.hi b≤D.lo a∨R (D.pr a) (D.pr b)
theorem v1i {D:Dim α β} (hD:D.Fair) (R:β→β→Prop) (sec:Int→List β) (cs:List Int) (hc:cs.Pairwise (· < ·)) (eC: ∀x,(sec x).Pairwise R):
  ∀(k i:Nat) (pre:List α) (last:List β) (x0:Int),(i+k<cs.length∨k=0)→pre.Pairwise (D.Ap R)→(∀a∈pre,D.hi a≤x0)→(last≠ []→x0≤rd cs i)→(last=[]→x0≤rd cs i)→last.Pairwise R→
  (D.ref sec cs k i (pre++last.map (D.put x0 (rd cs i))) last pre.length).Pairwise (D.Ap R):=by
 have fin: ∀(pre:List α) (last:List β) (x0 x':Int),pre.Pairwise (D.Ap R)→(∀a∈pre,D.hi a≤x0)→last.Pairwise R→(pre++last.map (D.put x0 x')).Pairwise (D.Ap R):=fun pre last x0 x' h1 h2 h3=>by
  refine BI.2 ⟨h1,?_,fun a ha b hb=> ?_⟩
  ·refine List.pairwise_map.2 (h3.imp fun {a b} h=>.inr (.inr ?_));rw [hD.pr_put,hD.pr_put];exact h
  ·obtain ⟨c,_,rfl⟩:=AR.1 hb;exact .inl (by rw [hD.lo_put];exact h2 a ha)
 intro k
 induction k with
 | zero=>intro i pre last x0 _ h1 h2 _ _ h3;exact fin pre last x0 _ h1 h2 h3
 | succ k ih=>
  intro i pre last x0 hk h1 h2 h4 h5 h3;have hlt:rd cs i<rd cs (i+1):=z8b hc (BQ _) (by omega);unfold ref;cases hq:(decide (0<i)&&D.same (sec (rd cs i)) last) with
  | true=>
   rw [Ab];have e:D.grow (pre++last.map (D.put x0 (rd cs i))) pre.length (rd cs (i+1))=pre++last.map (D.put x0 (rd cs (i+1))):=by
    unfold grow;rw [List.take_left,List.drop_left,List.map_map]
    congr 1
    exact B2 fun b _=>hD.ext_put _ _ _ _
   rw [e];exact ih (i+1) pre last x0 (by omega) h1 h2 (fun h=>by have:=h4 h;omega) (fun h=>by have:=h5 h;omega) h3
  | false=>
   rw [Aa];refine ih (i+1) (pre++last.map (D.put x0 (rd cs i))) (sec (rd cs i)) (rd cs i) (by omega) (fin pre last x0 _ h1 h2 h3) (fun a ha=> ?_) (fun _=>by omega) (fun _=>by omega) (eC _);rcases AF.1 ha with ha | ha
   ·have:=h2 a ha;by_cases e:last=[]
    ·have:=h5 e;omega
    ·have:=h4 e;omega
   ·obtain ⟨c,_,rfl⟩:=AR.1 ha;rw [hD.hi_put];exact AZ _
theorem out_apart {D:Dim α β} (hD:D.Fair) (R:β→β→Prop) (hs: ∀a b,D.same a b=true↔a=b) (l:List α) (eC: ∀x,(D.sec l x).Pairwise R):(D.out l).Pairwise (D.Ap R):=by
 rw [D.out_eq hs l];have hc:(D.cuts l).Pairwise (· < ·):=by show (Jq (D.ends l)).Pairwise (· < ·);rw [Jd];exact (Wy _).1
 have:=v1i hD R (D.sec l) (D.cuts l) hc eC ((D.cuts l).length - 1) 0 [] [] (rd (D.cuts l) 0) (by omega) .nil (by simp) (fun _=>AZ _) (fun _=>AZ _) .nil;exact this
end Dim
theorem y6n :D4.Fair:=⟨fun _ _ _=>rfl,fun _ _ _=>rfl,fun _ _ _=>rfl,fun _ _ _ _=>rfl⟩
theorem j4j :D6.Fair:=⟨fun _ _ _=>rfl,fun _ _ _=>rfl,fun _ _ _=>rfl,fun _ _ _ _=>rfl⟩
def Ap2 (s t:R2):Prop:=s.b≤t.a∨t.b≤s.a
def Ap4 (s t:R4):Prop:=s.c≤t.a∨t.c≤s.a∨s.d≤t.b∨t.d≤s.b
def Ap6 (s t:R6):Prop:=s.d≤t.a∨t.d≤s.a∨s.e≤t.b∨t.e≤s.b∨s.f≤t.c∨t.f≤s.c
theorem w9l (l:List R2):(Xb l).Pairwise Ap2:=by
 unfold Xb;by_cases h:400<l.length
 ·rw [Ag h];exact .nil
 ·rw [Au h,Aa];cases hv:l.all z0u with
  | false=>exact .nil
  | true=>rw [Ab];exact (x6i l hv).1.sep.imp fun {s t} h=>.inl (by omega)
theorem v0y (l:List R4):(Zd l).Pairwise Ap4:=by
 have key:(D4.out l).Pairwise Ap4:=(Dim.out_apart y6n Ap2 (fun a b=>Ch) l fun x=>w9l _).imp fun {s t} h=>by
  rcases h with h | h | h | h
  ·exact .inl h
  ·exact .inr (.inl h)
  ·exact .inr (.inr (.inl h))
  ·exact .inr (.inr (.inr h))
 unfold Zd;by_cases h:400<l.length
 ·rw [Ag h];exact .nil
 ·rw [Au h,Aa];cases l.all Vj with
  | false=>exact .nil
  | true=>
   rw [Ab];cases decide (((D4.out l).length :Int)>400) with
   | true=>exact .nil
   | false=>exact key
theorem Ky {l:List R6} (h:Wx l=0):l.length≤400∧(∀r∈l,z0a r=true)∧l=D6.out l∧l.Pairwise Ap6:=by
 unfold Wx at h;by_cases h1:400<l.length
 ·rw [Ag h1] at h;cases h
 ·rw [Au h1,Aa] at h;cases hv:l.all z0a with
  | false=>rw [hv] at h;cases h
  | true=>
   rw [hv,Ab] at h;cases ho:okF l ((D6.cuts l).length - 1) 0 with
   | false=>rw [ho] at h;cases h
   | true=>
    rw [ho,Ab] at h;cases h2:decide (((D6.out l).length :Int)>400) with
    | true=>rw [h2] at h;cases h
    | false=>
     rw [h2,Aa] at h;cases h3:Kw (D6.out l) l with
     | false=>rw [h3] at h;cases h
     | true=>
      have e:D6.out l=l:=AA h3;refine ⟨by omega,fun r hr=>Aw.1 hv r hr,e.symm,?_⟩;have:=(Dim.out_apart j4j Ap4 (fun a b=>Ch) l fun x=>v0y _).imp (S:=Ap6) fun {s t} h=>by
       rcases h with h | h | h | h | h | h
       ·exact .inr (.inr (.inr (.inr (.inl h))))
       ·exact .inr (.inr (.inr (.inr (.inr h))))
       ·exact .inl h
       ·exact .inr (.inl h)
       ·exact .inr (.inr (.inl h))
       ·exact .inr (.inr (.inr (.inl h)))
      rwa [e] at this
theorem y3n {r:R6} (h:z0a r=true):r.a<r.d∧r.b<r.e∧r.c<r.f∧ -1000000≤r.a∧ -1000000≤r.b∧ -1000000≤r.c∧r.d≤1000000∧r.e≤1000000∧r.f≤1000000:=by rw [w8z] at h;simp only [w4h,Ac,At] at h;omega
open Go.Proofs Go.Sort Go.Shelf Go.RowKit Go.Lib
structure z1k (β:Type) where
 a:Int
 b:Int
 s:List β
def ptL {β γ:Type} (inB:β→γ→Prop) (s:List β) (q:γ):Prop:= ∃r∈s,inB r q
theorem x0r {β γ:Type} (inB:β→γ→Prop) (q:γ): ¬ptL inB [] q:=fun ⟨_,h,_⟩=>by cases h
structure Sem (β γ:Type) where
 can:List β→Prop
 inB:β→γ→Prop
 uniq: ∀s t,can s→can t→(∀q,ptL inB s q↔ptL inB t q)→s=t
 some: ∀s,can s→s≠ []→ ∃q,ptL inB s q
 nil:can []
section
variable {β γ:Type} (M:Sem β γ)
def OkS (g:z1k β):Prop:=g.a<g.b∧M.can g.s∧g.s≠ []
def Nxt (g h:z1k β):Prop:=g.b≤h.a∧(g.b=h.a→g.s≠h.s)
inductive z3p :List (z1k β)→Prop
 | nil:z3p []
 | one (g:z1k β) (h:OkS M g):z3p [g]
 | cons (g h:z1k β) (r:List (z1k β)) (ok:OkS M g) (nx:Nxt g h) (k:z3p (h::r)):z3p (g::h::r)
def ptG (G:List (z1k β)) (x:Int) (q:γ):Prop:= ∃g∈G,g.a≤x∧x<g.b∧ptL M.inB g.s q
variable {M}
theorem z3p.head {g:z1k β} {r:List (z1k β)} (h:z3p M (g::r)):OkS M g:=by cases h <;> assumption
theorem z3p.tail {g:z1k β} {r:List (z1k β)} (h:z3p M (g::r)):z3p M r:=by
 cases h with
 | one=>exact .nil
 | cons _ _ _ _ _ k=>exact k
theorem z3p.later {g:z1k β} {r:List (z1k β)} (h:z3p M (g::r)): ∀k∈r,g.b≤k.a:=by
 induction r generalizing g with
 | nil=>intro k hk;cases hk
 | cons k r ih=>
  cases h with
  | cons _ _ _ ok nx kk=>
   intro m hm;rcases AG.1 hm with rfl | hm
   ·exact nx.1
   ·have h1:=ih kk m hm;have h2:=kk.head.1;have h3:=nx.1;omega
theorem z3p.all {G:List (z1k β)} (h:z3p M G): ∀g∈G,OkS M g:=by
 induction G with
 | nil=>intro g hg;cases hg
 | cons k r ih=>
  intro g hg;rcases AG.1 hg with rfl | hg
  ·exact h.head
  ·exact ih h.tail g hg
theorem z3p.before {G:List (z1k β)} {g:z1k β} (k:z3p M (G++[g])): ∀m∈G,m.b≤g.a:=by
 induction G with
 | nil=>intro m hm;cases hm
 | cons m r ih=>
  intro n hn;rcases AG.1 hn with rfl | hn
  ·exact k.later g (by simp)
  ·exact ih k.tail n hn
theorem z3p.snoc {G:List (z1k β)} {g h:z1k β} (k:z3p M (G++[g])) (ok:OkS M h) (nx:Nxt g h):z3p M (G++[g]++[h]):=by
 induction G with
 | nil=>exact .cons g h [] k.head nx (.one h ok)
 | cons m r ih=>
  have i:=ih k.tail;cases r with
  | nil=>
   cases k with
   | cons _ _ _ ok1 nx1 k1=>exact .cons m g [h] ok1 nx1 i
  | cons m2 r=>
   cases k with
   | cons _ _ _ ok1 nx1 k1=>exact .cons m m2 _ ok1 nx1 i
theorem z3p.stretch {G:List (z1k β)} {g:z1k β} {x:Int} (k:z3p M (G++[g])) (hx:g.b≤x):z3p M (G++[⟨g.a,x,g.s⟩]):=by
 induction G with
 | nil=>have:=k.head;exact .one _ ⟨by have:=this.1;show g.a<x;omega,this.2⟩
 | cons m r ih=>
  have i:=ih k.tail;cases r with
  | nil=>
   cases k with
   | cons _ _ _ ok1 nx1 k1=>exact .cons m _ [] ok1 nx1 i
  | cons m2 r=>
   cases k with
   | cons _ _ _ ok1 nx1 k1=>exact .cons m m2 _ ok1 nx1 i
theorem z7v (g:z1k β) (G:List (z1k β)) (x:Int) (q:γ):ptG M (g::G) x q↔(g.a≤x∧x<g.b∧ptL M.inB g.s q)∨ptG M G x q:=by
 constructor
 ·rintro ⟨k,hk,h⟩;rcases AG.1 hk with rfl | hk
  ·exact .inl h
  ·exact .inr ⟨k,hk,h⟩
 ·rintro (h | ⟨k,hk,h⟩)
  ·exact ⟨g,by simp,h⟩
  ·exact ⟨k,by simp [hk],h⟩
theorem y8l (G H:List (z1k β)) (x:Int) (q:γ):ptG M (G++H) x q↔ptG M G x q∨ptG M H x q:=by
 constructor
 ·rintro ⟨k,hk,h⟩;rcases AF.1 hk with hk | hk
  ·exact .inl ⟨k,hk,h⟩
  ·exact .inr ⟨k,hk,h⟩
 ·rintro (⟨k,hk,h⟩ | ⟨k,hk,h⟩)
  ·exact ⟨k,AF.2 (.inl hk),h⟩
  ·exact ⟨k,AF.2 (.inr hk),h⟩
theorem z3p.low {g:z1k β} {r:List (z1k β)} (h:z3p M (g::r)) {x:Int} {q:γ} (hp:ptG M (g::r) x q):g.a≤x:=by
 rcases (z7v g r x q).1 hp with hp | ⟨k,hk,h1,_⟩
 ·exact hp.1
 ·have:=h.later k hk;have:=h.head.1;omega
theorem z3p.rest {g:z1k β} {r:List (z1k β)} (h:z3p M (g::r)) (x:Int) (q:γ):ptG M r x q↔g.b≤x∧ptG M (g::r) x q:=by
 constructor
 ·rintro ⟨k,hk,h1,h2⟩;have:=h.later k hk;exact ⟨by omega,k,by simp [hk],h1,h2⟩
 ·rintro ⟨hx,hp⟩;rcases (z7v g r x q).1 hp with hp | hp
  ·omega
  ·exact hp
theorem z3p.sec0 {g:z1k β} {r:List (z1k β)} (h:z3p M (g::r)) {x:Int} (hx:g.a≤x∧x<g.b) (q:γ):ptG M (g::r) x q↔ptL M.inB g.s q:=by
 rw [z7v];constructor
 ·rintro (h1 | ⟨k,hk,h1,_⟩)
  ·exact h1.2.2
  ·have:=h.later k hk;omega
 ·exact fun h1=>.inl ⟨hx.1,hx.2,h1⟩
theorem x5e : ∀(G H:List (z1k β)),z3p M G→z3p M H→(∀x q,ptG M G x q↔ptG M H x q)→G=H
 | [],[],_,_,_=>rfl
 | [],h::H,_,hH,e=>by obtain ⟨q,hq⟩:=M.some _ hH.head.2.1 hH.head.2.2;have:=(e h.a q).2 ((hH.sec0 ⟨AZ _,hH.head.1⟩ q).2 hq);obtain ⟨k,hk,_⟩:=this;cases hk
 | g::G,[],hG,_,e=>by obtain ⟨q,hq⟩:=M.some _ hG.head.2.1 hG.head.2.2;have:=(e g.a q).1 ((hG.sec0 ⟨AZ _,hG.head.1⟩ q).2 hq);obtain ⟨k,hk,_⟩:=this;cases hk
 | g::G,h::H,hG,hH,e=>by
  have og:=hG.head;have oh:=hH.head;obtain ⟨q,hq⟩:=M.some _ og.2.1 og.2.2;obtain ⟨p,hp⟩:=M.some _ oh.2.1 oh.2.2;have a1:h.a≤g.a:=hH.low ((e g.a q).1 ((hG.sec0 ⟨AZ _,og.1⟩ q).2 hq));have a2:g.a≤h.a:=hG.low ((e h.a p).2 ((hH.sec0 ⟨AZ _,oh.1⟩ p).2 hp));have a3:g.a=h.a:=by omega
  have s1:g.s=h.s:=M.uniq _ _ og.2.1 oh.2.1 fun q=>by rw [←hG.sec0 (x:=g.a) ⟨AZ _,og.1⟩,e,hH.sec0 (x:=g.a) ⟨by omega,by have:=oh.1;omega⟩]
  have key: ∀(g h:z1k β) (G H:List (z1k β)),z3p M (g::G)→z3p M (h::H)→(∀x q,ptG M (g::G) x q↔ptG M (h::H) x q)→g.a=h.a→g.s=h.s→ ¬g.b<h.b:=fun g h G H hG hH e ea es hlt=>by
   have og:=hG.head;have oh:=hH.head;have at_: ∀q,ptG M (g::G) g.b q↔ptL M.inB h.s q:=fun q=>by rw [e,hH.sec0 ⟨by have:=og.1;omega,hlt⟩]
   obtain ⟨q,hq⟩:=M.some _ oh.2.1 oh.2.2;have:=(hG.rest g.b q).2 ⟨AZ _,(at_ q).2 hq⟩;cases hG with
   | one=>obtain ⟨k,hk,_⟩:=this;cases hk
   | cons _ k r ok nx kk=>
    have hk:k.a≤g.b:=kk.low this;have hk2:g.b=k.a:=by have:=nx.1;omega
    refine nx.2 hk2 ?_;rw [es];refine M.uniq _ _ oh.2.1 kk.head.2.1 fun p=> ?_;rw [←at_,←kk.sec0 (x:=g.b) ⟨by omega,by have:=kk.head.1;omega⟩];constructor
    ·exact fun hp=>((z3p.cons g k r ok nx kk).rest g.b p).2 ⟨AZ _,hp⟩
    ·exact fun hp=>(((z3p.cons g k r ok nx kk).rest g.b p).1 hp).2
  have b1:=key g h G H hG hH e a3 s1;have b2:=key h g H G hH hG (fun x q=>(e x q).symm) a3.symm s1.symm;have b3:g.b=h.b:=by omega
  have eg:g=h:=by
   obtain ⟨ga,gb,gs⟩:=g;obtain ⟨ha,hb,hs⟩:=h;simp only at a3 b3 s1
   subst_vars;rfl
  subst eg
  congr 1
  exact x5e G H hG.tail hH.tail fun x q=>by rw [hG.rest,hH.rest,e]
end
namespace Dim
variable {α β:Type} (D:Dim α β)
def flat (G:List (z1k β)):List α:=G.flatMap fun g=>g.s.map (D.put g.a g.b)
theorem flat_append (G H:List (z1k β)):D.flat (G++H)=D.flat G++D.flat H:=by simp [flat]
theorem flat_one (g:z1k β):D.flat [g]=g.s.map (D.put g.a g.b):=by simp [flat]
def inA {γ:Type} (inB:β→γ→Prop) (r:α) (p:Int×γ):Prop:=D.lo r≤p.1∧p.1<D.hi r∧inB (D.pr r) p.2
variable {D}
theorem x1q (hD:D.Fair) {γ:Type} (M:Sem β γ) (G:List (z1k β)) (x:Int) (q:γ):ptL (D.inA M.inB) (D.flat G) (x,q)↔ptG M G x q:=by
 constructor
 ·rintro ⟨r,hr,h⟩;obtain ⟨g,hg,hr⟩:=AP.1 hr;obtain ⟨b,hb,rfl⟩:=AR.1 hr;unfold inA at h;rw [hD.lo_put,hD.hi_put,hD.pr_put] at h;exact ⟨g,hg,h.1,h.2.1,b,hb,h.2.2⟩
 ·rintro ⟨g,hg,h1,h2,b,hb,h3⟩;refine ⟨D.put g.a g.b b,AP.2 ⟨g,hg,AR.2 ⟨b,hb,rfl⟩⟩,?_⟩;unfold inA;rw [hD.lo_put,hD.hi_put,hD.pr_put];exact ⟨h1,h2,h3⟩
def can {γ:Type} (M:Sem β γ) (l:List α):Prop:= ∃G,z3p M G∧l=D.flat G
def sem (hD:D.Fair) {γ:Type} (M:Sem β γ):Sem α (Int×γ) where
 can:=D.can M
 inB:=D.inA M.inB
 uniq:=fun s t ⟨G,hG,e1⟩ ⟨H,hH,e2⟩ h=>by subst e1 e2;rw [x5e G H hG hH fun x q=>by rw [←x1q hD,←x1q hD];exact h (x,q)]
 some:=fun s ⟨G,hG,e1⟩ hs=>by
  subst e1;cases G with
  | nil=>exact absurd rfl hs
  | cons g G=>obtain ⟨q,hq⟩:=M.some _ hG.head.2.1 hG.head.2.2;exact ⟨(g.a,q),(x1q hD M _ _ _).2 ((hG.sec0 ⟨AZ _,hG.head.1⟩ q).2 hq)⟩
 nil:=⟨[],.nil,rfl⟩
variable (D)
def oneS (sec:List β) (x x':Int) (s:Sw α β):Sw α β:=
 bif decide (0<sec.length)&&((s.fin == x)&&D.same s.last sec) then ⟨D.grow s.out s.first x',s.last,s.first,x'⟩
 else ⟨s.out++sec.map (D.put x x'),sec,s.out.length,x'⟩
def goS (sec:Int→List β) (cs:List Int):Nat→Nat→Sw α β→Sw α β
 | 0,_,s=>s
 | k+1,i,s=>goS sec cs k (i+1) (D.oneS (sec (rd cs i)) (rd cs i) (rd cs (i+1)) s)
theorem u6r (l:List α): ∀(k i:Nat) (s:Sw α β),D.go l k i s=D.goS (D.sec l) (D.cuts l) k i s
 | 0,_,_=>rfl
 | k+1,i,s=>u6r l k (i+1) _
variable {D}
structure Inv {γ:Type} (M:Sem β γ) (sec:Int→List β) (cs:List Int) (i:Nat) (s:Sw α β) (G:List (z1k β)):Prop where
 can:z3p M G
 out:s.out=D.flat G
 gap:s.last=[]→ ∀g∈G,g.b<rd cs i
 end_ : s.last ≠ [] → ∃ Gp g, G = Gp ++ [g] ∧ g.s = s.last ∧ g.b = rd cs i ∧ s.fin = rd cs i ∧ s.first = (D.flat Gp).length
 pts: ∀x q,ptG M G x q↔ ∃j,j<i∧rd cs j≤x∧x<rd cs (j+1)∧ptL M.inB (sec (rd cs j)) q
theorem u0i (hD:D.Fair) (hs: ∀a b,D.same a b=true↔a=b) {γ:Type} (M:Sem β γ) {sec:Int→List β} {cs:List Int} (hc:cs.Pairwise (· < ·)) (eC: ∀x,M.can (sec x)) {i:Nat} (hi:i+1<cs.length) {s:Sw α β} {G:List (z1k β)} (h:Inv (D:=D) M sec cs i s G):
  ∃G',Inv (D:=D) M sec cs (i+1) (D.oneS (sec (rd cs i)) (rd cs i) (rd cs (i+1)) s) G':=by
 have hlt:rd cs i<rd cs (i+1):=z8b hc (BQ _) hi;unfold oneS;rcases Ym (decide (0<(sec (rd cs i)).length)&&((s.fin == rd cs i)&&D.same s.last (sec (rd cs i)))) with q | q
 ·rw [q,Ab];simp only [Ac,At] at q;obtain ⟨q1,q2,q3⟩:=q;have q3:=(hs _ _).1 q3;have hne:s.last≠ []:=fun e=>by rw [e] at q3;rw [←q3] at q1;exact Nat.lt_irrefl _ q1
  obtain ⟨Gp,g,e1,e2,e3,e4,e5⟩:=h.end_ hne;subst e1;refine ⟨Gp++[⟨g.a,rd cs (i+1),g.s⟩],h.can.stretch (by omega),?_,fun e=>absurd e hne,fun _=>⟨Gp,_,rfl,e2,rfl,rfl,e5⟩,fun x p=> ?_⟩
  ·show D.grow s.out s.first (rd cs (i+1))=_
   rw [h.out,e5];unfold grow;rw [D.flat_append,D.flat_append,D.flat_one,D.flat_one,List.take_left,List.drop_left,List.map_map]
   congr 1
   exact B2 fun b _=>hD.ext_put _ _ _ _
  ·have hp:=h.pts x p;rw [y8l,z7v] at hp ⊢;have z: ¬ptG M ([]:List (z1k β)) x p:=fun ⟨_,hk,_⟩=>by cases hk
   constructor
   ·rintro (h1 | h1 | h1)
    ·obtain ⟨j,j1,j2⟩:=hp.1 (.inl h1);exact ⟨j,by omega,j2⟩
    ·simp only at h1;by_cases hx:x<g.b
     ·obtain ⟨j,j1,j2⟩:=hp.1 (.inr (.inl ⟨h1.1,hx,h1.2.2⟩));exact ⟨j,by omega,j2⟩
     ·exact ⟨i,BQ _,by omega,h1.2.1,by rw [←q3,←e2];exact h1.2.2⟩
    ·exact absurd h1 z
   ·rintro ⟨j,j1,j2,j3,j4⟩;rcases Bd (Ca j1) with rfl | j1
    ·refine .inr (.inl ⟨?_,j3,?_⟩)
     ·have:=(h.can.all g (by simp)).1;show g.a≤x;omega
     ·show ptL M.inB g.s p;rw [e2,q3];exact j4
    ·rcases hp.2 ⟨j,j1,j2,j3,j4⟩ with h1 | h1 | h1
     ·exact .inl h1
     ·exact .inr (.inl ⟨h1.1,by show x<rd cs (i+1);omega,h1.2.2⟩)
     ·exact absurd h1 z
 ·rw [q,Aa];by_cases he:sec (rd cs i)=[]
  ·rw [he];refine ⟨G,h.can,?_,fun _ g hg=> ?_,fun e=>absurd rfl e,fun x p=> ?_⟩
   ·show s.out++[].map _=_;rw [A5,AB,h.out]
   ·by_cases hl:s.last=[]
    ·have:=h.gap hl g hg;omega
    ·obtain ⟨Gp,g',e1,e2,e3,_⟩:=h.end_ hl;subst e1;rcases AF.1 hg with hg | hg
     ·have:=h.can.before g hg;have:=(h.can.all g' (by simp)).1;omega
     ·rw [AS.1 hg];omega
   ·rw [h.pts];constructor
    ·rintro ⟨j,j1,j2⟩;exact ⟨j,by omega,j2⟩
    ·rintro ⟨j,j1,j2,j3,j4⟩;rcases Bd (Ca j1) with rfl | j1
     ·rw [he] at j4;exact absurd j4 (x0r _ _)
     ·exact ⟨j,j1,j2,j3,j4⟩
  ·have ok:OkS M (⟨rd cs i,rd cs (i+1),sec (rd cs i)⟩:z1k β):=⟨hlt,eC _,he⟩
   have hcan:z3p M (G++[⟨rd cs i,rd cs (i+1),sec (rd cs i)⟩]):=by
    rcases List.eq_nil_or_concat G with rfl | ⟨Gp,g,rfl⟩
    ·exact .one _ ok
    ·rw [List.concat_eq_append] at*;refine h.can.snoc ok ?_;by_cases hl:s.last=[]
     ·have:=h.gap hl g (by simp);exact ⟨by show g.b≤rd cs i;omega,fun e=>by simp only at e;omega⟩
     ·obtain ⟨Gp',g',e1,e2,e3,e4,_⟩:=h.end_ hl;obtain ⟨rfl,e⟩:=List.append_inj' e1 rfl;obtain rfl:g=g':=by simpa using e
      refine ⟨by show g.b≤rd cs i;omega,fun _ e=> ?_⟩;rw [Ag (show 0<(sec (rd cs i)).length from List.length_pos_iff.2 he),e4,(hs _ _).2 (e2.symm.trans e)] at q;simp at q
   refine ⟨_,hcan,?_,fun e=>absurd e he,fun _=>⟨G,_,rfl,rfl,rfl,rfl,by show s.out.length=_;rw [h.out]⟩,fun x p=> ?_⟩
   ·show s.out++_=_;rw [D.flat_append,D.flat_one,h.out]
   ·rw [y8l,z7v,h.pts];have z: ¬ptG M ([]:List (z1k β)) x p:=fun ⟨_,hk,_⟩=>by cases hk
    constructor
    ·rintro (⟨j,j1,j2⟩ | h1 | h1)
     ·exact ⟨j,by omega,j2⟩
     ·exact ⟨i,BQ _,h1⟩
     ·exact absurd h1 z
    ·rintro ⟨j,j1,j2,j3,j4⟩;rcases Bd (Ca j1) with rfl | j1
     ·exact .inr (.inl ⟨j2,j3,j4⟩)
     ·exact .inl ⟨j,j1,j2,j3,j4⟩
theorem u6q (hD:D.Fair) (hs: ∀a b,D.same a b=true↔a=b) {γ:Type} (M:Sem β γ) {sec:Int→List β} {cs:List Int} (hc:cs.Pairwise (· < ·)) (eC: ∀x,M.can (sec x)): ∀(k i:Nat) (s:Sw α β) (G:List (z1k β)),i+k<cs.length∨k=0→Inv (D:=D) M sec cs i s G→
  ∃G',Inv (D:=D) M sec cs (i+k) (D.goS sec cs k i s) G'
 | 0,i,s,G,_,h=>⟨G,h⟩
 | k+1,i,s,G,hk,h=>by obtain ⟨G1,h1⟩:=u0i hD hs M hc eC (show i+1<cs.length by omega) h;obtain ⟨G2,h2⟩:=u6q hD hs M hc eC k (i+1) _ G1 (by omega) h1;exact ⟨G2,by rw [show i+(k+1)=i+1+k by omega];exact h2⟩
theorem j1l (hD:D.Fair) (hs: ∀a b,D.same a b=true↔a=b) {γ:Type} (M:Sem β γ) {sec:Int→List β} {cs:List Int} (hc:cs.Pairwise (· < ·)) (eC: ∀x,M.can (sec x)):
  (D.sem hD M).can (D.goS sec cs (cs.length - 1) 0 ⟨[],[],0,0⟩).out ∧ ∀x q,ptL (D.sem hD M).inB (D.goS sec cs (cs.length - 1) 0 ⟨[],[],0,0⟩).out (x,q)↔ ∃j,j+1<cs.length∧rd cs j≤x∧x<rd cs (j+1)∧ptL M.inB (sec (rd cs j)) q:=by
 obtain ⟨G,h⟩:=u6q hD hs M hc eC (cs.length - 1) 0 ⟨[],[],0,0⟩ [] (by omega) ⟨.nil,rfl,fun _ g hg=>by (cases hg),fun e=>absurd rfl e,fun x q=>⟨fun ⟨_,hg,_⟩=>(by cases hg),fun ⟨j,hj,_⟩=>absurd hj (AM _)⟩⟩;refine ⟨⟨G,h.can,h.out⟩,fun x q=> ?_⟩;rw [h.out];rw [show ptL (D.sem hD M).inB (D.flat G) (x,q)↔ptG M G x q from x1q hD M G x q,h.pts];constructor
 ·rintro ⟨j,h1,h2⟩;exact ⟨j,by omega,h2⟩
 ·rintro ⟨j,h1,h2⟩;exact ⟨j,by omega,h2⟩
end Dim
open Go.Proofs Go.Sort Go.Shelf Go.RowKit Go.Lib
def x2o :Sem R2 Int where
 can:=Can
 inB s y:=s.a≤y∧y<s.b
 uniq:=v5c
 some s hs hn:=by
  cases s with
  | nil=>exact absurd rfl hn
  | cons r l=>exact ⟨r.a,r,by simp,AZ _,hs.pos r (by simp)⟩
 nil:=.nil
def Qd :Sem R4 (Int×Int):=Dim.sem y6n x2o
namespace Dim
variable {α β:Type} {D:Dim α β}
theorem y3a (l m:List α) (hl: ∀r∈m,r∈l) {j:Nat} (hj:j+1<(D.cuts l).length) {x:Int} (h1:rd (D.cuts l) j≤x) (h2:x<rd (D.cuts l) (j+1)):D.inn m (rd (D.cuts l) j)=D.inn m x:=by
 have hc:(D.cuts l).Pairwise (· < ·):=by show (Jq (D.ends l)).Pairwise (· < ·);rw [Jd];exact (Wy _).1
 have fF: ∀r∈m,D.lo r∈D.cuts l∧D.hi r∈D.cuts l:=fun r hr=>by show D.lo r∈Jq (D.ends l)∧D.hi r∈Jq (D.ends l);rw [Jd,(Wy _).2,(Wy _).2];exact ⟨AP.2 ⟨r,hl r hr,by simp⟩,AP.2 ⟨r,hl r hr,by simp⟩⟩
 have side: ∀c,c∈D.cuts l→(c≤rd (D.cuts l) j↔c≤x):=fun c hcm=>by
  obtain ⟨i,hi,rfl⟩:=A1 hcm;rw [←Yo hi];rcases Bi j i with h | h
  ·have:rd (D.cuts l) (j+1)≤rd (D.cuts l) i:=by
    rcases Bd (show j+1≤i from h) with e | e
    ·rw [e];exact AZ _
    ·exact Cs (z8b hc e hi)
   have:=z8b hc (BQ j) hj;constructor <;> intro <;> omega
  ·have:rd (D.cuts l) i≤rd (D.cuts l) j:=by
    rcases Bd h with e | e
    ·rw [e];exact AZ _
    ·exact Cs (z8b hc e (by omega))
   constructor <;> intro <;> omega
 unfold inn
 congr 1
 refine List.filter_congr fun r hr=> ?_;obtain ⟨m1,m2⟩:=fF r hr;have s1:=side _ m1;have s2:=side _ m2;have e1:decide (D.lo r≤rd (D.cuts l) j)=decide (D.lo r≤x):=BJ.2 s1;have e2:decide (rd (D.cuts l) j<D.hi r)=decide (x<D.hi r):=BJ.2 (by constructor <;> intro <;> omega);rw [e1,e2]
theorem v3l (l m:List α) (hl: ∀r∈m,r∈l) {x:Int} (h: ∀j,j+1<(D.cuts l).length → ¬(rd (D.cuts l) j≤x∧x<rd (D.cuts l) (j+1))):D.inn m x=[]:=by
 unfold inn;rw [List.map_eq_nil_iff,List.filter_eq_nil_iff];intro r hr hb;simp only [Ac,At] at hb;have fF:D.lo r∈D.cuts l∧D.hi r∈D.cuts l:=by show D.lo r∈Jq (D.ends l)∧D.hi r∈Jq (D.ends l);rw [Jd,(Wy _).2,(Wy _).2];exact ⟨AP.2 ⟨r,hl r hr,by simp⟩,AP.2 ⟨r,hl r hr,by simp⟩⟩
 have hc:(D.cuts l).Pairwise (· < ·):=by show (Jq (D.ends l)).Pairwise (· < ·);rw [Jd];exact (Wy _).1
 obtain ⟨i,hi,e1⟩:=A1 fF.1;obtain ⟨k,hk,e2⟩:=A1 fF.2;rw [←Yo hi] at e1;rw [←Yo hk] at e2;have h0:rd (D.cuts l) 0≤rd (D.cuts l) i:=by
  rcases Bd (AD i) with e | e
  ·rw [←e];exact AZ _
  ·exact Cs (z8b hc e hi)
 obtain ⟨j,j1,j2,j3⟩:=x1y k hk x (by omega) (by omega);exact h j (by omega) ⟨j2,j3⟩
theorem goJ_can (hD:D.Fair) (hs: ∀a b,D.same a b=true↔a=b) {γ:Type} (M:Sem β γ) (a b:List α) (J:List β→List β→List β) (hJ: ∀x,M.can (J (D.inn a x) (D.inn b x))) (h0:J [] []=[]):
  (D.sem hD M).can (D.goS (fun x=>J (D.inn a x) (D.inn b x)) (D.cuts (a++b)) ((D.cuts (a++b)).length - 1) 0 ⟨[],[],0,0⟩).out ∧
  ∀x q,ptL (D.sem hD M).inB (D.goS (fun x=>J (D.inn a x) (D.inn b x)) (D.cuts (a++b)) ((D.cuts (a++b)).length - 1) 0 ⟨[],[],0,0⟩).out (x,q)↔ptL M.inB (J (D.inn a x) (D.inn b x)) q:=by
 have hc:(D.cuts (a++b)).Pairwise (· < ·):=by show (Jq (D.ends (a++b))).Pairwise (· < ·);rw [Jd];exact (Wy _).1
 obtain ⟨h1,h2⟩:=j1l hD hs M (cs:=D.cuts (a++b)) hc hJ;refine ⟨h1,fun x q=> ?_⟩;rw [h2];constructor
 ·rintro ⟨j,j1,j2,j3,j4⟩;rwa [y3a (a++b) a (fun r hr=>AF.2 (.inl hr)) j1 j2 j3,y3a (a++b) b (fun r hr=>AF.2 (.inr hr)) j1 j2 j3] at j4
 ·intro hp;by_cases hx: ∃j,j+1<(D.cuts (a++b)).length ∧rd (D.cuts (a++b)) j≤x∧x<rd (D.cuts (a++b)) (j+1)
  ·obtain ⟨j,j1,j2,j3⟩:=hx;refine ⟨j,j1,j2,j3,?_⟩;rwa [y3a (a++b) a (fun r hr=>AF.2 (.inl hr)) j1 j2 j3,y3a (a++b) b (fun r hr=>AF.2 (.inr hr)) j1 j2 j3]
  ·have hx': ∀j,j+1<(D.cuts (a++b)).length → ¬(rd (D.cuts (a++b)) j≤x∧x<rd (D.cuts (a++b)) (j+1)):=fun j j1 j2=>hx ⟨j,j1,j2⟩;rw [v3l (a++b) a (fun r hr=>AF.2 (.inl hr)) hx',v3l (a++b) b (fun r hr=>AF.2 (.inr hr)) hx',h0] at hp;exact absurd hp (x0r _ _)
theorem pt_inn {γ:Type} (inB:β→γ→Prop) (l:List α) (x:Int) (q:γ):ptL inB (D.inn l x) q↔ptL (D.inA inB) l (x,q):=by
 constructor
 ·rintro ⟨b,hb,h⟩;obtain ⟨r,hr,rfl⟩:=AR.1 hb;obtain ⟨h1,h2⟩:=A3.1 hr;simp only [Ac,At] at h2;exact ⟨r,h1,h2.1,h2.2,h⟩
 ·rintro ⟨r,hr,h1,h2,h3⟩;refine ⟨D.pr r,AR.2 ⟨r,A3.2 ⟨hr,?_⟩,rfl⟩,h3⟩;simp only [Ac,At];exact ⟨h1,h2⟩
theorem out_goJ (l:List α):D.out l=(D.goS (fun x=>D.mak (D.inn l x)) (D.cuts (l++[])) ((D.cuts (l++[])).length - 1) 0 ⟨[],[],0,0⟩).out :=by rw [AB];unfold out;rw [u6r];rfl
end Dim
theorem same4_iff (a b:List R4):D6.same a b=true↔a=b:=Ch
theorem x3c (a b:List R2):D4.same a b=true↔a=b:=Ch
theorem Ja {l:List R4} (h: ∀r∈l,Vj r=true) (x:Int):(D4.inn l x).all z0u=true:=Aw.2 fun s hs=>by obtain ⟨r,hr,_,_,rfl⟩:=x1o hs;have:=h r hr;simp only [Vj,z0u,Ac,At] at this ⊢;omega
theorem w9k {l:List R2} (hv:l.all z0u=true) (hl:l.length≤400):x2o.can (Xb l)∧ ∀y,ptL x2o.inB (Xb l) y↔ptL x2o.inB l y:=by
 obtain ⟨c1,c2⟩:=x6i l hv;have e:Xb l=swV l:=by unfold Xb;rw [Au (by omega),hv];rfl
 rw [e];exact ⟨c1,c2⟩
theorem w6f {β γ:Type} (M:Sem β γ) {l:List β} (h:M.can l) (hp: ∀q,¬ptL M.inB l q):l=[]:=A0 fun hn=>by obtain ⟨q,hq⟩:=M.some l h hn;exact hp q hq
theorem u7w :Xb []=[]:=by obtain ⟨h1,h2⟩:=w9k (l:=[]) rfl (AD _);exact w6f x2o h1 fun q hq=>x0r _ _ ((h2 q).1 hq)
theorem y4c {l:List R4} (hv: ∀r∈l,Vj r=true) (hl:l.length≤400):Qd.can (D4.out l)∧ ∀p,ptL Qd.inB (D4.out l) p↔ptL Qd.inB l p:=by rw [Dim.out_goJ];have hs: ∀x,x2o.can (D4.mak (D4.inn l x))∧ ∀y,ptL x2o.inB (D4.mak (D4.inn l x)) y↔ptL x2o.inB (D4.inn l x) y:=fun x=>w9k (Ja hv x) (AL (D4.inn_length l x) hl);obtain ⟨h1,h2⟩:=Dim.goJ_can y6n x3c x2o l [] (fun s _=>D4.mak s) (fun x=>(hs x).1) u7w;refine ⟨h1,fun ⟨x,y⟩=> ?_⟩;rw [show ptL Qd.inB _ (x,y)↔_ from h2 x y,(hs x).2,Dim.pt_inn];rfl
theorem at_val4 {l:List R6} (hv: ∀r∈l,z0a r=true) (z:Int): ∀r∈D6.inn l z,Vj r=true:=fun r hr=>by
 obtain ⟨s,hs,rfl⟩:=AR.1 hr;have:=y3n (hv s (A3.1 hs).1);show Vj ⟨s.a,s.b,s.d,s.e⟩=true;simp only [Vj,Ac,At]
 (repeat' apply And.intro) <;> omega
theorem v8a {l:List R4} (hv: ∀r∈l,Vj r=true) (hl:l.length≤400) (h:(D4.out l).length ≤400):Zd l=D4.out l∧Wo l=0:=by have hv':l.all Vj=true:=Aw.2 hv;unfold Zd Wo;rw [Au (by omega),hv',Au (by omega)];exact ⟨rfl,rfl⟩
open Go.Proofs Go.Sort Go.Shelf Go.RowKit Go.Lib
def opB (k:Nat) (a b:Bool):Bool:=match k with
 | 0=>a||b
 | 1=>a&&b
 | _=>a&& !b
theorem opB_ff (k:Nat):opB k false false=false:=by
 match k with
 | 0=>rfl
 | 1=>rfl
 | _+2=>rfl
def Wj (i:Int) (l:List R2):List R3:=l.flatMap fun s=>[⟨s.a,i,1⟩,⟨s.b,i,-1⟩]
def z4y (i:Int) (E:List R3) (y:Int):Int:=(E.map fun e=>if e.b=i∧e.a≤y then e.c else 0).sum
theorem Vo (i:Int) (e:R3) (E:List R3) (y:Int):z4y i (e::E) y=(if e.b=i∧e.a≤y then e.c else 0)+z4y i E y:=by simp [z4y]
theorem y4n (i:Int) (E F:List R3) (y:Int):z4y i (E++F) y=z4y i E y+z4y i F y:=by simp [z4y]
theorem x3z (i:Int) {E F:List R3} (h:E.Perm F) (y:Int):z4y i E y=z4y i F y:=by
 induction h with
 | nil=>rfl
 | cons e _ ih=>rw [Vo,Vo,ih]
 | swap a b l=>simp only [Vo];omega
 | trans _ _ i1 i2=>rw [i1,i2]
theorem v2d (i:Int) (E:List R3) (y:Int) (h: ∀e∈E,y<e.a):z4y i E y=0:=by
 induction E with
 | nil=>rfl
 | cons e E ih=>rw [Vo,As (by have:=h e (by simp);omega),ih fun f hf=>h f (by simp [hf])];rfl
theorem x4a (i:Int) (l:List R2) (hv: ∀s∈l,s.a<s.b) (y:Int):0≤z4y i (Wj i l) y∧(0<z4y i (Wj i l) y↔pt l y):=by
 induction l with
 | nil=>exact ⟨AZ _,by simp [z4y,Wj,pt]⟩
 | cons s l ih=>
  obtain ⟨i1,i2⟩:=ih fun t ht=>hv t (by simp [ht]);have hs:=hv s (by simp);have e:z4y i (Wj i (s::l)) y=(if s.a≤y∧y<s.b then 1 else 0)+z4y i (Wj i l) y:=by
   show z4y i (⟨s.a,i,1⟩::⟨s.b,i,-1⟩::Wj i l) y=_;rw [Vo,Vo];show (if i=i∧s.a≤y then (1:Int) else 0)+((if i=i∧s.b≤y then (-1:Int) else 0)+z4y i (Wj i l) y)=_;by_cases h1:s.a≤y
   ·by_cases h2:s.b≤y
    ·rw [Az ⟨rfl,h1⟩,Az ⟨rfl,h2⟩,As (show¬(s.a≤y∧y<s.b) by omega)];omega
    ·rw [Az ⟨rfl,h1⟩,As (fun h=>h2 h.2),Az (show s.a≤y∧y<s.b by omega)];omega
   ·rw [As (fun h=>h1 h.2),As (fun h=>by have:=h.2;omega),As (show¬(s.a≤y∧y<s.b) by omega)];omega
  rw [e];by_cases h:s.a≤y∧y<s.b
  ·rw [Az h];exact ⟨by omega,⟨fun _=>⟨s,by simp,h⟩,fun _=>by omega⟩⟩
  ·rw [As h];refine ⟨by omega,?_⟩;rw [B6,i2];constructor
   ·rintro ⟨t,ht,h2⟩;exact ⟨t,by simp [ht],h2⟩
   ·rintro ⟨t,ht,h2⟩;rcases AG.1 ht with rfl | ht
    ·exact absurd h2 h
    ·exact ⟨t,ht,h2⟩
theorem y8q (i j:Int) (hij:i≠j) (l:List R2) (y:Int):z4y i (Wj j l) y=0:=by
 induction l with
 | nil=>rfl
 | cons s l ih=>show z4y i (⟨s.a,j,1⟩::⟨s.b,j,-1⟩::Wj j l) y=0;rw [Vo,Vo,As (fun h=>hij h.1.symm),As (fun h=>hij h.1.symm),ih];rfl
def sw2 (f:Bool→Bool→Bool):List R3→Int→Int→Int→Bool→List R2→List R2
 | [],_,_,_,_,out=>out
 | e::r,o,p,last,inn,out=>
  sw2 f r (bif e.b == 0 then o+e.c else o) (bif e.b == 0 then p else p+e.c) e.a (f (decide ((bif e.b == 0 then o+e.c else o)>0)) (decide ((bif e.b == 0 then p else p+e.c)>0))) (Vp out last inn e.a)
def Two (E:List R3):Prop:= ∀e∈E,e.b=0∨e.b=1
theorem w9e (f:Bool→Bool→Bool): ∀(E:List R3) (o p last:Int) (out:List R2),Asc E→Two E→(∀e∈E,last≤e.a)→Can out→(∀s∈out,s.b≤last)→
  Can (sw2 f E o p last (f (decide (o>0)) (decide (p>0))) out)∧ ∀y,pt (sw2 f E o p last (f (decide (o>0)) (decide (p>0))) out) y↔pt out y∨(last≤y∧f (decide (o+z4y 0 E y>0)) (decide (p+z4y 1 E y>0))=true∧ ∃e∈E,y<e.a)
 | [],o,p,last,out,_,_,_,hc,_=>⟨hc,fun y=>⟨.inl,fun h=>h.elim id fun ⟨_,_,e,he,_⟩=>by cases he⟩⟩
 | e ::r,o,p,last,out,hE,ht,hl,hc,hb=>by
  have he:=hl e (by simp);have hr:=AU.1 hE;obtain ⟨p1,p2,p3⟩:=y9o (f (decide (o>0)) (decide (p>0))) hc hb he;have hz: ∀y,y<e.a→ ∀i,z4y i (e::r) y=0:=fun y hy i=>v2d i _ _ fun g hg=>by
   rcases AG.1 hg with rfl | hg
   ·exact hy
   ·have:=hr.1 g hg;omega
  have main: ∀(o' p':Int),(∀y,e.a≤y→o'+z4y 0 r y=o+z4y 0 (e::r) y∧p'+z4y 1 r y=p+z4y 1 (e::r) y)→
    Can (sw2 f r o' p' e.a (f (decide (o'>0)) (decide (p'>0))) (Vp out last (f (decide (o>0)) (decide (p>0))) e.a))∧
    ∀y,pt (sw2 f r o' p' e.a (f (decide (o'>0)) (decide (p'>0))) (Vp out last (f (decide (o>0)) (decide (p>0))) e.a)) y↔pt out y∨(last≤y∧f (decide (o+z4y 0 (e::r) y>0)) (decide (p+z4y 1 (e::r) y>0))=true∧ ∃g∈e::r,y<g.a):=fun o' p' hop=>by
   obtain ⟨q1,q2⟩:=w9e f r o' p' e.a (Vp out last (f (decide (o>0)) (decide (p>0))) e.a) hr.2 (fun g hg=>ht g (by simp [hg])) hr.1 p1 p2;refine ⟨q1,fun y=> ?_⟩;rw [q2,p3];constructor
   ·rintro ((h | ⟨h1,h2,h3⟩) | ⟨h1,h2,g,hg,h3⟩)
    ·exact .inl h
    ·refine .inr ⟨h2,?_,e,by simp,h3⟩;rw [hz y h3,hz y h3,A6,A6];exact h1
    ·refine .inr ⟨by omega,?_,g,by simp [hg],h3⟩;obtain ⟨e1,e2⟩:=hop y h1;rw [←e1,←e2];exact h2
   ·rintro (h | ⟨h1,h2,g,hg,h3⟩)
    ·exact .inl (.inl h)
    ·by_cases hy:e.a≤y
     ·right;obtain ⟨e1,e2⟩:=hop y hy;refine ⟨hy,by rw [e1,e2];exact h2,g,?_,h3⟩;rcases AG.1 hg with rfl | hg
      ·omega
      ·exact hg
     ·left;right;rw [hz y (by omega),hz y (by omega),A6,A6] at h2;exact ⟨h2,h1,by omega⟩
  show Can (sw2 f r _ _ _ _ _)∧ ∀y,pt (sw2 f r _ _ _ _ _) y↔_;rcases ht e (by simp) with h0 | h0
  ·have hb0:(e.b == 0)=true:=by rw [h0];rfl
   rw [hb0,Ab,Ab];refine main _ _ fun y hy=>⟨?_,?_⟩
   ·rw [Vo,Az ⟨h0,hy⟩];omega
   ·rw [Vo,As (fun h=>by have:=h.1;omega)];omega
  ·have hb0:(e.b == 0)=false:=by rw [h0];rfl
   rw [hb0,Aa,Aa];refine main _ _ fun y hy=>⟨?_,?_⟩
   ·rw [Vo,As (fun h=>by have:=h.1;omega)];omega
   ·rw [Vo,Az ⟨h0,hy⟩];omega
instance ptDec (l:List R2) (y:Int):Decidable (pt l y):=Classical.propDecidable _
theorem u7t (f:Bool→Bool→Bool) (hf:f false false=false) (a b:List R2) (ha: ∀s∈a,s.a<s.b) (hb: ∀s∈b,s.a<s.b) (E:List R3) (hp:E.Perm (Wj 0 a++Wj 1 b)) (hE:Asc E):
  Can (sw2 f E 0 0 0 false [])∧ ∀y,pt (sw2 f E 0 0 0 false []) y↔f (decide (pt a y)) (decide (pt b y))=true:=by
 have hn: ∀y,z4y 0 E y=z4y 0 (Wj 0 a) y∧z4y 1 E y=z4y 1 (Wj 1 b) y:=fun y=>by rw [x3z 0 hp,x3z 1 hp,y4n,y4n,y8q 0 1 (by decide),y8q 1 0 (by decide)];omega
 have hd: ∀y,decide (z4y 0 E y>0)=decide (pt a y)∧decide (z4y 1 E y>0)=decide (pt b y):=fun y=>by obtain ⟨e1,e2⟩:=hn y;exact ⟨BJ.2 (by rw [e1];exact (x4a 0 a ha y).2),BJ.2 (by rw [e2];exact (x4a 1 b hb y).2)⟩
 have ht:Two E:=fun e he=>by
  rcases AF.1 (hp.mem_iff.1 he) with h | h
  ·obtain ⟨s,_,h⟩:=AP.1 h;simp only [AG,BD,Cq] at h;rcases h with rfl | rfl <;> exact .inl rfl
  ·obtain ⟨s,_,h⟩:=AP.1 h;simp only [AG,BD,Cq] at h;rcases h with rfl | rfl <;> exact .inr rfl
 have cover: ∀y,f (decide (pt a y)) (decide (pt b y))=true→ ∃e∈E,y<e.a∧ ∃g∈E,g.a≤y:=fun y hy=>by
  by_cases h1:pt a y
  ·obtain ⟨s,hs,s1,s2⟩:=h1;exact ⟨⟨s.b,0,-1⟩,hp.mem_iff.2 (AF.2 (.inl (AP.2 ⟨s,hs,by simp⟩))),s2,⟨s.a,0,1⟩,hp.mem_iff.2 (AF.2 (.inl (AP.2 ⟨s,hs,by simp⟩))),s1⟩
  ·by_cases h2:pt b y
   ·obtain ⟨s,hs,s1,s2⟩:=h2;exact ⟨⟨s.b,1,-1⟩,hp.mem_iff.2 (AF.2 (.inr (AP.2 ⟨s,hs,by simp⟩))),s2,⟨s.a,1,1⟩,hp.mem_iff.2 (AF.2 (.inr (AP.2 ⟨s,hs,by simp⟩))),s1⟩
   ·rw [Au h1,Au h2,hf] at hy;cases hy
 cases E with
 | nil=>refine ⟨.nil,fun y=>⟨fun ⟨s,hs,_⟩=>(by cases hs),fun hy=> ?_⟩⟩;obtain ⟨e,he,_⟩:=cover y hy;cases he
 | cons e r=>
  have hr:=AU.1 hE;have hz0:f (decide ((0:Int)>0)) (decide ((0:Int)>0))=false:=hf;have e0:sw2 f (e::r) 0 0 0 false []=sw2 f (e::r) 0 0 e.a (f (decide ((0:Int)>0)) (decide ((0:Int)>0))) []:=by rw [hz0];show sw2 f r _ _ _ _ (Vp [] 0 false e.a)=sw2 f r _ _ _ _ (Vp [] e.a false e.a);rfl
  rw [e0];obtain ⟨q1,q2⟩:=w9e f (e::r) 0 0 e.a [] hE ht (fun g hg=>by
   rcases AG.1 hg with rfl | hg
   ·exact AZ _
   ·exact hr.1 g hg) .nil (by simp)
  refine ⟨q1,fun y=> ?_⟩;rw [q2,B6,B6,(hd y).1,(hd y).2];constructor
  ·rintro (⟨s,hs,_⟩ | ⟨_,h2,_⟩)
   ·cases hs
   ·exact h2
  ·intro hy;obtain ⟨g,hg,h1,k,hk,h2⟩:=cover y hy;refine .inr ⟨?_,hy,g,hg,h1⟩;rcases AG.1 hk with rfl | hk
   ·exact h2
   ·have h3:e.a≤k.a:=hr.1 k hk;omega
def tri :Nat→Nat
 | 0=>0
 | k+1=>tri k+k
theorem w9c : ∀n,tri (n+1)+tri n=n*n
 | 0=>rfl
 | n+1=>by have:=w9c n;show tri (n+1)+(n+1)+(tri n+n)=(n+1)*(n+1);rw [AO,Nat.mul_add];omega
def hat (n:Nat):Nat→Nat
 | 0=>0
 | v+1=>hat n v+min v (2*n - v)
theorem v3p (n:Nat): ∀v,v≤n+1→hat n v=tri v
 | 0,_=>rfl
 | v+1,h=>by show hat n v+min v (2*n - v)=tri v+v;rw [v3p n v (by omega)];omega
theorem y3c (n:Nat): ∀j,j≤n→hat n (n+1+j)+tri (n - j)=n*n
 | 0,_=>by rw [A4,v3p n _ (An _)];exact w9c n
 | j+1,h=>by
  have:=y3c n j (by omega);show hat n (n+1+j)+min (n+1+j) (2*n - (n+1+j))+tri (n - (j+1))=_;have e:tri (n - j)=tri (n - (j+1))+(n - (j+1)):=by rw [show n - j=(n - (j+1))+1 by omega];rfl
  omega
theorem hat_le (n v:Nat):hat n v≤n*n:=by
 by_cases h1:v≤2*n+1
 ·by_cases h2:v≤n+1
  ·have h3:=y3c n 0 (AD _);have mono: ∀k v,hat n v≤hat n (v+k):=fun k v=>by
    induction k with
    | zero=>exact An _
    | succ k ih=>exact AL ih (BC _ _)
   have:=mono (n+1 - v) v;rw [show v+(n+1 - v)=n+1+0 by omega] at this;omega
  ·have:=y3c n (v - (n+1)) (by omega);rw [show n+1+(v - (n+1))=v by omega] at this;omega
 ·have h3:hat n (2*n+1)≤n*n:=by have:=y3c n n (An _);rw [show n+1+n=2*n+1 by omega] at this;omega
  have: ∀k,hat n (2*n+1+k)=hat n (2*n+1):=fun k=>by
   induction k with
   | zero=>rfl
   | succ k ih=>show hat n (2*n+1+k)+min (2*n+1+k) (2*n - (2*n+1+k))=_;rw [ih];omega
  have h4:=this (v - (2*n+1));rw [show 2*n+1+(v - (2*n+1))=v by omega] at h4;omega
theorem w3m (n:Nat) (E:Nat→Nat): ∀k,(∀i,i+1<k→E i<E (i+1))→((List.range k).map fun i=>min (E i) (2*n - E i)).sum ≤(match k with | 0=>0 | k+1=>hat n (E k+1))
 | 0,_=>An _
 | k+1,h=>by
  rw [BH,Be,B7];have ih:=w3m n E k fun i hi=>h i (by omega);have mono: ∀k v,hat n v≤hat n (v+k):=fun k v=>by
   induction k with
   | zero=>exact An _
   | succ k ih=>exact AL ih (BC _ _)
  simp only [AW,A5,BF,List.sum_nil,A4];show _≤hat n (E k)+min (E k) (2*n - E k);cases k with
  | zero=>simp only [List.range_zero,A5,List.sum_nil];omega
  | succ k=>have h1:=h k (by omega);have h2:=mono (E (k+1) - (E k+1)) (E k+1);rw [show E k+1+(E (k+1) - (E k+1))=E (k+1) by omega] at h2;simp only at ih;omega
def x5y (p:Int→Bool) (l:List Int):Nat:=(l.filter p).length
theorem z1z (p:Int→Bool) (x:Int) (l:List Int):x5y p (x::l)=(if p x=true then 1 else 0)+x5y p l:=by
 unfold x5y;rw [Bs];split
 ·simp;omega
 ·simp
theorem j3y (p:Int→Bool) (l:List Int):x5y p l≤l.length:=BO _ _
theorem v4v {p q:Int→Bool} (h: ∀x,p x=true→q x=true) (l:List Int):x5y p l≤x5y q l:=by
 induction l with
 | nil=>exact An _
 | cons x l ih=>
  rw [z1z,z1z];by_cases h1:p x=true
  ·rw [Az h1,Az (h x h1)];omega
  ·rw [As h1];omega
theorem j3x {p q:Int→Bool} (h: ∀x,p x=true→q x=true) {l:List Int} {y:Int} (hy:y∈l) (hq:q y=true) (hp:p y=false):x5y p l<x5y q l:=by
 induction l with
 | nil=>cases hy
 | cons x l ih=>
  rw [z1z,z1z];rcases AG.1 hy with rfl | hy
  ·have:=v4v h l;rw [hp,hq];simp;omega
  ·have:=ih hy;by_cases h1:p x=true
   ·rw [Az h1,Az (h x h1)];omega
   ·rw [As h1];omega
namespace Dim
variable {α β:Type} {D:Dim α β}
theorem inn_min (l:List α) (x:Int) (hv: ∀r∈l,D.lo r<D.hi r):(D.inn l x).length ≤min (x5y (fun y=>decide (y≤x)) (D.ends l)) (2*l.length - x5y (fun y=>decide (y≤x)) (D.ends l)):=by
 induction l with
 | nil=>exact AD _
 | cons r l ih=>
  have ih:=ih fun s hs=>hv s (by simp [hs]);have hr:=hv r (by simp);have hc:=j3y (fun y=>decide (y≤x)) (D.ends l);rw [D.ends_length] at hc;have e:x5y (fun y=>decide (y≤x)) (D.ends (r::l))=(if D.lo r≤x then 1 else 0)+((if D.hi r≤x then 1 else 0)+x5y (fun y=>decide (y≤x)) (D.ends l)):=by show x5y _ (D.lo r::D.hi r::D.ends l)=_;rw [z1z,z1z];simp only [At]
  have e2:(D.inn (r::l) x).length =(if D.lo r≤x∧x<D.hi r then 1 else 0)+(D.inn l x).length :=by
   unfold inn;rw [Bs];by_cases h:D.lo r≤x∧x<D.hi r
   ·rw [Az (by simp [h.1,h.2]),Az h];simp;omega
   ·rw [As (by simp;intro h1;exact Int.not_lt.1 fun h2=>h ⟨h1,h2⟩),As h,Ah]
  rw [e,e2,AV];by_cases h1:D.lo r≤x <;> by_cases h2:D.hi r≤x
  ·rw [Az h1,Az h2,As (by omega)];omega
  ·rw [Az h1,As h2,Az (by omega)];omega
  ·omega
  ·rw [As h1,As h2,As (by omega)];omega
theorem open_sum (l:List α) (hv: ∀r∈l,D.lo r<D.hi r): ∀k,k≤(D.cuts l).length →((List.range k).map fun i=>(D.inn l (rd (D.cuts l) i)).length).sum ≤l.length*l.length:=fun k hk=>by
 have hc:(D.cuts l).Pairwise (· < ·):=by show (Jq (D.ends l)).Pairwise (· < ·);rw [Jd];exact (Wy _).1
 have hm: ∀i,i<(D.cuts l).length →rd (D.cuts l) i∈D.ends l:=fun i hi=>by
  have:rd (D.cuts l) i∈Jq (D.ends l):=by rw [Yo hi];exact AN hi
  rw [Jd,(Wy _).2] at this;exact this
 have h1:((List.range k).map fun i=>(D.inn l (rd (D.cuts l) i)).length).sum ≤((List.range k).map fun i=>min (x5y (fun y=>decide (y≤rd (D.cuts l) i)) (D.ends l)) (2*l.length - x5y (fun y=>decide (y≤rd (D.cuts l) i)) (D.ends l))).sum :=by
  induction k with
  | zero=>exact An _
  | succ k ih=>rw [BH,Be,Be,B7,B7];have:=ih (by omega);have h2:=D.inn_min l (rd (D.cuts l) k) hv;simp only [AW,A5,BF,List.sum_nil];omega
 refine AL h1 ?_;have h2:=w3m l.length (fun i=>x5y (fun y=>decide (y≤rd (D.cuts l) i)) (D.ends l)) k fun i hi=>by have hlt:=z8b hc (show i<i+1 by omega) (show i+1<_ by omega);refine j3x (fun x hx=> ?_) (hm (i+1) (by omega)) (Ag (AZ _)) (Au (by omega));have:=AA hx;exact Ag (by omega)
 refine AL h2 ?_;cases k with
 | zero=>exact AD _
 | succ k=>exact hat_le _ _
theorem goS_length (sec:Int→List β) (cs:List Int): ∀(k i:Nat) (s:Sw α β),(D.goS sec cs k i s).out.length ≤s.out.length+((List.range k).map fun j=>(sec (rd cs (i+j))).length).sum
 | 0,i,s=>An _
 | k+1,i,s=>by
  have h1:=goS_length sec cs k (i+1) (D.oneS (sec (rd cs i)) (rd cs i) (rd cs (i+1)) s);have h2:(D.oneS (sec (rd cs i)) (rd cs i) (rd cs (i+1)) s).out.length ≤s.out.length+(sec (rd cs i)).length :=by
   unfold oneS;cases (decide (0<(sec (rd cs i)).length)&&((s.fin == rd cs i)&&D.same s.last (sec (rd cs i)))) with
   | true=>rw [Ab,D.grow_length];omega
   | false=>rw [Aa];simp
  rw [List.range_succ_eq_map,AW,List.map_map,BF,show rd cs (i+0)=rd cs i from rfl];have e:((fun j=>(sec (rd cs (i+j))).length)∘Nat.succ)=fun j=>(sec (rd cs (i+1+j))).length :=by
   funext j;simp only [Function.comp];rw [show i+j.succ=i+1+j by omega]
  rw [e];show (D.goS sec cs k (i+1) _).out.length ≤_;omega
theorem goJ_length (a b:List α) (J:List β→List β→List β) (hJ: ∀x,(J (D.inn a x) (D.inn b x)).length ≤(D.inn a x).length +(D.inn b x).length) (hv: ∀r∈a++b,D.lo r<D.hi r):
  (D.goS (fun x=>J (D.inn a x) (D.inn b x)) (D.cuts (a++b)) ((D.cuts (a++b)).length - 1) 0 ⟨[],[],0,0⟩).out.length ≤(a.length+b.length)*(a.length+b.length):=by
 have h1:=D.goS_length (fun x=>J (D.inn a x) (D.inn b x)) (D.cuts (a++b)) ((D.cuts (a++b)).length - 1) 0 ⟨[],[],0,0⟩;have h2:=D.open_sum (a++b) hv ((D.cuts (a++b)).length - 1) (Nat.sub_le _ _);rw [Ay] at h2;refine AL h1 (AL ?_ h2);simp only [Bp,Ah];generalize (D.cuts (a++b)).length - 1=k
 induction k with
 | zero=>exact An _
 | succ k ih=>rw [BH,Be,Be,B7,B7];have:=hJ (rd (D.cuts (a++b)) k);simp only [AW,A5,BF,List.sum_nil];rw [D.inn_append,Ay];omega
end Dim
open Go.Proofs Go.Sort Go.Shelf Go.RowKit Go.Lib
def spJ (k:Nat) (a b:List R2):List R2:=sw2 (opB k) (z0v (Wj 0 a++Wj 1 b)) 0 0 0 false []
theorem z8n (i:Int) (l:List R2) (hv:l.all z0u=true):y1j (Wj i l)=true:=Aw.2 fun e he=>by obtain ⟨s,hs,h1⟩:=AP.1 he;have hv:=Aw.1 hv s hs;simp only [z0u,Ac,At] at hv;simp only [AG,BD,Cq] at h1;rcases h1 with rfl | rfl <;> exact Ag (by simp only;omega)
theorem w1i {l:List R2} (hv:l.all z0u=true): ∀s∈l,s.a<s.b:=fun s hs=>by have:=Aw.1 hv s hs;simp only [z0u,Ac,At] at this;exact this.1
theorem y3z (k:Nat) {a b:List R2} (ha:a.all z0u=true) (hb:b.all z0u=true):x2o.can (spJ k a b)∧ ∀y,ptL x2o.inB (spJ k a b) y↔opB k (decide (pt a y)) (decide (pt b y))=true:=by
 have hbnd:y1j (Wj 0 a++Wj 1 b)=true:=by have h1:=z8n 0 a ha;have h2:=z8n 1 b hb;unfold y1j at*;rw [List.all_append,h1,h2];rfl
 obtain ⟨hp,_⟩:=Kr _ hbnd;exact u7t (opB k) (opB_ff k) a b (w1i ha) (w1i hb) _ hp (w1n _ hbnd)
theorem w2l : ∀(l S:List Int),l.Pairwise (· < ·)→(∀x∈l,x∈S)→l.length≤S.length
 | [],S,_,_=>AD _
 | x::l,S,h,hs=>by obtain ⟨h1,h2⟩:=AU.1 h;have hx:=hs x (by simp);have:=w2l l (S.erase x) h2 fun y hy=>(List.mem_erase_of_ne (by have:=h1 y hy;omega)).2 (hs y (by simp [hy]));rw [List.length_erase_of_mem hx] at this;have:=List.length_pos_of_mem hx;simp only [AV];omega
def z8v (L:List R2):List Int:=L.flatMap fun s=>[s.a,s.b]
theorem Qu (L:List R2):(z8v L).length =2*L.length:=by
 induction L with
 | nil=>rfl
 | cons r l ih=>show (_::_::z8v l).length =_;simp only [AV,ih];omega
theorem z8u {L:List R2} (h:Can L):(z8v L).Pairwise (· < ·):=by
 induction L with
 | nil=>exact .nil
 | cons s L ih=>
  have hp:=h.pos s (by simp);have hn: ∀y∈z8v L,s.b<y:=fun y hy=>by obtain ⟨t,ht,h1⟩:=AP.1 hy;have:=h.head t ht;have:=h.pos t (by simp [ht]);simp only [AG,BD,Cq] at h1;omega
  show (s.a::s.b::z8v L).Pairwise (· < ·);refine AU.2 ⟨fun y hy=> ?_,AU.2 ⟨hn,ih h.tail⟩⟩;rcases AG.1 hy with rfl | hy
  ·exact hp
  ·have:=hn y hy;omega
theorem w8b {L:List R2} (h:Can L) (S:List Int) (hS: ∀y,y ∉ S→(pt L (y - 1)↔pt L y)):2*L.length≤S.length:=by
 rw [←Qu];refine w2l _ S (z8u h) fun y hy=>A0 fun hn=> ?_;obtain ⟨s,hs,h1⟩:=AP.1 hy;have hp:=h.pos s hs;have sepL: ∀t∈L,t=s∨t.b<s.a∨s.b<t.a:=fun t ht=>by
  obtain ⟨i,hi,ei⟩:=A1 hs;obtain ⟨j,hj,ej⟩:=A1 ht;have pw:=Bo.1 h.sep;rcases By i j with q | q | q
  ·have:=pw i j hi hj q;rw [ei,ej] at this;exact .inr (.inr this)
  ·subst q;exact .inl (ej.symm.trans ei)
  ·have:=pw j i hj hi q;rw [ei,ej] at this;exact .inr (.inl this)
 simp only [AG,BD,Cq] at h1;rcases h1 with rfl | rfl
 ·obtain ⟨t,ht,t1,t2⟩:=(hS _ hn).2 ⟨s,hs,AZ _,hp⟩;rcases sepL t ht with rfl | q | q <;> omega
 ·obtain ⟨t,ht,t1,t2⟩:=(hS _ hn).1 ⟨s,hs,by omega,by omega⟩;rcases sepL t ht with rfl | q | q <;> omega
theorem z9m {l:List R2} {y:Int} (h:y ∉ z8v l):pt l (y - 1)↔pt l y:=by
 constructor
 ·rintro ⟨s,hs,h1,h2⟩;refine ⟨s,hs,by omega,?_⟩;have:y≠s.b:=fun e=>h (AP.2 ⟨s,hs,by simp [e]⟩);omega
 ·rintro ⟨s,hs,h1,h2⟩;refine ⟨s,hs,?_,by omega⟩;have:y≠s.a:=fun e=>h (AP.2 ⟨s,hs,by simp [e]⟩);omega
theorem z4n (k:Nat) {a b:List R2} (ha:a.all z0u=true) (hb:b.all z0u=true):(spJ k a b).length ≤a.length+b.length:=by
 obtain ⟨h1,h2⟩:=y3z k ha hb;have:=w8b h1 (z8v a++z8v b) fun y hy=>by rw [AF,not_or] at hy;have e1:decide (pt a (y - 1))=decide (pt a y):=BJ.2 (z9m hy.1);have e2:decide (pt b (y - 1))=decide (pt b y):=BJ.2 (z9m hy.2);have q1:pt (spJ k a b) (y - 1)↔_:=h2 (y - 1);have q2:pt (spJ k a b) y↔_:=h2 y;rw [q1,q2,e1,e2]
 rw [Ay,Qu,Qu] at this;omega
def rgJ (k:Nat) (a b:List R4):List R4:=(D4.goS (fun x=>spJ k (D4.inn a x) (D4.inn b x)) (D4.cuts (a++b)) ((D4.cuts (a++b)).length - 1) 0 ⟨[],[],0,0⟩).out
theorem u7y (k:Nat):spJ k [] []=[]:=by have:=z4n k (a:=[]) (b:=[]) rfl rfl;exact List.eq_nil_of_length_eq_zero (by simpa using this)
instance ptDec4 (l:List R4) (p:Int×Int):Decidable (ptL Qd.inB l p):=Classical.propDecidable _
theorem x0s (l:List R4) (x y:Int):pt (D4.inn l x) y↔ptL Qd.inB l (x,y):=Dim.pt_inn (D:=D4) x2o.inB l x y
theorem y4g (k:Nat) {a b:List R4} (ha: ∀r∈a,Vj r=true) (hb: ∀r∈b,Vj r=true):
  Qd.can (rgJ k a b)∧(∀p,ptL Qd.inB (rgJ k a b) p↔opB k (decide (ptL Qd.inB a p)) (decide (ptL Qd.inB b p))=true)∧(rgJ k a b).length ≤(a.length+b.length)*(a.length+b.length):=by
 have hs: ∀x,x2o.can (spJ k (D4.inn a x) (D4.inn b x))∧ ∀y,ptL x2o.inB (spJ k (D4.inn a x) (D4.inn b x)) y↔opB k (decide (pt (D4.inn a x) y)) (decide (pt (D4.inn b x) y))=true:=fun x=>y3z k (Ja ha x) (Ja hb x);obtain ⟨h1,h2⟩:=Dim.goJ_can y6n x3c x2o a b (spJ k) (fun x=>(hs x).1) (u7y k);refine ⟨h1,fun ⟨x,y⟩=> ?_,?_⟩
 ·rw [show ptL Qd.inB (rgJ k a b) (x,y)↔_ from h2 x y,(hs x).2];have e1:decide (pt (D4.inn a x) y)=decide (ptL Qd.inB a (x,y)):=BJ.2 (x0s a x y);have e2:decide (pt (D4.inn b x) y)=decide (ptL Qd.inB b (x,y)):=BJ.2 (x0s b x y);rw [e1,e2]
 ·refine Dim.goJ_length a b (spJ k) (fun x=>z4n k (Ja ha x) (Ja hb x)) fun r hr=> ?_;have hv:Vj r=true:=by
   rcases AF.1 hr with h | h
   ·exact ha r h
   ·exact hb r h
  simp only [Vj,Ac,At] at hv;exact hv.1
open Go.Proofs.Tryz
inductive schS where
 | h0 (v10:Int)
def schC (l0:List R2):schS→Cfg
 | .h0 v10=>⟨⟨34,0,true⟩,none,(Zb prog 191 [1,1,0,1,0,0] 0),none,(Zy prog 3),⟨Ya [(0,(.dat l0.length (Zz l0))),(8,(.dat l0.length (Zz l0))),(9,(ii (l0.length:Int))),(10,(ii v10))],Wr [] 0,0,[],true⟩,[],.leaf⟩
def u8n :List (Option (List Nat)):=[some [0,8,9,10]]
def u8o :List (Option (List Nat)):=[]
def z3u (l0:List R2):schS→Xv schS
 | .h0 v10=>(bif (decide (v10<(l0.length:Int))) then (bif ((decide (0≤v10∧v10<(l0.length:Int)))&&true) then (bif (decide ((rd l0 v10.toNat).a <(rd l0 v10.toNat).b)) then (bif (decide ((rd l0 v10.toNat).a ≥(-1000000))) then (bif (!(decide ((rd l0 v10.toNat).b ≤1000000))) then (.ret [(.int .i64 8)]) else (bif (decide (v10>0)) then (bif ((decide (0≤(wrap .i64 (v10 - 1))∧(wrap .i64 (v10 - 1))<(l0.length:Int)))&&true) then (bif (decide ((rd l0 (Int.toNat (wrap .i64 (v10 - 1)))).b ≥(rd l0 v10.toNat).a)) then (.ret [(.int .i64 8)]) else (.to (.h0 (wrap .i64 (v10+1))))) else .stuck) else (.to (.h0 (wrap .i64 (v10+1)))))) else (.ret [(.int .i64 8)])) else (.ret [(.int .i64 8)])) else .stuck) else (.ret [(.int .i64 0)]))
def y1z (l0:List R2):Xv schS:=(bif (decide ((l0.length:Int)>400)) then (.ret [(.int .i64 4)]) else (.to (.h0 0)))
theorem w5c (l0:List R2): ∀s,Ys prog (Zy prog 191) (schC l0) (schC l0 s) (z3u l0 s)
 | .h0 v10=>(lb (fun k0=>(lo fun aF=>(lb (fun k1=>(lb (fun k2=>(lb (fun k3=>(lr 34 191 [1,1,0,1,0,0,1,1,0,0,1,1,0,0] 1 3 [(2,(ii 8))] (sl z5k 25 [] ⟨[],[],[some [2]],[]⟩ ⟨[],[],[]⟩ (trs 12 []) (tt k3 (tt k2 (tt k1 (ww aF (tt k0 nn)))))))) (fun k3=>(lb (fun k4=>(lo fun cQ=>(lb (fun k5=>(lr 34 191 [1,1,0,1,0,0,1,1,0,0,1,1,0,0] 1 3 [(2,(ii 8))] (sl z5k 25 [] ⟨[],[],[some [2]],[]⟩ ⟨[],[],[]⟩ (trs 7 (bl 14 12280)) (tt k5 (ww cQ (tt k4 (tt k3 (tt k2 (tt k1 (ww aF (tt k0 nn))))))))))) (fun k5=>(sl z5k 28 [] ⟨[],[],u8n,u8o⟩ ⟨[],[],[]⟩ (trs 7 (bl 14 4088)) (tt k5 (ww cQ (tt k4 (tt k3 (tt k2 (tt k1 (ww aF (tt k0 nn))))))))))))) (fun k4=>(sl z5k 28 [] ⟨[],[],u8n,u8o⟩ ⟨[],[],[]⟩ (trs 7 (bl 14 0)) (tt k4 (tt k3 (tt k2 (tt k1 (ww aF (tt k0 nn)))))))))))) (fun k2=>(lr 34 191 [1,1,0,1,0,0,1,1,0,0,1,1,0,0] 1 3 [(2,(ii 8))] (sl z5k 25 [] ⟨[],[],[some [2]],[]⟩ ⟨[],[],[]⟩ (trs 4 (bl 8 248)) (tt k2 (tt k1 (ww aF (tt k0 nn))))))))) (fun k1=>(lr 34 191 [1,1,0,1,0,0,1,1,0,0,1,1,0,0] 1 3 [(2,(ii 8))] (sl z5k 25 [] ⟨[],[],[some [2]],[]⟩ ⟨[],[],[]⟩ (bl 12 3969) (tt k1 (ww aF (tt k0 nn))))))))) (fun k0=>(lr 34 3 [1,1,1,1,1,1,1,0] 1 3 [(2,(ii 0))] (sl z5k 11 [] ⟨[],[],[some [2]],[]⟩ ⟨[],[],[]⟩ [false] (tt k0 nn)))))
theorem x6v (l0:List R2):Ys prog (Zy prog 191) (schC l0) (Za prog 191 [(.dat l0.length (Zz l0))] true []) (y1z l0):=(lb (fun k0=>(lr 34 191 [1,0,1,0,0] 1 3 [(2,(ii 4))] (sl z5k 16 [] ⟨[],[],[some [2]],[]⟩ ⟨[],[],[]⟩ [true] (tt k0 nn)))) (fun k0=>(sl z5k 22 [] ⟨[],[],u8n,u8o⟩ ⟨[],[],[]⟩ [false] (tt k0 nn))))
theorem v6w (l0:List R2) (n:Nat) (vs:List AVal) (h:Zs (z3u l0) n (y1z l0)=.ret vs):Jw prog (Zy prog 191) (Za prog 191 [(.dat l0.length (Zz l0))] true []) vs:=by have:=Zc (w5c l0) n _ (x6v l0);rwa [h] at this
inductive cuS where
def cuC (x0:Bool) (x1:Bool):cuS→Cfg
 :=nofun
def v4t (x0:Bool) (x1:Bool):cuS→Xv cuS
 :=nofun
def w0k (x0:Bool) (x1:Bool):Xv cuS:=(bif x0 then (.ret [(.bool true)]) else (.ret [(.bool x1)]))
theorem v4s (x0:Bool) (x1:Bool): ∀s,Ys prog (Zy prog 164) (cuC x0 x1) (cuC x0 x1 s) (v4t x0 x1 s)
 :=nofun
theorem w7u (x0:Bool) (x1:Bool):Ys prog (Zy prog 164) (cuC x0 x1) (Za prog 164 [(.bool x0),(.bool x1)] true []) (w0k x0 x1):=(lb (fun k0=>(lr 9 3 [1,1,1,1,1,1,1,0] 1 5 [(4,(.bool true))] (sl z5k 12 [] ⟨[],[],[some [4]],[]⟩ ⟨[],[],[]⟩ [true] (tt k0 nn)))) (fun k0=>(lr 9 3 [1,1,1,1,1,1,1,0] 1 5 [(4,(.bool x1))] (sl z5k 12 [] ⟨[],[],[some [4]],[]⟩ ⟨[],[],[]⟩ [false] (tt k0 nn)))))
theorem j3t (x0:Bool) (x1:Bool) (n:Nat) (vs:List AVal) (h:Zs (v4t x0 x1) n (w0k x0 x1)=.ret vs):Jw prog (Zy prog 164) (Za prog 164 [(.bool x0),(.bool x1)] true []) vs:=by have:=Zc (v4s x0 x1) n _ (w7u x0 x1);rwa [h] at this
inductive ceS where
def ceC (x0:Bool) (x1:Bool):ceS→Cfg
 :=nofun
def v4y (x0:Bool) (x1:Bool):ceS→Xv ceS
 :=nofun
def w0q (x0:Bool) (x1:Bool):Xv ceS:=(bif x0 then (.ret [(.bool x1)]) else (.ret [(.bool false)]))
theorem v4x (x0:Bool) (x1:Bool): ∀s,Ys prog (Zy prog 170) (ceC x0 x1) (ceC x0 x1 s) (v4y x0 x1 s)
 :=nofun
theorem w7z (x0:Bool) (x1:Bool):Ys prog (Zy prog 170) (ceC x0 x1) (Za prog 170 [(.bool x0),(.bool x1)] true []) (w0q x0 x1):=(lb (fun k0=>(lr 9 3 [1,1,1,1,1,1,1,0] 1 5 [(4,(.bool x1))] (sl z5k 12 [] ⟨[],[],[some [4]],[]⟩ ⟨[],[],[]⟩ [true] (tt k0 nn)))) (fun k0=>(lr 9 3 [1,1,1,1,1,1,1,0] 1 5 [(4,(.bool false))] (sl z5k 12 [] ⟨[],[],[some [4]],[]⟩ ⟨[],[],[]⟩ [false] (tt k0 nn)))))
theorem j3z (x0:Bool) (x1:Bool) (n:Nat) (vs:List AVal) (h:Zs (v4y x0 x1) n (w0q x0 x1)=.ret vs):Jw prog (Zy prog 170) (Za prog 170 [(.bool x0),(.bool x1)] true []) vs:=by have:=Zc (v4x x0 x1) n _ (w7z x0 x1);rwa [h] at this
inductive cdS where
def cdC (x0:Bool) (x1:Bool):cdS→Cfg
 :=nofun
def v5b (x0:Bool) (x1:Bool):cdS→Xv cdS
 :=nofun
def w0r (x0:Bool) (x1:Bool):Xv cdS:=(bif x0 then (.ret [(.bool (!x1))]) else (.ret [(.bool false)]))
theorem v5a (x0:Bool) (x1:Bool): ∀s,Ys prog (Zy prog 163) (cdC x0 x1) (cdC x0 x1 s) (v5b x0 x1 s)
 :=nofun
theorem w8a (x0:Bool) (x1:Bool):Ys prog (Zy prog 163) (cdC x0 x1) (Za prog 163 [(.bool x0),(.bool x1)] true []) (w0r x0 x1):=(lb (fun k0=>(lr 10 3 [1,1,1,1,1,1,1,0] 1 5 [(4,(.bool (!x1)))] (sl z5k 13 [] ⟨[],[],[some [4]],[]⟩ ⟨[],[],[]⟩ [true,true] (tt k0 nn)))) (fun k0=>(lr 10 3 [1,1,1,1,1,1,1,0] 1 5 [(4,(.bool false))] (sl z5k 13 [] ⟨[],[],[some [4]],[]⟩ ⟨[],[],[]⟩ [false,false] (tt k0 nn)))))
theorem j4a (x0:Bool) (x1:Bool) (n:Nat) (vs:List AVal) (h:Zs (v5b x0 x1) n (w0r x0 x1)=.ret vs):Jw prog (Zy prog 163) (Za prog 163 [(.bool x0),(.bool x1)] true []) vs:=by have:=Zc (v5a x0 x1) n _ (w8a x0 x1);rwa [h] at this
def w4u (l:List R2) (i:Nat):Bool:=z0u (rd l i)&&(decide (i=0)||decide ((rd l (i - 1)).b <(rd l i).a))
def y7v (l:List R2):Int:=bif decide (400<l.length) then 4 else bif (List.range l.length).all (w4u l) then 0 else 8
def z3v (l:List R2):Bool:=true
theorem u3b (l:List R2) (hl:l.length≤400): ∀(k i:Nat),i+k=l.length→(∀j,j<i→w4u l j=true)→ ∃n,Zs (z3u l) n (.to (.h0 (i:Int)))=.ret [.int .i64 (bif (List.range l.length).all (w4u l) then 0 else 8)]
 | 0,i,h,ht=>by have hv:(List.range l.length).all (w4u l)=true:=Aw.2 fun j hj=>ht j (by have:=A2.1 hj;omega);refine ⟨1,?_⟩;rw [Zv,hv];simp (disch:=omega) only [z3u,Yz,Ab,Aa,Zp]
 | k +1,i,h,ht=>by
  have hi:i<l.length:=by omega
  have hlt:decide ((i:Int)<(l.length:Int))=true:=Ag (by omega);have hin:decide (0≤(i:Int)∧(i:Int)<(l.length:Int))=true:=Ag (by omega);have step:z3u l (.h0 (i:Int))=bif w4u l i then .to (.h0 ((i+1:Nat):Int)) else .ret [.int .i64 8]:=by
   unfold w4u z0u;by_cases hi0:i=0
   ·have g1:decide ((i:Int)>0)=false:=Au (by omega);rw [Ag hi0];simp (disch:=omega) only [z3u,hlt,hin,g1,Zk,Zx,Zj,y0b,z6u,Ce,Ai,Ab,Aa]
   ·have g1:decide ((i:Int)>0)=true:=Ag (by omega);have g2:wrap .i64 ((i:Int) - 1)=((i - 1:Nat):Int):=by rw [Zk (by omega)];omega
    have g3:decide (0≤((i - 1:Nat):Int)∧((i - 1:Nat):Int)<(l.length:Int))=true:=Ag (by omega);have g4:decide ((rd l (i - 1)).b ≥(rd l i).a)= !decide ((rd l (i - 1)).b <(rd l i).a):=by
     by_cases q:(rd l (i - 1)).b <(rd l i).a
     ·rw [Ag q,Au (by omega)];rfl
     ·rw [Au q,Ag (by omega)];rfl
    rw [Au hi0];simp (disch:=omega) only [z3u,hlt,hin,g1,g2,g3,g4,Zk,Zx,Zj,y0b,z6u,Cb,Ai,Ab,Aa]
  rcases Ym (w4u l i) with q | q
  ·obtain ⟨n,hn⟩:=u3b l hl k (i+1) (by omega) (fun j hj=>by
    rcases Bd (Ca hj) with rfl | hj
    ·exact q
    ·exact ht j hj)
   refine ⟨n+1,?_⟩;rw [Zv,step,q,Ab];exact hn
  ·have hv:(List.range l.length).all (w4u l)=false:=A9.2 fun e=>by have:=Aw.1 e i (A2.2 hi);rw [q] at this;cases this
   refine ⟨1,?_⟩;rw [Zv,step,q,hv,Aa,Zp];rfl
theorem u8m (l:List R2) (h:z3v l=true): ∃n,Zs (z3u l) n (y1z l)=.ret [.int .i64 (y7v l)]:=by
 unfold y1z y7v;by_cases h:400<l.length
 ·refine ⟨0,?_⟩;rw [Ag h,Yn (show (l.length:Int)>400 by omega)];rfl
 ·obtain ⟨n,hn⟩:=u3b l (by omega) l.length 0 (Ah _) (fun j hj=>absurd hj (AM _));refine ⟨n,?_⟩;rw [Au h,Xm (show¬(l.length:Int)>400 by omega),Aa,Aa];exact hn
inductive Op where
 | u | e | d
abbrev Op.k :Op→Nat
 | .u =>0
 | .e =>1
 | .d =>2
abbrev nC :Op→Nat
 | .u =>nSpU1
 | .e =>nSpE1
 | .d =>nSpD1
abbrev nSp :Op→Nat
 | .u =>nSpU
 | .e =>nSpE
 | .d =>nSpD
abbrev nRg :Op→Nat
 | .u =>nRgU
 | .e =>nRgE
 | .d =>nRgD
def cV (q:Op) (a b:Bool):Bool:=opB q.k a b
theorem cu_run (a b:Bool): ∃N,Zs (v4t a b) N (w0k a b)=.ret [.bool (cV .u a b)]:=⟨0,by cases a <;> cases b <;> rfl⟩
theorem ce_run (a b:Bool): ∃N,Zs (v4y a b) N (w0q a b)=.ret [.bool (cV .e a b)]:=⟨0,by cases a <;> cases b <;> rfl⟩
theorem cd_run (a b:Bool): ∃N,Zs (v5b a b) N (w0r a b)=.ret [.bool (cV .d a b)]:=⟨0,by cases a <;> cases b <;> rfl⟩
theorem x0f (l:List R2):y7v l=0↔l.length≤400∧l.all z0u=true∧Can l:=by
 unfold y7v;constructor
 ·intro h;by_cases h1:400<l.length
  ·rw [Ag h1] at h;cases h
  ·rw [Au h1,Aa] at h;cases hq:(List.range l.length).all (w4u l) with
   | false=>rw [hq] at h;cases h
   | true=>
    have hq:=fun i hi=>Aw.1 hq i (A2.2 hi);have hv: ∀i,i<l.length→z0u (rd l i)=true:=fun i hi=>by have:=hq i hi;unfold w4u at this;rw [Ac] at this;exact this.1
    have hp: ∀i,i<l.length→(rd l i).a <(rd l i).b :=fun i hi=>by have:=hv i hi;simp only [z0u,Ac,At] at this;exact this.1
    have hs: ∀i,i+1<l.length→(rd l i).b <(rd l (i+1)).a :=fun i hi=>by
     have:=hq (i+1) hi;unfold w4u at this;rw [Ac,Bv] at this;rcases this.2 with q | q
     ·have:=AA q;omega
     ·exact AA q
    refine ⟨by omega,Aw.2 fun s hs=> ?_,⟨fun s hs=> ?_,?_⟩⟩
    ·obtain ⟨i,hi,rfl⟩:=A1 hs;rw [←Yo hi];exact hv i hi
    ·obtain ⟨i,hi,rfl⟩:=A1 hs;rw [←Yo hi];exact hp i hi
    ·refine Bo.2 fun i j hi hj hij=> ?_;rw [←Yo hi,←Yo hj];clear hi
     induction j with
     | zero=>omega
     | succ j ih=>
      have h1:=hs j hj;rcases Bd (Ca hij) with rfl | q
      ·exact h1
      ·have h2:=ih (by omega) q;have h3:=hp j (by omega);omega
 ·rintro ⟨h1,h2,h3⟩;rw [Au (by omega),Aa];have:(List.range l.length).all (w4u l)=true:=Aw.2 fun i hi=>by
   have hi:=A2.1 hi;unfold w4u;rw [Aw.1 h2 (rd l i) (by rw [Yo hi];exact AN hi),Al,Bv];by_cases h0:i=0
   ·exact .inl (Ag h0)
   ·refine .inr (Ag ?_);have:=Bo.1 h3.sep (i - 1) i (by omega) hi (by omega);rwa [←Yo,←Yo] at this
  rw [this];rfl
def fSch :List AVal→Option (AVal×Bool)
 | [a0]=>match asL R2 a0 with
  | some (L0,g0,n0)=>some (.int .i64 (y7v L0),isT R2 n0 g0&&(z3v L0))
  | _=>none
 | _=>none
theorem j2b {S:Specs} (hS:Zu prog S):Zu prog (S.with w2n fSch):=by
 refine z0o hS (by kernel_rfl) fun args v h=> ?_;unfold fSch at h;split at h
 ·rename_i a0;split at h
  ·rename_i L0 g0 n0 e0;simp only [Ae,Ad,Ac] at h;obtain ⟨rfl,ho0,hw⟩:=h;obtain ⟨N,hN⟩:=u8m L0 hw;exact ⟨_,_,(.cons (asL_le e0 ho0) .nil),rfl,v6w L0 N _ hN,3,rfl⟩
  ·cases h
 ·cases h
def fCu :List AVal→Option (AVal×Bool)
 | [.bool b0,.bool b1]=>some (.bool (cV .u b0 b1),true)
 | _=>none
theorem fCu_ok {S:Specs} (hS:Zu prog S):Zu prog (S.with (nC .u) fCu):=by
 refine z0o hS (by kernel_rfl) fun args v h=> ?_;unfold fCu at h;split at h
 ·rename_i b0 b1;simp only [Ae,Ad,Cp] at h;subst h;obtain ⟨N,hN⟩:=cu_run b0 b1;exact ⟨_,_,(.cons (.refl _) (.cons (.refl _) .nil)),rfl,j3t b0 b1 N _ hN,3,rfl⟩
 ·cases h
def fCe :List AVal→Option (AVal×Bool)
 | [.bool b0,.bool b1]=>some (.bool (cV .e b0 b1),true)
 | _=>none
theorem fCe_ok {S:Specs} (hS:Zu prog S):Zu prog (S.with (nC .e) fCe):=by
 refine z0o hS (by kernel_rfl) fun args v h=> ?_;unfold fCe at h;split at h
 ·rename_i b0 b1;simp only [Ae,Ad,Cp] at h;subst h;obtain ⟨N,hN⟩:=ce_run b0 b1;exact ⟨_,_,(.cons (.refl _) (.cons (.refl _) .nil)),rfl,j3z b0 b1 N _ hN,3,rfl⟩
 ·cases h
def fCd :List AVal→Option (AVal×Bool)
 | [.bool b0,.bool b1]=>some (.bool (cV .d b0 b1),true)
 | _=>none
theorem fCd_ok {S:Specs} (hS:Zu prog S):Zu prog (S.with (nC .d) fCd):=by
 refine z0o hS (by kernel_rfl) fun args v h=> ?_;unfold fCd at h;split at h
 ·rename_i b0 b1;simp only [Ae,Ad,Cp] at h;subst h;obtain ⟨N,hN⟩:=cd_run b0 b1;exact ⟨_,_,(.cons (.refl _) (.cons (.refl _) .nil)),rfl,j4a b0 b1 N _ hN,3,rfl⟩
 ·cases h
def Ua :Specs:=((((T9.with w2n fSch).with (nC .u) fCu).with (nC .e) fCe).with (nC .d) fCd)
theorem z2b :Zu prog Ua:=(fCd_ok (fCe_ok (fCu_ok (j2b z5k))))
inductive spjS where
 | h0 (v3:List R3) (v17:Int)
 | h1 (v3:List R3) (v17:Int)
 | h2 (v5:List R3) (v6:Int) (v7:Int) (aA:Int) (aI:Int) (aM:Int) (aG:Bool) (aC:List R2)
abbrev Ux (aC:List R2) (aM:Int) (v5:List R3) (v7:Int):=(aC++[(R2.mk aM (rd v5 (0+(tn v7))).a)])
def w9p (l0:List R2) (l1:List R2) (q:Op):AFr:=⟨⟨29,0,true⟩,(Ur prog 162 [1,1,1,0] 3),(Zb prog 162 [1,1,1,0] 1),none,(Zy prog 32),Ya [(21,(.dat l0.length (Zz l0))),(22,(.dat l1.length (Zz l1))),(23,(.fn (nC q) []))]⟩
abbrev y0o (aC:List R2) (aM:Int) (v5:List R3) (v7:Int):=(Ze (Zz aC) 0 aC.length 2 [(ii aM),(ii (rd v5 (0+(tn v7))).a)])
def w9o (q:Op) (l0:List R2) (l1:List R2):AFr:=⟨⟨11,0,true⟩,(Ur prog (nSp q) [1,0] 2),(Zb prog (nSp q) [1,0] 1),none,(Zy prog 28),Ya [(6,(.dat l0.length (Zz l0))),(7,(.dat l1.length (Zz l1)))]⟩
def u2h :AFr:=⟨⟨42,0,true⟩,(Ur prog 186 [1,1,1,1,1,0,0] 3),(Zb prog 186 [1,1,1,1,1,0,0] 1),none,(Zy prog 8),Ya [(5,(.ptr 1 0)),(6,.nils),(7,(.ptr 2 0)),(8,(.ptr 3 0)),(9,(.ptr 4 0)),(10,(.ptr 5 0)),(11,(.ptr 6 0)),(16,(.sl 0 0 2 (.un 1)))]⟩
abbrev y7k (v3:List R3) (l0:List R2) (v17:Int):=(v3++[(R3.mk (rd l0 (tn v17)).a 0 1),(R3.mk (rd l0 (tn v17)).b 0 (-1))])
abbrev y7j (v3:List R3) (l1:List R2) (v17:Int):=(v3++[(R3.mk (rd l1 (tn v17)).a 1 1),(R3.mk (rd l1 (tn v17)).b 1 (-1))])
def spjC (q:Op) (l0:List R2) (l1:List R2):spjS→Cfg
 | .h0 v3 v17=>⟨⟨38,0,true⟩,none,(Zb prog 197 [1,1,0,1,0,0,1,1,0,0,1,1,0,0] 0),none,(Zy prog 3),⟨Ya [(3,(.sla 7 3 0 v3.length (.un 3))),(4,(ii 0)),(8,(.sl 0 0 2 (.un 1))),(9,(ii 2)),(10,(ii 0)),(15,(.dat l0.length (Zz l0))),(16,(ii (l0.length:Int))),(17,(ii v17))],Wr [⟨[(.dat l0.length (Zz l0)),(.dat l1.length (Zz l1))],180,none⟩,⟨[(.fn (nC q) [])],213,none⟩,⟨[(ii 0),(ii 0)],142,none⟩,⟨[.nils],180,none⟩,⟨[(ii 0)],3,none⟩,⟨[(.bool false)],4,none⟩,⟨[(.fn 196 [(.ptr 5 0),(.ptr 4 0),(.ptr 3 0)])],242,none⟩,⟨rows v3.length (Zz v3),246,some ⟨3,v3.length,(Zz v3)⟩⟩] 0,8,[],true⟩,[u2h,(w9p l0 l1 q),(w9o q l0 l1)],.leaf⟩
 | .h1 v3 v17=>⟨⟨38,0,true⟩,none,(Zb prog 197 [1,1,0,1,0,0,1,1,0,0,1,1,0,0] 0),none,(Zy prog 3),⟨Ya [(3,(.sla 7 3 0 v3.length (.un 3))),(4,(ii 1)),(8,(.sl 0 0 2 (.un 1))),(9,(ii 2)),(10,(ii 1)),(15,(.dat l1.length (Zz l1))),(16,(ii (l1.length:Int))),(17,(ii v17))],Wr [⟨[(.dat l0.length (Zz l0)),(.dat l1.length (Zz l1))],180,none⟩,⟨[(.fn (nC q) [])],213,none⟩,⟨[(ii 0),(ii 0)],142,none⟩,⟨[.nils],180,none⟩,⟨[(ii 0)],3,none⟩,⟨[(.bool false)],4,none⟩,⟨[(.fn 196 [(.ptr 5 0),(.ptr 4 0),(.ptr 3 0)])],242,none⟩,⟨rows v3.length (Zz v3),246,some ⟨3,v3.length,(Zz v3)⟩⟩] 0,8,[],true⟩,[u2h,(w9p l0 l1 q),(w9o q l0 l1)],.leaf⟩
 | .h2 v5 v6 v7 aA aI aM aG aC=>⟨⟨16,0,true⟩,none,(Zb prog 205 [1,0,0] 0),none,[],⟨Ya [(0,(.yld 0)),(5,(.sla 7 3 0 v5.length (.un 3))),(6,(ii v6)),(7,(ii v7))],y0t [(1,⟨[(.fn (nC q) [])],213,none⟩),(2,⟨[(ii aA),(ii aI)],142,none⟩),(3,⟨[(ii aM)],3,none⟩),(4,⟨[(.bool aG)],4,none⟩),(5,⟨[(.fn 196 [(.ptr 4 0),(.ptr 3 0),(.ptr 6 0)])],242,none⟩),(6,⟨[(.sla 8 2 0 aC.length (.un 2))],180,none⟩),(7,⟨rows v5.length (Zz v5),246,some ⟨3,v5.length,(Zz v5)⟩⟩),(8,⟨rows aC.length (Zz aC),183,some ⟨2,aC.length,(Zz aC)⟩⟩)],9,[],true⟩,[⟨⟨42,0,true⟩,none,(.inRangeFunc 0::(Zb prog 186 [1,1,1,1,1,0,1,0] 1)),none,(Zy prog 8),Ya [(6,.nils),(8,(.ptr 6 0))]⟩,(w9p l0 l1 q),(w9o q l0 l1)],(y6v [(0,⟨.ready,none,42,Ya [(5,(.ptr 1 0)),(7,(.ptr 2 0)),(9,(.ptr 3 0)),(10,(.ptr 4 0)),(11,(.ptr 5 0))],[18],(Vd prog 186 [1,1,1,1,1,0,1,0,0]),(Vd prog 186 [1,1,1,1,1,0,1,0,1])⟩)])⟩
def spjN0 :List (Option (List Nat)):=[some [3,4,8,9,10,15,16,17],some [5,6,7,8,9,10,11,16],some [21,22,23],some [6,7]]
def spjM0 :List (Option (List Nat)):=[]
def spjN1 :List (Option (List Nat)):=[some [3,4,8,9,10,15,16,17],some [5,6,7,8,9,10,11,16],some [21,22,23],some [6,7]]
def spjM1 :List (Option (List Nat)):=[]
def y3x :List (Option (List Nat)):=[some [0,5,6,7],some [6,8],some [21,22,23],some [6,7]]
def y3y :List (Option (List Nat)):=[some [5,7,9,10,11],none,none,none,none,none,none,none,none]
def Wq (q:Op) (l0:List R2) (l1:List R2):spjS→Xv spjS
 | .h0 v3 v17=>(bif (decide (v17<(l0.length:Int))) then (bif ((decide (0≤v17∧v17<(l0.length:Int)))&&true) then (bif (Nat.beq 3 3&&((decide (0+v3.length=v3.length))&&decide ((v3.length+2+1)*(24+1)≤Uj))) then (.to (.h0 (v3++[(R3.mk (rd l0 v17.toNat).a 0 1),(R3.mk (rd l0 v17.toNat).b 0 (-1))]) (wrap .i64 (v17+1)))) else .stuck) else .stuck) else (.to (.h1 v3 0)))
 | .h1 v3 v17=>(bif (decide (v17<(l1.length:Int))) then (bif ((decide (0≤v17∧v17<(l1.length:Int)))&&true) then (bif (Nat.beq 3 3&&((decide (0+v3.length=v3.length))&&decide ((v3.length+2+1)*(24+1)≤Uj))) then (.to (.h1 (v3++[(R3.mk (rd l1 v17.toNat).a 1 1),(R3.mk (rd l1 v17.toNat).b 1 (-1))]) (wrap .i64 (v17+1)))) else .stuck) else .stuck) else (bif (y1j (cvT v3)) then (bif (decide (v3.length<4611686018427387904)) then (bif (decide (v3.length=v3.length)) then (.to (.h2 (z0v (cvT v3)) (v3.length:Int) 0 0 0 0 false ([]:List R2))) else .stuck) else .stuck) else .stuck))
 | .h2 v5 v6 v7 aA aI aM aG aC=>(bif (decide (v7<v6)) then (bif ((decide (0≤v7∧v7<(v5.length:Int)))&&true) then (bif (decide ((0+v7.toNat)<v5.length)) then (bif (!aG) then (bif (decide ((rd v5 (0+v7.toNat)).b =Int.ofNat 0)) then (.to (.h2 v5 v6 (wrap .i64 (v7+1)) (wrap .i64 (aA+(rd v5 (0+v7.toNat)).c)) aI (rd v5 (0+v7.toNat)).a ((cV q) (decide ((wrap .i64 (aA+(rd v5 (0+v7.toNat)).c))>0)) (decide (aI>0))) aC)) else (bif (decide ((rd v5 (0+v7.toNat)).b =Int.ofNat 1)) then (.to (.h2 v5 v6 (wrap .i64 (v7+1)) aA (wrap .i64 (aI+(rd v5 (0+v7.toNat)).c)) (rd v5 (0+v7.toNat)).a ((cV q) (decide (aA>0)) (decide ((wrap .i64 (aI+(rd v5 (0+v7.toNat)).c))>0))) aC)) else .stuck)) else (bif (aM == (rd v5 (0+v7.toNat)).a) then (bif (decide ((rd v5 (0+v7.toNat)).b =Int.ofNat 0)) then (.to (.h2 v5 v6 (wrap .i64 (v7+1)) (wrap .i64 (aA+(rd v5 (0+v7.toNat)).c)) aI (rd v5 (0+v7.toNat)).a ((cV q) (decide ((wrap .i64 (aA+(rd v5 (0+v7.toNat)).c))>0)) (decide (aI>0))) aC)) else (bif (decide ((rd v5 (0+v7.toNat)).b =Int.ofNat 1)) then (.to (.h2 v5 v6 (wrap .i64 (v7+1)) aA (wrap .i64 (aI+(rd v5 (0+v7.toNat)).c)) (rd v5 (0+v7.toNat)).a ((cV q) (decide (aA>0)) (decide ((wrap .i64 (aI+(rd v5 (0+v7.toNat)).c))>0))) aC)) else .stuck)) else (bif (decide ((aC.length:Int)>0)) then (bif ((decide (0≤(wrap .i64 ((aC.length:Int) - 1))∧(wrap .i64 ((aC.length:Int) - 1))<(aC.length:Int)))&&true) then (bif (decide ((0+(Int.toNat (wrap .i64 ((aC.length:Int) - 1))))<aC.length)) then (bif ((rd aC (0+(Int.toNat (wrap .i64 ((aC.length:Int) - 1))))).b == aM) then (bif (decide ((rd v5 (0+v7.toNat)).b =Int.ofNat 0)) then (.to (.h2 v5 v6 (wrap .i64 (v7+1)) (wrap .i64 (aA+(rd v5 (0+v7.toNat)).c)) aI (rd v5 (0+v7.toNat)).a ((cV q) (decide ((wrap .i64 (aA+(rd v5 (0+v7.toNat)).c))>0)) (decide (aI>0))) (aC.set (0+(Int.toNat (wrap .i64 ((aC.length:Int) - 1)))) (R2.mk (rd aC (0+(Int.toNat (wrap .i64 ((aC.length:Int) - 1))))).a (rd v5 (0+v7.toNat)).a)))) else (bif (decide ((rd v5 (0+v7.toNat)).b =Int.ofNat 1)) then (.to (.h2 v5 v6 (wrap .i64 (v7+1)) aA (wrap .i64 (aI+(rd v5 (0+v7.toNat)).c)) (rd v5 (0+v7.toNat)).a ((cV q) (decide (aA>0)) (decide ((wrap .i64 (aI+(rd v5 (0+v7.toNat)).c))>0))) (aC.set (0+(Int.toNat (wrap .i64 ((aC.length:Int) - 1)))) (R2.mk (rd aC (0+(Int.toNat (wrap .i64 ((aC.length:Int) - 1))))).a (rd v5 (0+v7.toNat)).a)))) else .stuck)) else (bif (Nat.beq 2 2&&((decide (0+aC.length=aC.length))&&decide ((aC.length+1+1)*(16+1)≤Uj))) then (bif (decide ((rd v5 (0+v7.toNat)).b =Int.ofNat 0)) then (.to (.h2 v5 v6 (wrap .i64 (v7+1)) (wrap .i64 (aA+(rd v5 (0+v7.toNat)).c)) aI (rd v5 (0+v7.toNat)).a ((cV q) (decide ((wrap .i64 (aA+(rd v5 (0+v7.toNat)).c))>0)) (decide (aI>0))) (aC++[(R2.mk aM (rd v5 (0+v7.toNat)).a)]))) else (bif (decide ((rd v5 (0+v7.toNat)).b =Int.ofNat 1)) then (.to (.h2 v5 v6 (wrap .i64 (v7+1)) aA (wrap .i64 (aI+(rd v5 (0+v7.toNat)).c)) (rd v5 (0+v7.toNat)).a ((cV q) (decide (aA>0)) (decide ((wrap .i64 (aI+(rd v5 (0+v7.toNat)).c))>0))) (aC++[(R2.mk aM (rd v5 (0+v7.toNat)).a)]))) else .stuck)) else .stuck)) else .stuck) else .stuck) else (bif (Nat.beq 2 2&&((decide (0+aC.length=aC.length))&&decide ((aC.length+1+1)*(16+1)≤Uj))) then (bif (decide ((rd v5 (0+v7.toNat)).b =Int.ofNat 0)) then (.to (.h2 v5 v6 (wrap .i64 (v7+1)) (wrap .i64 (aA+(rd v5 (0+v7.toNat)).c)) aI (rd v5 (0+v7.toNat)).a ((cV q) (decide ((wrap .i64 (aA+(rd v5 (0+v7.toNat)).c))>0)) (decide (aI>0))) (aC++[(R2.mk aM (rd v5 (0+v7.toNat)).a)]))) else (bif (decide ((rd v5 (0+v7.toNat)).b =Int.ofNat 1)) then (.to (.h2 v5 v6 (wrap .i64 (v7+1)) aA (wrap .i64 (aI+(rd v5 (0+v7.toNat)).c)) (rd v5 (0+v7.toNat)).a ((cV q) (decide (aA>0)) (decide ((wrap .i64 (aI+(rd v5 (0+v7.toNat)).c))>0))) (aC++[(R2.mk aM (rd v5 (0+v7.toNat)).a)]))) else .stuck)) else .stuck)))) else .stuck) else .stuck) else (bif (decide ((aC.length:Int)>400)) then (.ret [.nils,(.int .i64 4)]) else (.ret [(.dat aC.length (Zz aC)),(.int .i64 0)])))
def y1w (q:Op) (l0:List R2) (l1:List R2):Xv spjS:=(bif (z3v (cvT l0)) then (bif ((y7v (cvT l0)) != 0) then (.ret [.nils,(.int .i64 (y7v (cvT l0)))]) else (bif (z3v (cvT l1)) then (bif ((y7v (cvT l1)) != 0) then (.ret [.nils,(.int .i64 (y7v (cvT l1)))]) else (.to (.h0 ([]:List R3) 0))) else .stuck)) else .stuck)
theorem w4s (q:Op) (l0:List R2) (l1:List R2): ∀s,Ys prog (Zy prog (nSp q)) (spjC q l0 l1) (spjC q l0 l1 s) (Wq q l0 l1 s):=by cases q <;> refine (?f: ∀q:Op,∀s,Ys prog (Zy prog (nSp q)) (spjC q l0 l1) (spjC q l0 l1 s) (Wq q l0 l1 s)) _ <;> exact fun q=>fun
 | .h0 v3 v17=>(lb (fun k0=>(lo fun o0=>(lo fun o1=>(sl z2b 36 [] ⟨[0,1,2,3,4,5,6,10],[],spjN0,spjM0⟩ ⟨[(3,.len (y7k v3 l0 v17).length)],(kpB 7 [.rowed 3 (y7k v3 l0 v17).length (Zz (y7k v3 l0 v17))]),[]⟩ [true] (pp (xL (v3.length+2) (y7k v3 l0 v17).length) (pp (xL (v3.length+2) (y7k v3 l0 v17).length) (pp (xS (v3.length+2) (Ze (Zz v3) 0 v3.length 3 [(ii (rd l0 (tn v17)).a),(ii 0),(ii 1),(ii (rd l0 (tn v17)).b),(ii 0),(ii (-1))]) (Zz (y7k v3 l0 v17))) (pp (pp (xF (Ze (Zz v3) 0 v3.length 3 [(ii (rd l0 (tn v17)).a),(ii 0),(ii 1),(ii (rd l0 (tn v17)).b),(ii 0),(ii (-1))])) nn) (ww o1 (ww o0 (tt k0 nn))))))))))) (fun k0=>(sl z2b 38 [] ⟨(List.range 8),[],spjN1,spjM1⟩ ⟨[],[],[]⟩ (bl 2 2) (pp (fl v3 nn) (tt k0 nn)))))
 | .h1 v3 v17=>(lb (fun k0=>(lo fun o0=>(lo fun o1=>(sl z2b 36 [] ⟨[0,1,2,3,4,5,6,10],[],spjN1,spjM1⟩ ⟨[(3,.len (y7j v3 l1 v17).length)],(kpB 7 [.rowed 3 (y7j v3 l1 v17).length (Zz (y7j v3 l1 v17))]),[]⟩ [true] (pp (xL (v3.length+2) (y7j v3 l1 v17).length) (pp (xL (v3.length+2) (y7j v3 l1 v17).length) (pp (xS (v3.length+2) (Ze (Zz v3) 0 v3.length 3 [(ii (rd l1 (tn v17)).a),(ii 1),(ii 1),(ii (rd l1 (tn v17)).b),(ii 1),(ii (-1))]) (Zz (y7j v3 l1 v17))) (pp (pp (xF (Ze (Zz v3) 0 v3.length 3 [(ii (rd l1 (tn v17)).a),(ii 1),(ii 1),(ii (rd l1 (tn v17)).b),(ii 1),(ii (-1))])) nn) (ww o1 (ww o0 (tt k0 nn))))))))))) (fun k0=>(lo fun o0=>(lo fun o1=>(lo fun o2=>(sl z2b 54 [(183,2,Zz ([]:List R2))] ⟨[9,1,2,4,5,6,3,7,10],[],y3x,y3y⟩ ⟨[(5,.len (z0v (cvT v3)).length)],(kpB 6 [.cells [.grow 8 2],.rowed 3 (z0v (cvT v3)).length (Zz (z0v (cvT v3))),.keep]),[]⟩ (bl 2 0) (pp (xL v3.length (z0v (cvT v3)).length (by first | exact z8c _ | exact Wc rfl)) (pp (xL v3.length (z0v (cvT v3)).length (by first | exact z8c _ | exact Wc rfl)) (pp (xS v3.length (Zz (z0v (cvT v3))) (Zz (z0v (cvT v3)))) (pp (fl (z0v (cvT v3)) (fl ([]:List R2) nn)) (pp (pp (xG (Nat.beq 3 3)) (pp (xG (Nat.beq 3 3)) (pp (xG (Nat.beq 0 0)) (pp (pp (xG (decide (v3.length=v3.length))) (pp (xr v3) (xG (decide (v3.length<4611686018427387904))))) (xG (y1j (cvT v3))))))) (tt k0 nn))))))))))))
 | .h2 v5 v6 v7 aA aI aM aG aC=>(lb (fun k0=>(lo fun aF=>(lo fun aR=>(lb (fun k1=>(lb (fun k2=>(sl z2b 62 [] ⟨(List.range 9),[],y3x,y3y⟩ ⟨[],[],[]⟩ (trs 5 (bl 3 0)) (pp (fl v5 (fl aC nn)) (ww k2 (tt k1 (ww aR (ww aF (tt k0 nn)))))))) (fun k2=>(lb (fun k3=>(sl z2b 62 [] ⟨(List.range 9),[],y3x,y3y⟩ ⟨[],[],[]⟩ (trs 6 (bl 4 2)) (pp (fl v5 (fl aC nn)) (ww k3 (tt k1 (ww aR (ww aF (tt k0 nn)))))))) (fun k3=>trivial))))) (fun k1=>(lb (fun k2=>(lb (fun k3=>(sl z2b 62 [] ⟨(List.range 9),[],y3x,y3y⟩ ⟨[],[],[]⟩ (bl 8 17) (pp (fl v5 (fl aC nn)) (ww k3 (tt k2 (tt k1 (ww aR (ww aF (tt k0 nn))))))))) (fun k3=>(lb (fun k4=>(sl z2b 62 [] ⟨(List.range 9),[],y3x,y3y⟩ ⟨[],[],[]⟩ (bl 10 177) (pp (fl v5 (fl aC nn)) (ww k4 (tt k2 (tt k1 (ww aR (ww aF (tt k0 nn))))))))) (fun k4=>trivial))))) (fun k2=>(lb (fun k3=>(lo fun cB=>(lo fun cP=>(lb (fun k4=>(lb (fun k5=>(sl z2b 81 [] ⟨(List.range 9),[],y3x,y3y⟩ ⟨[],(kpB 6 [.cells [.len (aC.set (0+(tn (wr ((aC.length:Int) - 1)))) (R2.mk (rd aC (0+(tn (wr ((aC.length:Int) - 1))))).a (rd v5 (0+(tn v7))).a)).length],.keep,.rowed 2 (aC.set (0+(tn (wr ((aC.length:Int) - 1)))) (R2.mk (rd aC (0+(tn (wr ((aC.length:Int) - 1))))).a (rd v5 (0+(tn v7))).a)).length (Zz (aC.set (0+(tn (wr ((aC.length:Int) - 1)))) (R2.mk (rd aC (0+(tn (wr ((aC.length:Int) - 1))))).a (rd v5 (0+(tn v7))).a)))]),[]⟩ (bl 17 16353) (pp (xL aC.length (aC.set (0+(tn (wr ((aC.length:Int) - 1)))) (R2.mk (rd aC (0+(tn (wr ((aC.length:Int) - 1))))).a (rd v5 (0+(tn v7))).a)).length) (pp (xL aC.length (aC.set (0+(tn (wr ((aC.length:Int) - 1)))) (R2.mk (rd aC (0+(tn (wr ((aC.length:Int) - 1))))).a (rd v5 (0+(tn v7))).a)).length) (pp (xS aC.length (Xe (Zz aC) (0+(tn (wr ((aC.length:Int) - 1)))) 1 [(ii (rd v5 (0+(tn v7))).a)]) (Zz (aC.set (0+(tn (wr ((aC.length:Int) - 1)))) (R2.mk (rd aC (0+(tn (wr ((aC.length:Int) - 1))))).a (rd v5 (0+(tn v7))).a)))) (pp (fl v5 (pp (xF (Xe (Zz aC) (0+(tn (wr ((aC.length:Int) - 1)))) 1 [(ii (rd v5 (0+(tn v7))).a)])) nn)) (ww k5 (ww cP (ww cB (tt k4 (ww cP (ww cB (tt k3 (tt k2 (tt k1 (ww aR (ww aF (tt k0 nn)))))))))))))))))) (fun k5=>(lb (fun k6=>(sl z2b 81 [] ⟨(List.range 9),[],y3x,y3y⟩ ⟨[],(kpB 6 [.cells [.len (aC.set (0+(tn (wr ((aC.length:Int) - 1)))) (R2.mk (rd aC (0+(tn (wr ((aC.length:Int) - 1))))).a (rd v5 (0+(tn v7))).a)).length],.keep,.rowed 2 (aC.set (0+(tn (wr ((aC.length:Int) - 1)))) (R2.mk (rd aC (0+(tn (wr ((aC.length:Int) - 1))))).a (rd v5 (0+(tn v7))).a)).length (Zz (aC.set (0+(tn (wr ((aC.length:Int) - 1)))) (R2.mk (rd aC (0+(tn (wr ((aC.length:Int) - 1))))).a (rd v5 (0+(tn v7))).a)))]),[]⟩ (bl 19 98273) (pp (xL aC.length (aC.set (0+(tn (wr ((aC.length:Int) - 1)))) (R2.mk (rd aC (0+(tn (wr ((aC.length:Int) - 1))))).a (rd v5 (0+(tn v7))).a)).length) (pp (xL aC.length (aC.set (0+(tn (wr ((aC.length:Int) - 1)))) (R2.mk (rd aC (0+(tn (wr ((aC.length:Int) - 1))))).a (rd v5 (0+(tn v7))).a)).length) (pp (xS aC.length (Xe (Zz aC) (0+(tn (wr ((aC.length:Int) - 1)))) 1 [(ii (rd v5 (0+(tn v7))).a)]) (Zz (aC.set (0+(tn (wr ((aC.length:Int) - 1)))) (R2.mk (rd aC (0+(tn (wr ((aC.length:Int) - 1))))).a (rd v5 (0+(tn v7))).a)))) (pp (fl v5 (pp (xF (Xe (Zz aC) (0+(tn (wr ((aC.length:Int) - 1)))) 1 [(ii (rd v5 (0+(tn v7))).a)])) nn)) (ww k6 (ww cP (ww cB (tt k4 (ww cP (ww cB (tt k3 (tt k2 (tt k1 (ww aR (ww aF (tt k0 nn)))))))))))))))))) (fun k6=>trivial))))) (fun k4=>(lo fun cQ=>(lb (fun k5=>(sl z2b 81 [] ⟨[0,1,2,3,4,5,6,7,12],[],y3x,y3y⟩ ⟨[],(kpB 6 [.cells [.len (Ux aC aM v5 v7).length],.keep,.rowed 2 (Ux aC aM v5 v7).length (Zz (Ux aC aM v5 v7))]),[]⟩ (bl 17 8161) (pp (xL (aC.length+1) (Ux aC aM v5 v7).length) (pp (xL (aC.length+1) (Ux aC aM v5 v7).length) (pp (xS (aC.length+1) (y0o aC aM v5 v7) (Zz (Ux aC aM v5 v7))) (pp (fl v5 (pp (xF (y0o aC aM v5 v7)) nn)) (ww k5 (ww cQ (tt k4 (ww cP (ww cB (tt k3 (tt k2 (tt k1 (ww aR (ww aF (tt k0 nn))))))))))))))))) (fun k5=>(lb (fun k6=>(sl z2b 81 [] ⟨[0,1,2,3,4,5,6,7,12],[],y3x,y3y⟩ ⟨[],(kpB 6 [.cells [.len (Ux aC aM v5 v7).length],.keep,.rowed 2 (Ux aC aM v5 v7).length (Zz (Ux aC aM v5 v7))]),[]⟩ (bl 19 90081) (pp (xL (aC.length+1) (Ux aC aM v5 v7).length) (pp (xL (aC.length+1) (Ux aC aM v5 v7).length) (pp (xS (aC.length+1) (y0o aC aM v5 v7) (Zz (Ux aC aM v5 v7))) (pp (fl v5 (pp (xF (y0o aC aM v5 v7)) nn)) (ww k6 (ww cQ (tt k4 (ww cP (ww cB (tt k3 (tt k2 (tt k1 (ww aR (ww aF (tt k0 nn))))))))))))))))) (fun k6=>trivial)))))))))) (fun k3=>(lo fun cB=>(lb (fun k4=>(sl z2b 81 [] ⟨[0,1,2,3,4,5,6,7,12],[],y3x,y3y⟩ ⟨[],(kpB 6 [.cells [.len (Ux aC aM v5 v7).length],.keep,.rowed 2 (Ux aC aM v5 v7).length (Zz (Ux aC aM v5 v7))]),[]⟩ (bl 17 1) (pp (xL (aC.length+1) (Ux aC aM v5 v7).length) (pp (xL (aC.length+1) (Ux aC aM v5 v7).length) (pp (xS (aC.length+1) (y0o aC aM v5 v7) (Zz (Ux aC aM v5 v7))) (pp (fl v5 (pp (xF (y0o aC aM v5 v7)) nn)) (ww k4 (ww cB (tt k3 (tt k2 (tt k1 (ww aR (ww aF (tt k0 nn)))))))))))))) (fun k4=>(lb (fun k5=>(sl z2b 81 [] ⟨[0,1,2,3,4,5,6,7,12],[],y3x,y3y⟩ ⟨[],(kpB 6 [.cells [.len (Ux aC aM v5 v7).length],.keep,.rowed 2 (Ux aC aM v5 v7).length (Zz (Ux aC aM v5 v7))]),[]⟩ (bl 19 81921) (pp (xL (aC.length+1) (Ux aC aM v5 v7).length) (pp (xL (aC.length+1) (Ux aC aM v5 v7).length) (pp (xS (aC.length+1) (y0o aC aM v5 v7) (Zz (Ux aC aM v5 v7))) (pp (fl v5 (pp (xF (y0o aC aM v5 v7)) nn)) (ww k5 (ww cB (tt k3 (tt k2 (tt k1 (ww aR (ww aF (tt k0 nn)))))))))))))) (fun k5=>trivial)))))))))))))) (fun k0=>(lb (fun k1=>(lr 11 3 [1,1,1,1,1,1,1,0] 1 28 [(4,.nils),(5,(ii 4))] (sl z2b 37 [] ⟨[],[],[some [4,5]],[]⟩ ⟨[],[],[]⟩ (bl 2 2) (tt k1 (tt k0 nn))))) (fun k1=>(lr 11 3 [1,1,1,1,1,1,1,0] 1 28 [(4,(.dat aC.length (Zz aC))),(5,(ii 0))] (sl z2b 39 [] ⟨[],[8],[some [4,5]],[]⟩ ⟨[(4,.frz aC.length aC.length (Zz aC) (Zz aC))],[],[]⟩ (bl 2 0) (pp (xZ (z3k 2 2 0 aC.length aC.length (Zz aC)) aC.length (Zz aC)) (pp (xL aC.length aC.length) (pp (xS aC.length (Zz aC) (Zz aC)) (pp (fl aC nn) (tt k1 (tt k0 nn))))))))))))
theorem x6n (q:Op) (l0:List R2) (l1:List R2):Ys prog (Zy prog (nSp q)) (spjC q l0 l1) (Za prog (nSp q) [(.dat l0.length (Zz l0)),(.dat l1.length (Zz l1))] true []) (y1w q l0 l1):=by cases q <;> exact (lo fun bW=>(lb (fun k0=>(lr 11 3 [1,1,1,1,1,1,1,0] 1 28 [(4,.nils),(5,(ii (y7v (cvT l0))))] (sl z2b 40 [] ⟨[],[],[some [4,5]],[]⟩ ⟨[],[],[]⟩ [true] (tt k0 (pp (pp (xr l0) (xw bW)) nn))))) (fun k0=>(lo fun aF=>(lb (fun k1=>(lr 11 3 [1,1,1,1,1,1,1,0] 1 28 [(4,.nils),(5,(ii (y7v (cvT l1))))] (sl z2b 54 [] ⟨[],[],[some [4,5]],[]⟩ ⟨[],[],[]⟩ [false,true] (tt k1 (pp (pp (xr l1) (xw aF)) (tt k0 (pp (pp (xr l0) (xw bW)) nn))))))) (fun k1=>(sl z2b 124 [(246,3,Zz ([]:List R3))] ⟨[6,0,1,2,3,4,5,7],[],spjN0,spjM0⟩ ⟨[(3,.grow 7 3)],[],[]⟩ [false,false,true] (pp (fl ([]:List R3) nn) (tt k1 (pp (pp (xr l1) (xw aF)) (tt k0 (pp (pp (xr l0) (xw bW)) nn))))))))))))
theorem v6j (q:Op) (l0:List R2) (l1:List R2) (n:Nat) (vs:List AVal) (h:Zs (Wq q l0 l1) n (y1w q l0 l1)=.ret vs):Jw prog (Zy prog (nSp q)) (Za prog (nSp q) [(.dat l0.length (Zz l0)),(.dat l1.length (Zz l1))] true []) vs:=by have:=Zc (w4s q l0 l1) n _ (x6n q l0 l1);rwa [h] at this
def spE (k:Nat) (a b:List R2):Int:=bif y7v a != 0 then y7v a else bif y7v b != 0 then y7v b else x5d (spJ k a b).length
theorem y0z (i:Int) (l:List R2):(Wj i l).length =2*l.length:=by
 induction l with
 | nil=>rfl
 | cons r l ih=>show (_::_::Wj i l).length =_;simp only [AV,ih];omega
theorem y9m (j:Int) (l:List R2) (i:Nat) (h:i<l.length):Wj j (l.drop i)=Wj j [rd l i]++Wj j (l.drop (i+1)):=by rw [Yx h];rfl
theorem z8m {j:Int} {l:List R2} {e:R3} (h:e∈Wj j l):e.b=j∧(e.c=1∨e.c= -1):=by
 obtain ⟨s,_,h⟩:=AP.1 h;simp only [AG,BD,Cq] at h;rcases h with rfl | rfl
 ·exact ⟨rfl,.inl rfl⟩
 ·exact ⟨rfl,.inr rfl⟩
theorem w1l (f:Bool→Bool→Bool) (e:R3) (r:List R3) (o p last:Int) (inn:Bool) (out:List R2):sw2 f (e::r) o p last inn out=sw2 f r (bif e.b == 0 then o+e.c else o) (bif e.b == 0 then p else p+e.c) e.a (f (decide ((bif e.b == 0 then o+e.c else o)>0)) (decide ((bif e.b == 0 then p else p+e.c)>0))) (Vp out last inn e.a):=rfl
section
variable (q:Op) (a b:List R2)
theorem u2e (L:List R3) (hL:L.length≤2000) (hE: ∀i,i<L.length→((rd L i).b =0∨(rd L i).b =1)∧((rd L i).c =1∨(rd L i).c = -1)): ∀(k i:Nat) (o p last:Int) (inn:Bool) (out:List R2),i+k=L.length→ -(i:Int)≤o→o≤i→ -(i:Int)≤p→p≤i→out.length≤i→
  ∃n,Zs (Wq q a b) n (.to (.h2 L (L.length:Int) (i:Int) o p last inn out))=.ret (Qw (sw2 (opB q.k) (L.drop i) o p last inn out))
 | 0,i,o,p,last,inn,out,h,ho1,ho2,hp1,hp2,hout=>by
  refine ⟨1,?_⟩;rw [Zv,Ar (by omega)];unfold Qw;show _=Xv.ret (bif decide ((out.length:Int)>400) then _ else _);rcases Ym (decide ((out.length:Int)>400)) with g | g <;>
  simp (disch:=omega) only [Wq,Yz,g,Ab,Aa,Zp];rfl
 | k + 1,i,o,p,last,inn,out,h,ho1,ho2,hp1,hp2,hout=>by
  obtain ⟨hb,hc⟩:=hE i (by omega);have hcl:=z3a out last inn (rd L i).a;have hcf: ∀x y,cV q x y=opB q.k x y:=fun _ _=>rfl;have hlt:decide ((i:Int)<(L.length:Int))=true:=Ag (by omega);have hw:wrap .i64 (o+(rd L i).c)=o+(rd L i).c :=Zk (by rcases hc with hc | hc <;> omega);have hw':wrap .i64 (p+(rd L i).c)=p+(rd L i).c :=Zk (by rcases hc with hc | hc <;> omega);have key: ∀(o' p':Int) (out':List R2),-((i+1:Nat):Int)≤o'→o'≤((i+1:Nat):Int)→ -((i+1:Nat):Int)≤p'→p'≤((i+1:Nat):Int)→out'=Vp out last inn (rd L i).a →
    Wq q a b (.h2 L (L.length:Int) (i:Int) o p last inn out)=.to (.h2 L (L.length:Int) ((i+1:Nat):Int) o' p' (rd L i).a (opB q.k (decide (o'>0)) (decide (p'>0))) out')→
    sw2 (opB q.k) (L.drop i) o p last inn out=sw2 (opB q.k) (L.drop (i+1)) o' p' (rd L i).a (opB q.k (decide (o'>0)) (decide (p'>0))) out'→
    ∃n,Zs (Wq q a b) n (.to (.h2 L (L.length:Int) (i:Int) o p last inn out))=.ret (Qw (sw2 (opB q.k) (L.drop i) o p last inn out)):=fun o' p' out' b1 b2 b3 b4 eo hs hq=>by
   obtain ⟨n,hn⟩:=u2e L hL hE k (i+1) o' p' (rd L i).a (opB q.k (decide (o'>0)) (decide (p'>0))) out' (by omega) b1 b2 b3 b4 (by rw [eo];omega);refine ⟨n+1,?_⟩;rw [Zv,hs,hq];exact hn
  rcases hb with hb | hb
  ·have hz:decide ((rd L i).b =Int.ofNat 0)=true:=Ag hb;have hb0:((rd L i).b == 0)=true:=by rw [hb];rfl
   refine key (o+(rd L i).c) p (Vp out last inn (rd L i).a) (by rcases hc with hc | hc <;> omega) (by rcases hc with hc | hc <;> omega) (by omega) (by omega) rfl ?_ ?_
   ·unfold Vp;cases inn with
    | false=>simp (disch:=omega) only [Wq,hlt,hz,hw,hw',hcf,Zo,Zr,Yk,Zk,Zx,Zj,Ah,Ai,Ab,Aa,AI]
    | true=>
     rcases Ym (last == (rd L i).a) with g | g
     ·simp (disch:=omega) only [Wq,hlt,hz,hw,hw',hcf,Zo,Zr,Yk,Zk,Zx,Zj,Ah,Ai,Ab,Aa,AE,g]
     ·by_cases h0:0<out.length
      ·rw [Ag h0,Al];rcases Ym ((rd out (out.length - 1)).b == last) with q2 | q2
       ·simp (disch:=omega) only [Wq,hlt,hz,hw,hw',hcf,Zo,Zr,Yk,Zk,Zx,Zj,Ah,Ai,Ab,Aa,AE,g,q2,Yn,Zh]
       ·simp (disch:=omega) only [Wq,hlt,hz,hw,hw',hcf,Zo,Zr,Yk,Zk,Zx,Zj,Ah,Ai,Ab,Aa,AE,Al,g,q2,Yn,Zh,Yp,Zf,Yg,Av]
      ·rw [Au h0,Bq];simp (disch:=omega) only [Wq,hlt,hz,hw,hw',hcf,Zo,Zr,Yk,Zk,Zx,Zj,Ah,Ai,Ab,Aa,AE,Al,g,Xm,Yp,Zf,Yg,Av]
   ·rw [Yx (show i<L.length by omega),w1l,hb0];rfl
  ·have hz0:decide ((rd L i).b =Int.ofNat 0)=false:=Au (by rw [hb];decide);have hz:decide ((rd L i).b =Int.ofNat 1)=true:=Ag hb;have hb0:((rd L i).b == 0)=false:=by rw [hb];rfl
   refine key o (p+(rd L i).c) (Vp out last inn (rd L i).a) (by omega) (by omega) (by rcases hc with hc | hc <;> omega) (by rcases hc with hc | hc <;> omega) rfl ?_ ?_
   ·unfold Vp;cases inn with
    | false=>simp (disch:=omega) only [Wq,hlt,hz0,hz,hw,hw',hcf,Zo,Zr,Yk,Zk,Zx,Zj,Ah,Ai,Ab,Aa,AI]
    | true=>
     rcases Ym (last == (rd L i).a) with g | g
     ·simp (disch:=omega) only [Wq,hlt,hz0,hz,hw,hw',hcf,Zo,Zr,Yk,Zk,Zx,Zj,Ah,Ai,Ab,Aa,AE,g]
     ·by_cases h0:0<out.length
      ·rw [Ag h0,Al];rcases Ym ((rd out (out.length - 1)).b == last) with q2 | q2
       ·simp (disch:=omega) only [Wq,hlt,hz0,hz,hw,hw',hcf,Zo,Zr,Yk,Zk,Zx,Zj,Ah,Ai,Ab,Aa,AE,g,q2,Yn,Zh]
       ·simp (disch:=omega) only [Wq,hlt,hz0,hz,hw,hw',hcf,Zo,Zr,Yk,Zk,Zx,Zj,Ah,Ai,Ab,Aa,AE,Al,g,q2,Yn,Zh,Yp,Zf,Yg,Av]
      ·rw [Au h0,Bq];simp (disch:=omega) only [Wq,hlt,hz0,hz,hw,hw',hcf,Zo,Zr,Yk,Zk,Zx,Zj,Ah,Ai,Ab,Aa,AE,Al,g,Xm,Yp,Zf,Yg,Av]
   ·rw [Yx (show i<L.length by omega),w1l,hb0];rfl
theorem u2f (ha:a.length≤400) (hb:b.length≤400) (va:a.all z0u=true) (vb:b.all z0u=true): ∀(k i:Nat) (E:List R3),i+k=b.length→E.length=2*a.length+2*i→E++Wj 1 (b.drop i)=Wj 0 a++Wj 1 b→ ∃n,Zs (Wq q a b) n (.to (.h1 E (i:Int)))=.ret (Qw (spJ q.k a b))
 | 0,i,E,h,hl,he=>by
  rw [Ar (by omega),show Wj 1 []=[] from rfl,AB] at he;subst he;have hbnd:y1j (Wj 0 a++Wj 1 b)=true:=by have h1:=z8n 0 a va;have h2:=z8n 1 b vb;unfold y1j at*;rw [List.all_append,h1,h2];rfl
  have hsl:=y3t (Wj 0 a++Wj 1 b);obtain ⟨hp,_⟩:=Kr _ hbnd;obtain ⟨n,hn⟩:=u2e q a b (z0v (Wj 0 a++Wj 1 b)) (by rw [hsl];omega) (fun i hi=>by
   have hm:rd (z0v (Wj 0 a++Wj 1 b)) i∈Wj 0 a++Wj 1 b:=hp.mem_iff.1 (by rw [Yo hi];exact AN hi);rcases AF.1 hm with g | g
   ·exact ⟨.inl (z8m g).1,(z8m g).2⟩
   ·exact ⟨.inr (z8m g).1,(z8m g).2⟩) (z0v (Wj 0 a++Wj 1 b)).length 0 0 0 0 false [] (Ah _) (by omega) (by omega) (by omega) (by omega) (AD _)
  refine ⟨n+1,?_⟩;rw [Zv];have step:Wq q a b (.h1 (Wj 0 a++Wj 1 b) (i:Int))=.to (.h2 (z0v (Wj 0 a++Wj 1 b)) (((Wj 0 a++Wj 1 b).length :Nat):Int) 0 0 0 0 false []):=by simp (disch:=omega) only [Wq,Zm,Yz,hbnd,Yk,Av,Ab,Aa]
  rw [step,←hsl];exact hn
 | k+1,i,E,h,hl,he=>by rw [y9m 1 b i (by omega),←AH] at he;obtain ⟨n,hn⟩:=u2f ha hb va vb k (i+1) (E++Wj 1 [rd b i]) (by omega) (by rw [Ay,y0z];simp;omega) he;refine ⟨n+1,?_⟩;rw [Zv];simp (disch:=omega) only [Wq,Yp,Zf,Yg,Av,Al,Zo,Zr,Yk,Zk,Zx,Zj,Ah,Ai,Ab,Aa];exact hn
theorem u2g (ha:a.length≤400) (hb:b.length≤400) (va:a.all z0u=true) (vb:b.all z0u=true): ∀(k i:Nat) (E:List R3),i+k=a.length→E.length=2*i→E++Wj 0 (a.drop i)=Wj 0 a→ ∃n,Zs (Wq q a b) n (.to (.h0 E (i:Int)))=.ret (Qw (spJ q.k a b))
 | 0,i,E,h,hl,he=>by rw [Ar (by omega),show Wj 0 []=[] from rfl,AB] at he;subst he;obtain ⟨n,hn⟩:=u2f q a b ha hb va vb b.length 0 (Wj 0 a) (Ah _) (by omega) (by rw [AX]);refine ⟨n+1,?_⟩;rw [Zv];simp (disch:=omega) only [Wq,Yz,Aa];exact hn
 | k+1,i,E,h,hl,he=>by rw [y9m 0 a i (by omega),←AH] at he;obtain ⟨n,hn⟩:=u2g ha hb va vb k (i+1) (E++Wj 0 [rd a i]) (by omega) (by rw [Ay,y0z];simp;omega) he;refine ⟨n+1,?_⟩;rw [Zv];simp (disch:=omega) only [Wq,Yp,Zf,Yg,Av,Al,Zo,Zr,Yk,Zk,Zx,Zj,Ah,Ai,Ab,Aa];exact hn
theorem u7x : ∃n,Zs (Wq q a b) n (y1w q a b)=.ret (y4h (spE q.k a b) (spJ q.k a b)):=by
 unfold y1w;have o: ∀l,z3v l=true:=fun _=>rfl;simp only [Zm,o,Ab];rcases Ym (y7v a != 0) with q1 | q1
 ·exact ⟨0,by simp only [spE,q1,Ab,z2k _ q1];rfl⟩
 rcases Ym (y7v b != 0) with q2 | q2
 ·exact ⟨0,by simp only [spE,q1,q2,Ab,Aa,z2k _ q2];rfl⟩
 obtain ⟨a1,a2,_⟩:=(x0f a).1 (by simpa using q1);obtain ⟨b1,b2,_⟩:=(x0f b).1 (by simpa using q2);obtain ⟨n,hn⟩:=u2g q a b a1 b1 a2 b2 a.length 0 [] (Ah _) rfl (by rw [AX,Bg]);refine ⟨n,?_⟩;simp only [spE,q1,q2,Aa,←z8t];exact hn
end
def z3r (q:Op) (a b:List R2):List R2:=x4x (spE q.k a b) (spJ q.k a b)
def w4t (q:Op) (a b:List R2):Int:=spE q.k a b
def x0a (q:Op) (a b:List R2):Bool:=true
def fSp (q:Op):List AVal→Option (AVal×Bool)
 | [a1,a2]=>match asL R2 a1,asL R2 a2 with
  | some (L1,g1,n1),some (L2,g2,n2)=>some (.tup [.dat (z3r q L1 L2).length (Zz (z3r q L1 L2)),.int .i64 (w4t q L1 L2)],isT R2 n1 g1&&(isT R2 n2 g2&&x0a q L1 L2))
  | _,_=>none
 | _=>none
theorem v4b (q:Op) {S:Specs} (hS:Zu prog S):Zu prog (S.with (nSp q) (fSp q)):=by
 refine w8s hS (by cases q <;> kernel_rfl) fun args v h=> ?_;unfold fSp at h;split at h
 ·rename_i a1 a2;split at h
  ·rename_i L1 g1 n1 L2 g2 n2 e1 e2;simp only [Ae,Ad,Ac] at h;obtain ⟨rfl,ho1,ho2,_⟩:=h;obtain ⟨N,hN⟩:=u7x q L1 L2;exact ⟨_,_,(.cons (asL_le e1 ho1) (.cons (asL_le e2 ho2) .nil)),z4t _ _,v6j q L1 L2 N _ hN,3,z9i _ _⟩
  ·cases h
 ·cases h
def Ub :Specs:=((Ua.with (nSp .u) (fSp .u)).with (nSp .e) (fSp .e)).with (nSp .d) (fSp .d)
theorem y6l :Zu prog Ub:=v4b .d (v4b .e (v4b .u z2b))
inductive rgcS where
 | h0 (v8:Int)
def rgcC (l0:List R4):rgcS→Cfg
 | .h0 v8=>⟨⟨19,0,true⟩,none,(Zb prog 203 [1,0,1,0,0] 0),none,(Zy prog 5),⟨Ya [(0,(.dat l0.length (Zz l0))),(1,(.fn 199 [])),(7,(ii (l0.length:Int))),(8,(ii v8))],Wr [] 0,0,[],true⟩,[⟨⟨9,0,true⟩,(Ur prog 198 [1,0] 2),(Zb prog 198 [1,0] 1),none,(Zy prog 5),Ya [(5,(.dat l0.length (Zz l0))),(6,(.fn 199 []))]⟩,⟨⟨23,0,true⟩,(Ur prog 189 [1,1,0,0] 1),(Zb prog 189 [1,1,0,0] 1),none,(Zy prog 3),Ya [(0,(.dat l0.length (Zz l0))),(8,(.dat l0.length (Zz l0)))]⟩],.leaf⟩
def rgcN0 :List (Option (List Nat)):=[some [0,1,7,8],some [5,6],some [0,8]]
def rgcM0 :List (Option (List Nat)):=[]
def z2j (l0:List R4):rgcS→Xv rgcS
 | .h0 v8=>(bif (decide (v8<(l0.length:Int))) then (bif ((decide (0≤v8∧v8<(l0.length:Int)))&&true) then (bif (!(u7l (rd l0 v8.toNat).a (rd l0 v8.toNat).b (rd l0 v8.toNat).c (rd l0 v8.toNat).d)) then (bif (decide (v8≥0)) then (.ret [(.int .i64 8)]) else (bif (Qy (cvT l0)) then (bif ((z1a (cvT l0)) != 0) then (.ret [(.int .i64 8)]) else (bif (Wp (cvT (Wv (cvT l0))) (cvT l0)) then (bif (!(Us (cvT (Wv (cvT l0))) (cvT l0))) then (.ret [(.int .i64 8)]) else (.ret [(.int .i64 0)])) else .stuck)) else .stuck)) else (.to (.h0 (wrap .i64 (v8+1))))) else .stuck) else (bif (Qy (cvT l0)) then (bif ((z1a (cvT l0)) != 0) then (.ret [(.int .i64 8)]) else (bif (Wp (cvT (Wv (cvT l0))) (cvT l0)) then (bif (!(Us (cvT (Wv (cvT l0))) (cvT l0))) then (.ret [(.int .i64 8)]) else (.ret [(.int .i64 0)])) else .stuck)) else .stuck))
def z7q (l0:List R4):Xv rgcS:=(bif (decide ((l0.length:Int)>400)) then (.ret [(.int .i64 4)]) else (.to (.h0 0)))
theorem w5x (l0:List R4): ∀s,Ys prog (Zy prog 189) (rgcC l0) (rgcC l0 s) (z2j l0 s)
 | .h0 v8=>(lb (fun k0=>(lo fun aF=>(lb (fun k1=>(lb (fun k2=>(lr 23 189 [1,1,0,1,0,0] 1 3 [(2,(ii 8))] (sl y6l 53 [] ⟨[],[],[some [2]],[]⟩ ⟨[],[],[]⟩ (trs 3 []) (tt k2 (tt k1 (ww aF (tt k0 nn))))))) (fun k2=>(lo fun cC=>(lb (fun k3=>(lr 23 189 [1,1,1,0,1,1,0,0] 1 3 [(2,(ii 8))] (sl y6l 77 [] ⟨[],[],[some [2]],[]⟩ ⟨[],[],[]⟩ (bl 8 251) (tt k3 (pp (pp (xr l0) (xw cC)) (tt k2 (tt k1 (ww aF (tt k0 nn))))))))) (fun k3=>(lo fun cB=>(lb (fun k4=>(lr 23 189 [1,1,1,0,1,1,0,0] 1 3 [(2,(ii 8))] (sl y6l 77 [] ⟨[],[],[some [2]],[]⟩ ⟨[],[],[]⟩ (bl 8 131) (tt k4 (pp (pp (xI R4 (Wv (cvT l0)).length (Zz (Wv (cvT l0)))) (pp (xr l0) (xw cB))) (tt k3 (pp (pp (xr l0) (xw cC)) (tt k2 (tt k1 (ww aF (tt k0 nn))))))))))) (fun k4=>(lr 23 3 [1,1,1,1,1,1,1,0] 1 3 [(2,(ii 0))] (sl y6l 78 [] ⟨[],[],[some [2]],[]⟩ ⟨[],[],[]⟩ (bl 8 3) (tt k4 (pp (pp (xI R4 (Wv (cvT l0)).length (Zz (Wv (cvT l0)))) (pp (xr l0) (xw cB))) (tt k3 (pp (pp (xr l0) (xw cC)) (tt k2 (tt k1 (ww aF (tt k0 nn))))))))))))))))))) (fun k1=>(sl y6l 44 [] ⟨[],[],rgcN0,rgcM0⟩ ⟨[],[],[]⟩ (bl 2 1) (tt k1 (ww aF (tt k0 nn)))))))) (fun k0=>(lo fun aF=>(lb (fun k1=>(lr 23 189 [1,1,1,0,1,1,0,0] 1 3 [(2,(ii 8))] (sl y6l 46 [] ⟨[],[],[some [2]],[]⟩ ⟨[],[],[]⟩ (bl 7 124) (tt k1 (pp (pp (xr l0) (xw aF)) (tt k0 nn)))))) (fun k1=>(lo fun cA=>(lb (fun k2=>(lr 23 189 [1,1,1,0,1,1,0,0] 1 3 [(2,(ii 8))] (sl y6l 46 [] ⟨[],[],[some [2]],[]⟩ ⟨[],[],[]⟩ (bl 7 64) (tt k2 (pp (pp (xI R4 (Wv (cvT l0)).length (Zz (Wv (cvT l0)))) (pp (xr l0) (xw cA))) (tt k1 (pp (pp (xr l0) (xw aF)) (tt k0 nn)))))))) (fun k2=>(lr 23 3 [1,1,1,1,1,1,1,0] 1 3 [(2,(ii 0))] (sl y6l 47 [] ⟨[],[],[some [2]],[]⟩ ⟨[],[],[]⟩ (bl 7 0) (tt k2 (pp (pp (xI R4 (Wv (cvT l0)).length (Zz (Wv (cvT l0)))) (pp (xr l0) (xw cA))) (tt k1 (pp (pp (xr l0) (xw aF)) (tt k0 nn)))))))))))))))
theorem x7x (l0:List R4):Ys prog (Zy prog 189) (rgcC l0) (Za prog 189 [(.dat l0.length (Zz l0))] true []) (z7q l0):=(lb (fun k0=>(lr 23 189 [1,0,1,0,0] 1 3 [(2,(ii 4))] (sl y6l 16 [] ⟨[],[],[some [2]],[]⟩ ⟨[],[],[]⟩ [true] (tt k0 nn)))) (fun k0=>(sl y6l 40 [] ⟨[],[],rgcN0,rgcM0⟩ ⟨[],[],[]⟩ [false] (tt k0 nn))))
theorem v8j (l0:List R4) (n:Nat) (vs:List AVal) (h:Zs (z2j l0) n (z7q l0)=.ret vs):Jw prog (Zy prog 189) (Za prog 189 [(.dat l0.length (Zz l0))] true []) vs:=by have:=Zc (w5x l0) n _ (x7x l0);rwa [h] at this
def rgcF (l:List R4):Int:=bif z1a l != 0 then 8 else bif Us (Wv l) l then 0 else 8
def y6o (l:List R4):Int:=bif decide (400<l.length) then 4 else bif l.all Vj then rgcF l else 8
def z3z (l:List R4):Bool:=true
theorem x9a (l:List R4):(Wv l).length ≤400:=by
 unfold Wv u6o x4x x5d;by_cases h:((D4.out l).length :Int)>400
 ·rw [Ag h];exact AD _
 ·rw [Au h];show (D4.out l).length ≤400;omega
theorem u4m (l:List R4) (hl:l.length≤400): ∀(k i:Nat),i+k=l.length→(∀s∈l.take i,Vj s=true)→ ∃n,Zs (z2j l) n (.to (.h0 (i:Int)))=.ret (bif l.all Vj then [.int .i64 (rgcF l)] else [.int .i64 8])
 | 0,i,h,ht=>by
  have hv:l.all Vj=true:=Aw.2 fun s hs=>ht s (by rw [AQ (by omega)];exact hs);have w:Qy l=true:=Ag hl;refine ⟨1,?_⟩;rw [Zv,hv,Ab];have w2:Wp (Wv l) l=true:=Ag (by have:=x9a l;omega);unfold rgcF;rcases Ym (z1a l != 0) with q | q
  ·simp (disch:=omega) only [z2j,Zm,w,q,Yz,Ab,Aa,Zp]
  ·rcases Ym (Us (Wv l) l) with q2 | q2 <;>
   simp (disch:=omega) only [z2j,Zm,w,w2,q,q2,Yz,AE,AI,Ab,Aa,Zp]
 | k+1,i,h,ht=>by
  have hi:i<l.length:=by omega
  have hs:z2j l (.h0 (i:Int))=bif Vj (rd l i) then .to (.h0 ((i+1:Nat):Int)) else .ret [.int .i64 8]:=by have e:u7l (rd l i).a (rd l i).b (rd l i).c (rd l i).d =Vj (rd l i):=rfl;simp (disch:=omega) only [z2j,e,z6u,x5a,x5b,Zr,Zk,Zx,Zj,Ai,Ab,Aa]
  rcases Ym (Vj (rd l i)) with q | q
  ·obtain ⟨n,hn⟩:=u4m l hl k (i+1) (by omega) (fun s hs=>by
    rw [Ba] at hs;have e:l[i]? =some (rd l i):=by rw [Yo hi];exact Aq _
    rw [e] at hs;simp only [Cf,AF,AS] at hs;rcases hs with hs | rfl
    ·exact ht s hs
    ·exact q)
   refine ⟨n+1,?_⟩;rw [Zv,hs,q,Ab];exact hn
  ·have hv:l.all Vj=false:=A9.2 fun e=>by have:=Aw.1 e (rd l i) (by rw [Yo hi];exact AN hi);rw [this] at q;cases q
   refine ⟨1,?_⟩;rw [Zv,hv,Aa,hs,q,Aa,Zp]
theorem v8i (l:List R4): ∃n,Zs (z2j l) n (z7q l)=.ret (bif decide (400<l.length) then [.int .i64 4] else bif l.all Vj then [.int .i64 (rgcF l)] else [.int .i64 8]):=by
 unfold z7q;by_cases h:400<l.length
 ·refine ⟨0,?_⟩;rw [Ag h,Yn (show (l.length:Int)>400 by omega)];rfl
 ·obtain ⟨n,hn⟩:=u4m l (by omega) l.length 0 (Ah _) (fun s hs=>by simp at hs);refine ⟨n,?_⟩;rw [Au h,Xm (show¬(l.length:Int)>400 by omega),Aa,Aa];exact hn
theorem u9q (l:List R4) (h:z3z l=true): ∃n,Zs (z2j l) n (z7q l)=.ret [.int .i64 (y6o l)]:=by obtain ⟨n,hn⟩:=v8i l;refine ⟨n,hn.trans ?_⟩;unfold y6o;cases decide (400<l.length) <;> cases l.all Vj <;> rfl
def fRgc :List AVal→Option (AVal×Bool)
 | [a0]=>match asL R4 a0 with
  | some (L0,g0,n0)=>some (.int .i64 (y6o L0),isT R4 n0 g0&&(z3z L0))
  | _=>none
 | _=>none
theorem j2k {S:Specs} (hS:Zu prog S):Zu prog (S.with w2q fRgc):=by
 refine z0o hS (by kernel_rfl) fun args v h=> ?_;unfold fRgc at h;split at h
 ·rename_i a0;split at h
  ·rename_i L0 g0 n0 e0;simp only [Ae,Ad,Ac] at h;obtain ⟨rfl,ho0,hw⟩:=h;obtain ⟨N,hN⟩:=u9q L0 hw;exact ⟨_,_,(.cons (asL_le e0 ho0) .nil),rfl,v8j L0 N _ hN,3,rfl⟩
  ·cases h
 ·cases h
def Uc :Specs:=(Ub.with w2q fRgc)
theorem Kc :Zu prog Uc:=(j2k y6l)
end Go.Am
end
