/- A part of a proof: several texts in one. -/
import Derived.Test.YtmanggcjimaehaaGreatLg3
set_option maxRecDepth 1000000
set_option maxHeartbeats 8000000
set_option linter.unusedVariables false
set_option linter.unusedSimpArgs false
noncomputable section
namespace Go.Am
open IntKind (wrap)
open Go.Proofs.Tryz
open Go.Proofs Go.Sort Go.Shelf Go.RowKit Go.Lib
theorem cmpN_eq (zs:List Int):v3e (Xv zs)=(Jp zs).length:=rfl
theorem x4c {i n:Nat} (h:i<n):decide ((i:Int)<(n:Int))=true:=Ah (by omega)
theorem z7v {σ:Type} (step:σ→Xf σ) (a b:Nat) (s:Xf σ):Yj step (a+b) s=Yj step a (Yj step b s):=by
 induction b generalizing s with
 | zero=>cases s <;> simp [Yj]
 | succ b ih=>cases s with
  | to s=>exact ih (step s)
  | ret vs=>simp only [Zg]
  | stuck=>cases a <;> cases b <;> rfl
theorem x4d {i:Nat}:decide ((i:Int)≥0)=true:=Ah (by omega)
def Qx {α:Type} [Ys α] (out:List α):List AVal:=bif decide ((out.length:Int)>400) then [.nils,.int .i64 4] else [.dat out.length (Zz out),.int .i64 0]
def y3q {α:Type} [Ys α] (e:Int) (L:List α):List AVal:=bif e != 0 then [.nils,.int .i64 e] else [.dat L.length (Zz L),.int .i64 0]
def x1a {α:Type} (e:Int) (L:List α):List α:=bif e != 0 then [] else L
theorem z0r {α:Type} [Ys α] (e:Int) (L:List α) (ρ:Rho) (u:Value) (hu:Yy ρ (Jt (y3q e L)) u):Yy ρ (.tup [.dat (x1a e L).length (Zz (x1a e L)),.int .i64 e]) u:=by
 unfold y3q at hu;unfold x1a;by_cases h:e=0
 ·subst h;exact hu
 ·have h:(e != 0)=true:=by simpa using h
  rw [h] at hu ⊢;exact z3s (.cons (z6g α) (RLe.refl _)) ρ u hu
theorem z6d {α:Type} [Ys α] (e:Int) (L:List α):pf 3 (Jt (y3q e L))=true:=by unfold y3q;cases (e != 0) <;> rfl
def y5c (n:Nat):Int:=bif decide ((n:Int)>400) then 4 else 0
theorem z8h {α:Type} [Ys α] (L:List α):Qx L=y3q (y5c L.length) L:=by unfold Qx y3q y5c;cases decide ((L.length:Int)>400) <;> rfl
theorem z2k {α:Type} [Ys α] {e:Int} (L:List α) (h:(e != 0)=true):y3q e L=[.nils,.int .i64 e]:=by unfold y3q;rw [h];rfl
theorem y6w : ∀(L:List R3) (o last:Int) (inn:Bool) (out:List R2),(swF L o last inn out).length ≤out.length+L.length
 | [],_,_,_,out=>An _
 | e::r,o,last,inn,out=>by rw [y1i];have:=y6w r (o+e.c) e.a (decide (o+e.c>0)) (Vf out last inn e.a);have:=z2y out last inn e.a;simp only [AV];omega
theorem y3e (l:List R3):(z0q l).length =l.length:=by
 by_cases h:y0x l=true
 ·exact (Kn l h).1.length_eq
 ·unfold z0q;rw [dif_neg h]
theorem x5k (l:List R2):(Xr l).length ≤800:=by
 unfold Xr;by_cases h:400<l.length
 ·rw [Ah h];exact AJ _
 ·rw [Ay h];cases l.all z1j
  ·exact AJ _
  ·show (swV l).length ≤800;have h1:=y6w (z0q (Ku l)) 0 0 false [];rw [y3e,z4k] at h1;simp only [BV] at h1;unfold swV;omega
def Vp (r:R4):Bool:=decide (r.a<r.c)&&(decide (r.b<r.d)&&(decide (r.a≥ -1000000)&&(decide (r.a≤1000000)&&(decide (r.c≥ -1000000)&&(decide (r.c≤1000000)&&(decide (r.b≥ -1000000)&&(decide (r.b≤1000000)&&(decide (r.d≥ -1000000)&&decide (r.d≤1000000)))))))))
def D4 :Dim R4 R2:=⟨R4.a,R4.c,fun r=>⟨r.b,r.d⟩,fun x x' s=>⟨x,s.a,x',s.b⟩,fun x r=>⟨r.a,r.b,x,r.d⟩,Xr,Ko⟩
theorem D4_sec (l:List R4) (x:Int):(D4.sec l x).length ≤1000:=AF (x5k _) (by omega)
section
variable (l:List R4) (hl:l.length≤400)
include hl
theorem u3m (i:Nat) (out:List R4) (last:List R2) (first fin x x':Int): ∀(k j:Nat) (acc:List R2),j+k=l.length→acc.length≤j→
  ∃n,∀N,Yj (Xi l) (N+n) (.to (.h2 (i:Int) (j:Int) out last first fin ((D4.cuts l).length) (Wf (Xv (D4.ends l))) x x' acc))=Yj (Xi l) N (.to (.h2 (i:Int) (l.length:Int) out last first fin ((D4.cuts l).length) (Wf (Xv (D4.ends l))) x x' (acc++D4.inn (l.drop j) x)))
 | 0,j,acc,h,ha=>by refine ⟨0,fun N=> ?_⟩;rw [Au (by omega),show D4.inn ([]:List R4) x=[] from rfl,AA,A4,show j=l.length by omega]
 | k+1,j,acc,h,ha=>by
  have hj:j<l.length:=by omega
  obtain ⟨n,hn⟩:=u3m i out last first fin x x' k (j+1) (acc++D4.inn [rd l j] x) (by omega) (by have:=D4.inn_length [rd l j] x;simp only [Az,Br] at*;omega)
  refine ⟨n+1,fun N=> ?_⟩;have e:D4.inn (l.drop j) x=D4.inn [rd l j] x++D4.inn (l.drop (j+1)) x:=by rw [Ym hj,←D4.inn_append];rfl
  rw [e,←AD,Zv,←AL,←hn N];by_cases h1:D4.lo (rd l j)≤x
  ·by_cases h2:x<D4.hi (rd l j)
   ·rw [D4.inn_t _ _ h1 h2];simp only [D4] at h1 h2 ⊢;simp (disch:=omega) only [Xi,Wy,Za,Zq,Zs,Zt,Yc,Yk,Yp,Zf,Zp,Zx,Ya,Zk,Ag,Av,Ai,Al,Ab,Aa]
   ·rw [D4.inn_f2 _ _ h2,AA];simp only [D4] at h1 h2;simp (disch:=omega) only [Xi,Wy,Yw,Za,Zq,Zs,Zt,Yc,Yk,Yp,Zf,Zp,Zx,Ya,Zk,Ag,Av,Ai,Al,Ab,Aa]
  ·rw [D4.inn_f1 _ _ h1,AA];simp only [D4] at h1;simp (disch:=omega) only [Xi,x8u,Za,Zq,Zs,Zt,Yc,Yk,Yp,Zf,Zp,Zx,Ya,Zk,Ag,Av,Ai,Al,Ab,Aa]
theorem u3l (i:Nat) (hi:i≤1000) (x x':Int) (s last:List R2) (first:Int) (inn:List R2) (hs:s.length≤1000): ∀(k j:Nat) (out:List R4),j+k=s.length→out.length≤10000000+j→
  ∃n,∀N,Yj (Xi l) (N+n) (.to (.h3 x x' s (s.length:Int) (j:Int) s (i:Int) out last first ((D4.cuts l).length) (Wf (Xv (D4.ends l))) inn))=Yj (Xi l) N (.to (.h1 ((i+1:Nat):Int) (out++(s.drop j).map (D4.put x x')) last first x' ((D4.cuts l).length) (Wf (Xv (D4.ends l)))))
 | 0,j,out,h,ho=>by have _u:=hl;refine ⟨1,fun N=> ?_⟩;rw [Au (by omega),Zv];simp (disch:=omega) only [Xi,Yw,Zp,Zx,Aa,Bg,AA]
 | k+1,j,out,h,ho=>by
  obtain ⟨n,hn⟩:=u3l i hi x x' s last first inn hs k (j+1) (out++[D4.put x x' (rd s j)]) (by omega) (by simp;omega)
  refine ⟨n+1,fun N=> ?_⟩;have:=hn N;rw [Ym (show j<s.length by omega),AW,←AD,Zv];simp (disch:=omega) only [Xi,Za,Zq,Zs,Zt,Yc,Yk,Yp,Zf,Zp,Zx,Ya,Zk,Ag,Av,Ai,Al,Ab,Aa];rw [AL] at this;exact this
theorem u3k (i:Nat) (hi:i≤1000) (x x' fin:Int) (s last:List R2) (first:Int) (inn:List R2): ∀(k j:Nat) (out:List R4),j+k=out.length→out.length≤10000000→
  ∃n,∀N,Yj (Xi l) (N+n) (.to (.h4 x' (j:Int) x s (i:Int) out last first fin ((D4.cuts l).length) (Wf (Xv (D4.ends l))) inn))=Yj (Xi l) N (.to (.h1 ((i+1:Nat):Int) (D4.grow out j x') last first x' ((D4.cuts l).length) (Wf (Xv (D4.ends l)))))
 | 0,j,out,h,ho=>by have _u:=hl;refine ⟨1,fun N=> ?_⟩;rw [D4.grow_nil _ _ _ (by omega),Zv];simp (disch:=omega) only [Xi,Yw,Zp,Zx,Aa]
 | k+1,j,out,h,ho=>by
  obtain ⟨n,hn⟩:=u3k i hi x x' fin s last first inn k (j+1) (out.set j (D4.ext x' (rd out j))) (by simp;omega) (by simpa using ho)
  refine ⟨n+1,fun N=> ?_⟩;have:=hn N;rw [D4.grow_set out j _ (by omega)] at this;rw [←AD,Zv];simp (disch:=omega) only [Xi,Za,Zq,Zs,Zt,Yc,Yk,Yp,Zf,Zp,Zx,Ya,Zk,Ag,Av,Ai,Al,Ab,Aa];exact this
theorem v1d : ∀(k i:Nat) (s:Sw R4 R2),k=(D4.cuts l).length - 1 - i→i≤(D4.cuts l).length →s.out.length≤i*1000→s.last.length≤1000→s.first≤s.out.length→
  ∃n,Yj (Xi l) n (.to (.h1 ((i+1:Nat):Int) s.out s.last (s.first:Int) s.fin ((D4.cuts l).length) (Wf (Xv (D4.ends l)))))=.ret (Qx (D4.go l k i s).out)
 | 0,i,s,h,hi,ho,hla,hf=>by
  have hc:=D4.cuts_length l;refine ⟨1,?_⟩;rw [Zv,show D4.go l 0 i s=s from rfl];unfold Qx;by_cases q:(s.out.length:Int)>400
  ·simp (disch:=omega) only [Xi,Yw,Yo,Ab,Aa,Zg]
  ·simp (disch:=omega) only [Xi,Yw,Xb,Ab,Aa,Zg]
 | k +1,i,s,h,hi,ho,hla,hf=>by
  have hc:=D4.cuts_length l;have hi1:i+1<(D4.cuts l).length :=by omega
  have hpl:(Wf (Xv (D4.ends l))).length =2*l.length:=by rw [Ur,Xo,D4.ends_length]
  have r0:rd (Wf (Xv (D4.ends l))) i=rd (D4.cuts l) i:=z4b _ _ (by show i<(D4.cuts l).length;omega);have r1:rd (Wf (Xv (D4.ends l))) (i+1)=rd (D4.cuts l) (i+1):=z4b _ _ (by show i+1<(D4.cuts l).length;omega);have hbig:i*1000≤1000*1000:=AI _ (by omega);have hsl:=D4_sec l (rd (D4.cuts l) i);have hsd:D4.sec l (rd (D4.cuts l) i)=Xr (D4.inn l (rd (D4.cuts l) i)):=rfl;obtain ⟨n3,h3⟩:=u3m l hl (i+1) s.out s.last (s.first:Int) s.fin (rd (D4.cuts l) i) (rd (D4.cuts l) (i+1)) l.length 0 [] (Ag _) (An _);simp only [A2,Bk,z2z] at h3;have w1:y3f (D4.inn l (rd (D4.cuts l) i))=true:=rfl;have w2:Vn s.last (Xr (D4.inn l (rd (D4.cuts l) i)))=true:=Ah (by omega);have ol:=D4.one_length l (rd (D4.cuts l) i) (rd (D4.cuts l) (i+1)) s;have st0: ∀N,Yj (Xi l) (N+n3+1) (.to (.h1 ((i+1:Nat):Int) s.out s.last (s.first:Int) s.fin ((D4.cuts l).length) (Wf (Xv (D4.ends l)))))=Yj (Xi l) N (.to (.h2 ((i+1:Nat):Int) (l.length:Int) s.out s.last (s.first:Int) s.fin ((D4.cuts l).length) (Wf (Xv (D4.ends l))) (rd (D4.cuts l) i) (rd (D4.cuts l) (i+1)) (D4.inn l (rd (D4.cuts l) i)))):=fun N=>by
   rw [←h3 N,Zv];have e1:wrap .i64 (((i+1:Nat):Int) - 1)=(i:Int):=by rw [Zo];exact Zp (by omega)
   simp (disch:=omega) only [Xi,e1,r0,r1,Za,Zq,Zs,Zt,Yc,Yk,Yp,Zf,Zp,Zx,Ya,Zk,Ag,Av,Ai,Al,Ab,Aa]
  rcases Ye (decide (0<(D4.sec l (rd (D4.cuts l) i)).length)&&((s.fin == rd (D4.cuts l) i)&&D4.same s.last (D4.sec l (rd (D4.cuts l) i)))) with q | q
  ·obtain ⟨n5,h5⟩:=u3k l hl (i+1) (by omega) (rd (D4.cuts l) i) (rd (D4.cuts l) (i+1)) s.fin (D4.sec l (rd (D4.cuts l) i)) s.last (s.first:Int) (D4.inn l (rd (D4.cuts l) i)) (s.out.length - s.first) s.first s.out (by omega) (by omega)
   have e:D4.one l (rd (D4.cuts l) i) (rd (D4.cuts l) (i+1)) s=⟨D4.grow s.out s.first (rd (D4.cuts l) (i+1)),s.last,s.first,rd (D4.cuts l) (i+1)⟩:=by unfold Dim.one;rw [q];rfl
   obtain ⟨n0,h0⟩:=v1d k (i+1) (D4.one l (rd (D4.cuts l) i) (rd (D4.cuts l) (i+1)) s) (by omega) (by omega) (by omega) (by rw [e];exact hla) (by rw [e];simpa [Dim.grow_length] using hf);refine ⟨n0+n5+1+n3+1,?_⟩;rw [st0 (n0+n5+1),Zv];simp only [Ac,Aq] at q;obtain ⟨q1,q2,q3⟩:=q;have q3':Ko s.last (Xr (D4.inn l (rd (D4.cuts l) i)))=true:=q3;rw [hsd] at q1;simp (disch:=omega) only [Xi,Za,Zq,Yw,Yo,q2,q3',w1,w2,Ab,Aa];rw [←hsd,h5 n0];simp only [Dim.go];rw [e] at h0 ⊢;exact h0
  ·obtain ⟨n4,h4⟩:=u3l l hl (i+1) (by omega) (rd (D4.cuts l) i) (rd (D4.cuts l) (i+1)) (D4.sec l (rd (D4.cuts l) i)) (D4.sec l (rd (D4.cuts l) i)) (s.out.length:Int) (D4.inn l (rd (D4.cuts l) i)) hsl (D4.sec l (rd (D4.cuts l) i)).length 0 s.out (Ag _) (by omega);simp only [A2,z2z] at h4;have e:D4.one l (rd (D4.cuts l) i) (rd (D4.cuts l) (i+1)) s=⟨s.out++(D4.sec l (rd (D4.cuts l) i)).map (D4.put (rd (D4.cuts l) i) (rd (D4.cuts l) (i+1))),D4.sec l (rd (D4.cuts l) i),s.out.length,rd (D4.cuts l) (i+1)⟩:=by unfold Dim.one;rw [q];rfl
   obtain ⟨n0,h0⟩:=v1d k (i+1) (D4.one l (rd (D4.cuts l) i) (rd (D4.cuts l) (i+1)) s) (by omega) (by omega) (by omega) (by rw [e];exact hsl) (by rw [e];simp);have hg:Yj (Xi l) 1 (.to (.h2 ((i+1:Nat):Int) (l.length:Int) s.out s.last (s.first:Int) s.fin ((D4.cuts l).length) (Wf (Xv (D4.ends l))) (rd (D4.cuts l) i) (rd (D4.cuts l) (i+1)) (D4.inn l (rd (D4.cuts l) i))))=.to (.h3 (rd (D4.cuts l) i) (rd (D4.cuts l) (i+1)) (D4.sec l (rd (D4.cuts l) i)) ((D4.sec l (rd (D4.cuts l) i)).length :Int) 0 (D4.sec l (rd (D4.cuts l) i)) ((i+1:Nat):Int) s.out (D4.sec l (rd (D4.cuts l) i)) (s.out.length:Int) ((D4.cuts l).length) (Wf (Xv (D4.ends l))) (D4.inn l (rd (D4.cuts l) i))):=by
    rw [show (1:Nat)=0+1 from rfl,Zv];rw [hsd] at q ⊢;have e3:D4.same s.last (Xr (D4.inn l (rd (D4.cuts l) i)))=Ko s.last (Xr (D4.inn l (rd (D4.cuts l) i))):=rfl;rw [e3] at q;by_cases q1:0<(Xr (D4.inn l (rd (D4.cuts l) i))).length
    ·rw [Ah q1,Al] at q;rcases Ye (s.fin == rd (D4.cuts l) i) with q2 | q2
     ·rw [q2,Al] at q;simp (disch:=omega) only [Xi,Za,Zq,Yw,Yo,q2,q,w1,w2,Ab,Aa];rfl
     ·simp (disch:=omega) only [Xi,Za,Zq,Yw,Yo,q2,w1,w2,Ab,Aa];rfl
    ·simp (disch:=omega) only [Xi,Za,Zq,Yw,Xb,w1,w2,Ab,Aa];rfl
   refine ⟨n0+n4+1+n3+1,?_⟩;rw [st0 (n0+n4+1),z7v _ (n0+n4) 1,hg,h4 n0];simp only [Dim.go];rw [e] at h0 ⊢;exact h0
theorem u3n : ∀(k i:Nat) (acc:List Int),i+k=l.length→acc=D4.ends (l.take i)→ ∃n,Yj (Xi l) n (.to (.h0 (i:Int) acc))=.ret (Qx (D4.go l ((D4.cuts l).length - 1) 0 ⟨[],[],0,0⟩).out)
 | 0,i,acc,h,ha=>by
  have e:acc=D4.ends l:=by rw [ha,AU (by omega)]
  subst e;have hle:=D4.ends_length l;obtain ⟨n,hn⟩:=v1d l hl ((D4.cuts l).length - 1) 0 ⟨[],[],0,0⟩ (by omega) (AJ _) (AJ _) (AJ _) (AJ _);refine ⟨n+1,?_⟩;rw [Zv];simp (disch:=omega) only [Xi,Wv,z0a,cmpN_eq,Yw,Yk,Yp,Av,Ab,Aa];exact hn
 | k+1,i,acc,h,ha=>by
  have hle:=D4.ends_length (l.take i);have fH:acc.length≤2*i:=by rw [ha,hle];simp;omega
  obtain ⟨n,hn⟩:=u3n k (i+1) (acc++D4.ends [rd l i]) (by omega) (by
   rw [ha,Bn];have:l[i]? =some (rd l i):=by rw [Xp (show i<l.length by omega)];exact Ar _
   rw [this,D4.ends_append];rfl)
  refine ⟨n+1,?_⟩;rw [Zv];simp (disch:=omega) only [Xi,Za,Zq,Zs,Zt,Yc,Yk,Yp,Zf,Zp,Zx,Ya,Zk,Ag,Av,Ai,Al,Ab,Aa];exact hn
end
def u3q (l:List R4):Int:=y5c (D4.out l).length
def Wp (l:List R4):List R4:=x1a (u3q l) (D4.out l)
def z0w (l:List R4):Int:=u3q l
def Qz (l:List R4):Bool:=decide (l.length≤400)
theorem u7r (l:List R4) (h:Qz l=true): ∃n,Yj (Xi l) n (x0q l)=.ret (y3q (u3q l) (D4.out l)):=by rw [show y3q (u3q l) (D4.out l)=Qx (D4.out l) from (z8h _).symm];exact u3n l (AE h) l.length 0 [] (Ag _) rfl
def u4l (a b c d:Int):Bool:=Vp ⟨a,b,c,d⟩
theorem u4k (a b c d:Int): ∃N,Yj (x5d a b c d) N (y1h a b c d)=.ret [.bool (u4l a b c d)]:=⟨0,by
 unfold y1h u4l Vp;simp only [y5h];cases decide (a<c) <;> cases decide (b<d) <;> cases decide (a≥ -1000000) <;> cases decide (a≤1000000) <;> cases decide (c≥ -1000000) <;> cases decide (c≤1000000) <;> cases decide (b≥ -1000000) <;> cases decide (b≤1000000) <;> cases decide (d≥ -1000000) <;> rfl⟩
def fVl4 :List AVal→Option (AVal×Bool)
 | [.agg [.int .i64 aR,.int .i64 aP,.int .i64 aQ,.int .i64 bI]]=>some (.bool (u4l aR aP aQ bI),true)
 | _=>none
theorem u8o {S:Specs} (hS:Zj prog S):Zj prog (S.with w1b fVl4):=by
 refine z3m hS (by kernel_rfl) fun args v h=> ?_;unfold fVl4 at h;split at h
 ·rename_i aR aP aQ bI;simp only [Ae,Ad,Cp] at h;subst h;obtain ⟨N,hN⟩:=u4k aR aP aQ bI;exact ⟨_,_,(.cons (.refl _) .nil),rfl,v4i aR aP aQ bI N _ hN,3,rfl⟩
 ·cases h
def fMad :List AVal→Option (AVal×Bool)
 | [a0]=>match asL R4 a0 with
  | some (L0,g0,n0)=>some (.tup [.dat (Wp L0).length (Zz (Wp L0)),.int .i64 (z0w L0)],isT R4 n0 g0&&(Qz L0))
  | _=>none
 | _=>none
theorem u9i {S:Specs} (hS:Zj prog S):Zj prog (S.with v0m fMad):=by
 refine w7a hS (by kernel_rfl) fun args v h=> ?_;unfold fMad at h;split at h
 ·rename_i a0;split at h
  ·rename_i L0 g0 n0 e0;simp only [Ae,Ad,Ac] at h;obtain ⟨rfl,ho0,hw⟩:=h;obtain ⟨N,hN⟩:=u7r L0 hw;exact ⟨_,_,(.cons (Yr e0 ho0) .nil),z0r _ _,v7p L0 N _ hN,3,z6d _ _⟩
  ·cases h
 ·cases h
def T6v :Specs:=(T6.with w1b fVl4)
theorem T6v_ok :Zj prog T6v:=(u8o Kw)
def T6m :Specs:=(T6v.with v0m fMad)
theorem y5v :Zj prog T6m:=(u9i T6v_ok)
inductive rgmS where
 | h0 (v8:Int)
def rgmC (l0:List R4):rgmS→Cfg
 | .h0 v8=>⟨⟨19,0,true⟩,none,(Zd prog 154 [1,0,1,0,0] 0),none,(Zy prog 5),⟨Yd [(0,(.dat l0.length (Zz l0))),(1,(.fn 119 [])),(7,(ii (l0.length:Int))),(8,(ii v8))],Uy [] 0,0,[],true⟩,[⟨⟨9,0,true⟩,(Up prog 118 [1,0] 2),(Zd prog 118 [1,0] 1),none,(Zy prog 5),Yd [(5,(.dat l0.length (Zz l0))),(6,(.fn 119 []))]⟩,⟨⟨13,0,true⟩,(Up prog 65 [1,1,0,0] 1),(Zd prog 65 [1,1,0,0] 1),none,(Zy prog 15),Yd [(0,(.dat l0.length (Zz l0))),(7,(.dat l0.length (Zz l0)))]⟩],.leaf⟩
def rgmN0 :List (Option (List Nat)):=[some [0,1,7,8],some [5,6],some [0,7]]
def rgmM0 :List (Option (List Nat)):=[]
def z3y (l0:List R4):rgmS→Xf rgmS
 | .h0 v8=>(bif (decide (v8<(l0.length:Int))) then (bif ((decide (0≤v8∧v8<(l0.length:Int)))&&true) then (bif (!(u4l (rd l0 v8.toNat).a (rd l0 v8.toNat).b (rd l0 v8.toNat).c (rd l0 v8.toNat).d)) then (bif (decide (v8≥0)) then (.ret [.nils,(.int .i64 8)]) else (bif (Qz (cvT l0)) then (.ret [(.dat (Wp (cvT l0)).length (Zz (Wp (cvT l0)))),(.int .i64 (z0w (cvT l0)))]) else .stuck)) else (.to (.h0 (wrap .i64 (v8+1))))) else .stuck) else (bif (Qz (cvT l0)) then (.ret [(.dat (Wp (cvT l0)).length (Zz (Wp (cvT l0)))),(.int .i64 (z0w (cvT l0)))]) else .stuck))
def z7c (l0:List R4):Xf rgmS:=(bif (decide ((l0.length:Int)>400)) then (.ret [.nils,(.int .i64 4)]) else (.to (.h0 0)))
theorem w4f (l0:List R4): ∀s,Xq prog (Zy prog 65) (rgmC l0) (rgmC l0 s) (z3y l0 s)
 | .h0 v8=>(lb (fun k0=>(lo fun aG=>(lb (fun k1=>(lb (fun k2=>(lr 13 65 [1,1,0,1,0,0] 1 15 [(2,.nils),(3,(ii 8))] (sl y5v 54 [] ⟨[],[],[some [2,3]],[]⟩ ⟨[],[],[]⟩ (trs 3 []) (tt k2 (tt k1 (ww aG (tt k0 nn))))))) (fun k2=>(lo fun o0=>(lr 13 3 [1,1,1,1,1,1,1,0] 1 15 [(2,(.dat (Wp (cvT l0)).length (Zz (Wp (cvT l0))))),(3,(ii (z0w (cvT l0))))] (sl y5v 59 [] ⟨[],[],[some [2,3]],[]⟩ ⟨[],[],[]⟩ (bl 3 3) (pp (pp (xr l0) (xw o0)) (tt k2 (tt k1 (ww aG (tt k0 nn))))))))))) (fun k1=>(sl y5v 44 [] ⟨[],[],rgmN0,rgmM0⟩ ⟨[],[],[]⟩ (bl 2 1) (tt k1 (ww aG (tt k0 nn)))))))) (fun k0=>(lo fun o0=>(lr 13 3 [1,1,1,1,1,1,1,0] 1 15 [(2,(.dat (Wp (cvT l0)).length (Zz (Wp (cvT l0))))),(3,(ii (z0w (cvT l0))))] (sl y5v 28 [] ⟨[],[],[some [2,3]],[]⟩ ⟨[],[],[]⟩ (bl 2 0) (pp (pp (xr l0) (xw o0)) (tt k0 nn)))))))
theorem x6k (l0:List R4):Xq prog (Zy prog 65) (rgmC l0) (Zc prog 65 [(.dat l0.length (Zz l0))] true []) (z7c l0):=(lb (fun k0=>(lr 13 65 [1,0,1,0,0] 1 15 [(2,.nils),(3,(ii 4))] (sl y5v 18 [] ⟨[],[],[some [2,3]],[]⟩ ⟨[],[],[]⟩ [true] (tt k0 nn)))) (fun k0=>(sl y5v 41 [] ⟨[],[],rgmN0,rgmM0⟩ ⟨[],[],[]⟩ [false] (tt k0 nn))))
theorem v5s (l0:List R4) (n:Nat) (vs:List AVal) (h:Yj (z3y l0) n (z7c l0)=.ret vs):Kv prog (Zy prog 65) (Zc prog 65 [(.dat l0.length (Zz l0))] true []) vs:=by have:=Zn (w4f l0) n _ (x6k l0);rwa [h] at this
theorem u1h (l:List R4) (hl:l.length≤400): ∀(k i:Nat),i+k=l.length→(∀s∈l.take i,Vp s=true)→ ∃n,Yj (z3y l) n (.to (.h0 (i:Int)))=.ret (bif l.all Vp then [.dat (Wp l).length (Zz (Wp l)),.int .i64 (z0w l)] else [.nils,.int .i64 8])
 | 0,i,h,ht=>by have hv:l.all Vp=true:=As.2 fun s hs=>ht s (by rw [AU (by omega)];exact hs);have w:Qz l=true:=Ah hl;refine ⟨1,?_⟩;rw [Zv,hv,Ab];simp (disch:=omega) only [z3y,Za,w,Yw,Ab,Aa,Zg]
 | k+1,i,h,ht=>by
  have hi:i<l.length:=by omega
  have hs:z3y l (.h0 (i:Int))=bif Vp (rd l i) then .to (.h0 ((i+1:Nat):Int)) else .ret [.nils,.int .i64 8]:=by have e:u4l (rd l i).a (rd l i).b (rd l i).c (rd l i).d =Vp (rd l i):=rfl;simp (disch:=omega) only [z3y,e,z6q,x4c,x4d,Zt,Zp,Zx,Zk,Ai,Ab,Aa]
  rcases Ye (Vp (rd l i)) with q | q
  ·obtain ⟨n,hn⟩:=u1h l hl k (i+1) (by omega) (fun s hs=>by
    rw [Bn] at hs;have e:l[i]? =some (rd l i):=by rw [Xp hi];exact Ar _
    rw [e] at hs;simp only [Cd,AC,AM] at hs;rcases hs with hs | rfl
    ·exact ht s hs
    ·exact q)
   refine ⟨n+1,?_⟩;rw [Zv,hs,q,Ab];exact hn
  ·have hv:l.all Vp=false:=A7.2 fun e=>by have:=As.1 e (rd l i) (by rw [Xp hi];exact AS hi);rw [this] at q;cases q
   refine ⟨1,?_⟩;rw [Zv,hv,Aa,hs,q,Aa,Zg]
theorem v5r (l:List R4): ∃n,Yj (z3y l) n (z7c l)=.ret (bif decide (400<l.length) then [.nils,.int .i64 4] else bif l.all Vp then [.dat (Wp l).length (Zz (Wp l)),.int .i64 (z0w l)] else [.nils,.int .i64 8]):=by
 unfold z7c;by_cases h:400<l.length
 ·refine ⟨0,?_⟩;rw [Ah h,Yo (show (l.length:Int)>400 by omega)];rfl
 ·obtain ⟨n,hn⟩:=u1h l (by omega) l.length 0 (Ag _) (fun s hs=>by simp at hs);refine ⟨n,?_⟩;rw [Ay h,Xb (show¬(l.length:Int)>400 by omega),Aa,Aa];exact hn
def Zb (l:List R4):List R4:=bif decide (400<l.length) then [] else bif l.all Vp then (bif decide (((D4.out l).length :Int)>400) then [] else D4.out l) else []
def Xm (l:List R4):Int:=bif decide (400<l.length) then 4 else bif l.all Vp then (bif decide (((D4.out l).length :Int)>400) then 4 else 0) else 8
def Ui (l:List R4):Bool:=true
theorem u6h (l:List R4) (h:Ui l=true): ∃n,Yj (z3y l) n (z7c l)=.ret (bif decide (400<l.length) then [.nils,.int .i64 4] else bif l.all Vp then [.dat (Zb l).length (Zz (Zb l)),.int .i64 (Xm l)] else [.nils,.int .i64 8]):=by
 obtain ⟨n,hn⟩:=v5r l;refine ⟨n,hn.trans ?_⟩;cases h1:decide (400<l.length) <;> cases h2:l.all Vp <;> simp only [Ab,Aa];have e0:Wp l=Zb l:=by unfold Wp u3q x1a y5c Zb;rw [h1,h2];cases decide (((D4.out l).length :Int)>400) <;> rfl
 have e1:z0w l=Xm l:=by unfold z0w u3q y5c Xm;rw [h1,h2];rfl
 rw [e0,e1]
def fRgm :List AVal→Option (AVal×Bool)
 | [a0]=>match asL R4 a0 with
  | some (L0,g0,n0)=>some (.tup [.dat (Zb L0).length (Zz (Zb L0)),.int .i64 (Xm L0)],isT R4 n0 g0&&(Ui L0))
  | _=>none
 | _=>none
theorem u8v {S:Specs} (hS:Zj prog S):Zj prog (S.with w1d fRgm):=by
 refine w7a hS (by kernel_rfl) fun args v h=> ?_;unfold fRgm at h;split at h
 ·rename_i a0;split at h
  ·rename_i L0 g0 n0 e0;simp only [Ae,Ad,Ac] at h;obtain ⟨rfl,ho0,hw⟩:=h;obtain ⟨N,hN⟩:=u6h L0 hw;refine ⟨_,_,(.cons (Yr e0 ho0) .nil),?_,v5s L0 N _ hN,3,?_⟩
   ·cases h1:decide (400<L0.length) <;> cases h2:L0.all Vp <;> simp only [Zb,Xm,h1,h2,Ab,Aa]
    ·exact fun ρ u hu=>z3s (.cons (z6g R4) (RLe.refl _)) ρ u hu
    ·exact fun ρ u hu=>hu
    ·exact fun ρ u hu=>z3s (.cons (z6g R4) (RLe.refl _)) ρ u hu
    ·exact fun ρ u hu=>z3s (.cons (z6g R4) (RLe.refl _)) ρ u hu
   ·cases decide (400<L0.length) <;> cases L0.all Vp <;> rfl
  ·cases h
 ·cases h
def T7 :Specs:=(T6m.with w1d fRgm)
theorem x4t :Zj prog T7:=(u8v y5v)
inductive vl6S where
def vl6C (aR:Int) (aP:Int) (aQ:Int) (bI:Int) (bR:Int) (bS:Int):vl6S→Cfg
 :=nofun
def x5b (aR:Int) (aP:Int) (aQ:Int) (bI:Int) (bR:Int) (bS:Int):vl6S→Xf vl6S
 :=nofun
def y1g (aR:Int) (aP:Int) (aQ:Int) (bI:Int) (bR:Int) (bS:Int):Xf vl6S:=(bif (decide (aR<bI)) then (bif (decide (aP<bR)) then (bif (decide (aQ<bS)) then (bif (decide ((z5j (z5j aR aP) aQ)≥(-1000000))) then (bif (decide ((z5k (z5k aR aP) aQ)≤1000000)) then (bif (decide ((z5j (z5j bI bR) bS)≥(-1000000))) then (.ret [(.bool (decide ((z5k (z5k bI bR) bS)≤1000000)))]) else (.ret [(.bool false)])) else (.ret [(.bool false)])) else (.ret [(.bool false)])) else (.ret [(.bool false)])) else (.ret [(.bool false)])) else (.ret [(.bool false)]))
theorem w2z (aR:Int) (aP:Int) (aQ:Int) (bI:Int) (bR:Int) (bS:Int): ∀s,Xq prog (Zy prog 94) (vl6C aR aP aQ bI bR bS) (vl6C aR aP aQ bI bR bS s) (x5b aR aP aQ bI bR bS s)
 :=nofun
theorem x5c (aR:Int) (aP:Int) (aQ:Int) (bI:Int) (bR:Int) (bS:Int):Xq prog (Zy prog 94) (vl6C aR aP aQ bI bR bS) (Zc prog 94 [(.agg [(.int .i64 aR),(.int .i64 aP),(.int .i64 aQ),(.int .i64 bI),(.int .i64 bR),(.int .i64 bS)])] true []) (y1g aR aP aQ bI bR bS):=(lb (fun k0=>(lb (fun k1=>(lb (fun k2=>(lb (fun k3=>(lb (fun k4=>(lb (fun k5=>(lr 38 3 [1,1,1,1,1,1,1,0] 1 3 [(2,(.bool (decide ((z5k (z5k bI bR) bS)≤1000000))))] (sl x4t 100 [] ⟨[],[],[some [2]],[]⟩ ⟨[],[],[]⟩ (trs 36 []) (tt k5 (tt k4 (tt k3 (tt k2 (tt k1 (tt k0 nn))))))))) (fun k5=>(lr 38 3 [1,1,1,1,1,1,1,0] 1 3 [(2,(.bool false))] (sl x4t 100 [] ⟨[],[],[some [2]],[]⟩ ⟨[],[],[]⟩ (trs 28 [false,false,false,false,false,false,false,false]) (tt k5 (tt k4 (tt k3 (tt k2 (tt k1 (tt k0 nn))))))))))) (fun k4=>(lr 38 3 [1,1,1,1,1,1,1,0] 1 3 [(2,(.bool false))] (sl x4t 72 [] ⟨[],[],[some [2]],[]⟩ ⟨[],[],[]⟩ (trs 25 [false,false,false]) (tt k4 (tt k3 (tt k2 (tt k1 (tt k0 nn)))))))))) (fun k3=>(lr 38 3 [1,1,1,1,1,1,1,0] 1 3 [(2,(.bool false))] (sl x4t 72 [] ⟨[],[],[some [2]],[]⟩ ⟨[],[],[]⟩ (trs 17 [false,false,false,false,false,false,false,false,false,false,false]) (tt k3 (tt k2 (tt k1 (tt k0 nn))))))))) (fun k2=>(lr 38 3 [1,1,1,1,1,1,1,0] 1 3 [(2,(.bool false))] (sl x4t 44 [] ⟨[],[],[some [2]],[]⟩ ⟨[],[],[]⟩ (trs 14 [false,false,false,false,false,false]) (tt k2 (tt k1 (tt k0 nn)))))))) (fun k1=>(lr 38 3 [1,1,1,1,1,1,1,0] 1 3 [(2,(.bool false))] (sl x4t 44 [] ⟨[],[],[some [2]],[]⟩ ⟨[],[],[]⟩ (trs 7 [false,false,false,false,false,false,false,false,false,false,false,false,false]) (tt k1 (tt k0 nn))))))) (fun k0=>(lr 38 3 [1,1,1,1,1,1,1,0] 1 3 [(2,(.bool false))] (sl x4t 44 [] ⟨[],[],[some [2]],[]⟩ ⟨[],[],[]⟩ [false,false,false,false,false,false,false,false,false,false,false,false,false,false,false,false,false,false,false,false] (tt k0 nn)))))
theorem v4h (aR:Int) (aP:Int) (aQ:Int) (bI:Int) (bR:Int) (bS:Int) (n:Nat) (vs:List AVal) (h:Yj (x5b aR aP aQ bI bR bS) n (y1g aR aP aQ bI bR bS)=.ret vs):Kv prog (Zy prog 94) (Zc prog 94 [(.agg [(.int .i64 aR),(.int .i64 aP),(.int .i64 aQ),(.int .i64 bI),(.int .i64 bR),(.int .i64 bS)])] true []) vs:=by have:=Zn (w2z aR aP aQ bI bR bS) n _ (x5c aR aP aQ bI bR bS);rwa [h] at this
def Qu (r:R6):Bool:=decide (r.a<r.d)&&(decide (r.b<r.e)&&(decide (r.c<r.f)&&(decide ((z5j (z5j r.a r.b) r.c)≥(-1000000))&&(decide ((z5k (z5k r.a r.b) r.c)≤1000000)&&(decide ((z5j (z5j r.d r.e) r.f)≥(-1000000))&&decide ((z5k (z5k r.d r.e) r.f)≤1000000))))))
def u4j (a b c d e f:Int):Bool:=Qu ⟨a,b,c,d,e,f⟩
theorem u4i (a b c d e f:Int): ∃N,Yj (x5b a b c d e f) N (y1g a b c d e f)=.ret [.bool (u4j a b c d e f)]:=⟨0,by
 unfold y1g u4j Qu;simp only [y5h];cases decide (a<d) <;> cases decide (b<e) <;> cases decide (c<f) <;> cases decide ((z5j (z5j a b) c)≥(-1000000)) <;> cases decide ((z5k (z5k a b) c)≤1000000) <;> cases decide ((z5j (z5j d e) f)≥(-1000000)) <;> rfl⟩
def fVl6 :List AVal→Option (AVal×Bool)
 | [.agg [.int .i64 aR,.int .i64 aP,.int .i64 aQ,.int .i64 bI,.int .i64 bR,.int .i64 bS]]=>some (.bool (u4j aR aP aQ bI bR bS),true)
 | _=>none
theorem u8n {S:Specs} (hS:Zj prog S):Zj prog (S.with w1a fVl6):=by
 refine z3m hS (by kernel_rfl) fun args v h=> ?_;unfold fVl6 at h;split at h
 ·rename_i aR aP aQ bI bR bS;simp only [Ae,Ad,Cp] at h;subst h;obtain ⟨N,hN⟩:=u4i aR aP aQ bI bR bS;exact ⟨_,_,(.cons (.refl _) .nil),rfl,v4h aR aP aQ bI bR bS N _ hN,3,rfl⟩
 ·cases h
def T7v :Specs:=(T7.with w1a fVl6)
theorem Vh :Zj prog T7v:=(u8n x4t)
inductive sckS where
 | h0 (v8:Int)
 | h1 (v16:Int) (aA:List Int)
 | h2 (v4:Int) (aF:List R6) (aS:List R4) (aY:Int) (aZ:Int) (aE:Nat) (aH:List Int)
 | h3 (v4:Int) (v38:Int) (aF:List R6) (aS:List R4) (aY:Int) (aZ:Int) (aE:Nat) (aH:List Int) (aO:Int) (bB:Int) (aB:List R4)
 | h4 (v1:Int) (v2:Int) (v72:List R4) (v73:Int) (v74:Int) (bJ:List R4) (aU:Int) (aD:List R6) (bC:List R4) (bD:Int) (aE:Nat) (aH:List Int) (aO:List R4)
 | h5 (v2:Int) (v8:Int) (bY:Int) (bJ:List R4) (aU:Int) (aD:List R6) (bC:List R4) (bD:Int) (bV:Int) (bH:Nat) (bO:List Int) (aB:List R4)
abbrev y7k (aD:List R6) (v8:Int) (v2:Int):=(aD.set (0+(tn v8)) (R6.mk (rd aD (0+(tn v8))).a (rd aD (0+(tn v8))).b (rd aD (0+(tn v8))).c (rd aD (0+(tn v8))).d (rd aD (0+(tn v8))).e v2))
def w8i (l0:List R6):AFr:=⟨⟨25,0,true⟩,(Up prog 51 [1,1,1,0,0] 3),(Zd prog 51 [1,1,1,0,0] 1),none,(Zy prog 3),Yd [(0,(.dat l0.length (Zz l0))),(11,(.agg [.nilf])),(13,(.sl 8 0 1 (.un 1)))]⟩
abbrev y7j (aA:List Int):=(Wf (Yx aA.length (cOf (Zz (Xv (Yx aA.length (cOf (Zz aA))))))))
abbrev y7i (aB:List R4) (l0:List R6) (v38:Int):=(aB++[(R4.mk (rd l0 (tn v38)).a (rd l0 (tn v38)).b (rd l0 (tn v38)).d (rd l0 (tn v38)).e)])
abbrev y7h (aD:List R6) (v72:List R4) (v74:Int) (v1:Int) (v2:Int):=(aD++[(R6.mk (rd v72 (tn v74)).a (rd v72 (tn v74)).b v1 (rd v72 (tn v74)).c (rd v72 (tn v74)).d v2)])
def u0q :=(y6j [(0,⟨.ready,none,65,Yd [(2,(.ptr 1 0)),(4,(.ptr 2 0)),(5,(.ptr 3 0)),(6,(.ptr 4 0))],[15],(Vr prog 95 [1,1,0,1,0,0]),(Vr prog 95 [1,1,0,1,0,1])⟩)])
def z1o (l0:List R6):AVal:=(.dat l0.length (Zz l0))
def u0p :AFr:=⟨⟨65,0,true⟩,none,(.inRangeFunc 0::(Zd prog 95 [1,1,0,1,0] 1)),none,(Zy prog 95),Yd [(4,(.ptr 2 0)),(5,(.ptr 3 0)),(6,(.ptr 4 0))]⟩
abbrev y7g (aA:List Int) (l0:List R6) (v16:Int):=(aA++[(rd l0 (tn v16)).c,(rd l0 (tn v16)).f])
def sckC (l0:List R6):sckS→Cfg
 | .h0 v8=>⟨⟨19,0,true⟩,none,(Zd prog 133 [1,0,1,0,0] 0),none,(Zy prog 5),⟨Yd [(0,(z1o l0)),(1,(.fn 98 [])),(7,(ii (l0.length:Int))),(8,(ii v8))],Uy [] 0,0,[],true⟩,[⟨⟨9,0,true⟩,(Up prog 89 [1,0] 2),(Zd prog 89 [1,0] 1),none,(Zy prog 5),Yd [(5,(z1o l0)),(6,(.fn 98 []))]⟩,⟨⟨25,0,true⟩,(Up prog 51 [1,1,0,0] 1),(Zd prog 51 [1,1,0,0] 1),none,(Zy prog 3),Yd [(0,(z1o l0)),(8,(z1o l0))]⟩],.leaf⟩
 | .h1 v16 aA=>⟨⟨36,0,true⟩,none,(Zd prog 136 [1,1,0,1,0,0,1,1,0,0,1,1,0,0] 0),none,(Zy prog 3),⟨Yd [(1,(.ptr 0 0)),(3,(.ptr 2 0)),(8,(.sl 1 0 1 (.un 1))),(9,(ii 1)),(10,(ii 0)),(14,(z1o l0)),(15,(ii (l0.length:Int))),(16,(ii v16))],Uy [⟨[(.sl 1 0 1 (.un 1))],166,none⟩,⟨[(z1o l0)],22,none⟩,⟨[(.sla 7 1 0 aA.length (.un 1))],93,none⟩,⟨[.nilf],117,none⟩,⟨[.nils],38,none⟩,⟨[(ii 0)],26,none⟩,⟨[.nils,.nils,(ii 0),(ii 0)],168,none⟩,⟨rows aA.length (Zz aA),3,some ⟨1,aA.length,(Zz aA)⟩⟩] 0,8,[],true⟩,[⟨⟨65,0,true⟩,(Up prog 95 [1,1,0,0] 1),(Zd prog 95 [1,1,0,0] 1),none,(Zy prog 95),Yd [(2,(.ptr 3 0)),(4,(.ptr 4 0)),(5,(.ptr 5 0)),(6,(.ptr 6 0)),(13,(.sl 1 0 1 (.un 1)))]⟩,⟨⟨25,0,true⟩,(Up prog 51 [1,1,1,0,0] 3),(Zd prog 51 [1,1,1,0,0] 1),none,(Zy prog 3),Yd [(0,(z1o l0)),(11,(.agg [.nilf])),(13,(.sl 1 0 1 (.un 1)))]⟩],.leaf⟩
 | .h2 v4 aF aS aY aZ aE aH=>⟨⟨86,0,true⟩,none,(Zd prog 171 [1,0,0] 0),none,[],⟨Yd [(0,(.yld 0)),(1,(.ptr 5 0)),(2,(.ptr 7 0)),(4,(ii v4))],y0k [(1,⟨[.nilf],117,none⟩),(2,⟨[.nils],38,none⟩),(3,⟨[(ii 0)],26,none⟩),(4,⟨[(.sla 9 6 0 aF.length (.un 6)),(.dat aS.length (Zz aS)),(ii aY),(ii aZ)],168,none⟩),(5,⟨[(.sla 6 1 0 aE (.un 1))],93,none⟩),(6,⟨rows aH.length (Zz aH),3,some ⟨1,aH.length,(Zz aH)⟩⟩),(7,⟨[(.sl 8 0 1 (.un 1))],166,none⟩),(8,⟨[(z1o l0)],22,none⟩),(9,⟨rows aF.length (Zz aF),67,some ⟨6,aF.length,(Zz aF)⟩⟩)],10,[],true⟩,[u0p,(w8i l0)],u0q⟩
 | .h3 v4 v38 aF aS aY aZ aE aH aO bB aB=>⟨⟨86,0,true⟩,none,(Zd prog 171 [1,0,0,1,0,0,1,0,1,0,0,1,1,0,0,1,1,0,0] 0),none,[],⟨Yd [(0,(.yld 0)),(1,(.ptr 5 0)),(2,(.ptr 7 0)),(4,(ii v4)),(5,(.ptr 9 0)),(6,(ii 0)),(29,(.sl 8 0 1 (.un 1))),(30,(ii 1)),(31,(ii 0)),(36,(z1o l0)),(37,(ii (l0.length:Int))),(38,(ii v38))],y0k [(1,⟨[.nilf],117,none⟩),(2,⟨[.nils],38,none⟩),(3,⟨[(ii 0)],26,none⟩),(4,⟨[(.sla 12 6 0 aF.length (.un 6)),(.dat aS.length (Zz aS)),(ii aY),(ii aZ)],168,none⟩),(5,⟨[(.sla 6 1 0 aE (.un 1))],93,none⟩),(6,⟨rows aH.length (Zz aH),3,some ⟨1,aH.length,(Zz aH)⟩⟩),(7,⟨[(.sl 8 0 1 (.un 1))],166,none⟩),(8,⟨[(z1o l0)],22,none⟩),(9,⟨[(ii aO),(ii bB),(.sl 10 0 1 (.ex 1))],173,none⟩),(10,⟨[(.sla 11 4 0 aB.length (.un 4))],99,none⟩),(11,⟨rows aB.length (Zz aB),88,some ⟨4,aB.length,(Zz aB)⟩⟩),(12,⟨rows aF.length (Zz aF),67,some ⟨6,aF.length,(Zz aF)⟩⟩)],13,[],true⟩,[u0p,(w8i l0)],u0q⟩
 | .h4 v1 v2 v72 v73 v74 bJ aU aD bC bD aE aH aO=>⟨⟨101,0,true⟩,none,(Zd prog 137 [1,1,1,0,0] 0),none,[],⟨Yd [(0,(.ptr 0 0)),(1,(ii v1)),(2,(ii v2)),(72,(.dat v72.length (Zz v72))),(73,(ii v73)),(74,(ii v74))],y0k [(0,⟨[(.sla 10 6 0 aD.length (.un 6)),(.dat bC.length (Zz bC)),(ii bD),(ii v2)],168,none⟩),(2,⟨[.nilf],117,none⟩),(3,⟨[.nils],38,none⟩),(4,⟨[(ii 0)],26,none⟩),(5,⟨[(.sla 6 1 0 aE (.un 1))],93,none⟩),(6,⟨rows aH.length (Zz aH),3,some ⟨1,aH.length,(Zz aH)⟩⟩),(7,⟨[(.sl 8 0 1 (.un 1))],166,none⟩),(8,⟨[(z1o l0)],22,none⟩),(9,⟨[(.dat aO.length (Zz aO))],99,none⟩),(10,⟨rows aD.length (Zz aD),67,some ⟨6,aD.length,(Zz aD)⟩⟩)],11,[],true⟩,[⟨⟨65,0,true⟩,(Up prog 95 [1,1,0,1,0,1,0,1,1,1] 5),(Zd prog 95 [1,1,0,1,0,1,0,1,1,1] 1),(some 1),[],Yd [(6,(.ptr 0 0)),(54,(ii v1)),(56,(ii v2)),(57,(.dat bJ.length (Zz bJ)))]⟩,⟨⟨86,0,true⟩,(Up prog 171 [1,0,0,1,0,0,1,1,0] 2),(Zd prog 171 [1,0,0,1,0,0,1,1,0] 1),none,[],Yd [(0,(.yld 1)),(1,(.ptr 5 0)),(2,(.ptr 7 0)),(4,(ii aU)),(82,(.yld 1)),(83,(.agg [(ii v1),(ii v2),(.sl 9 0 1 (.ex 1))]))]⟩,⟨⟨65,0,true⟩,none,(.inRangeFunc 1::(Zd prog 95 [1,1,0,1,0] 1)),none,(Zy prog 95),Yd [(4,(.ptr 3 0)),(5,(.ptr 4 0)),(6,(.ptr 0 0))]⟩,(w8i l0)],(y6j [(1,⟨.busy,none,65,Yd [(2,(.ptr 2 0)),(4,(.ptr 3 0)),(5,(.ptr 4 0)),(6,(.ptr 0 0))],[15],(Vr prog 95 [1,1,0,1,0,0]),(Vr prog 95 [1,1,0,1,0,1])⟩)])⟩
 | .h5 v2 v8 bY bJ aU aD bC bD bV bH bO aB=>⟨⟨101,0,true⟩,none,(Zd prog 137 [0,1,0,0,1,0,0] 0),none,[],⟨Yd [(0,(.ptr 0 0)),(2,(ii v2)),(8,(ii v8))],y0k [(0,⟨[(.sla 1 6 0 aD.length (.un 6)),(.dat bC.length (Zz bC)),(ii bD),(ii bV)],168,none⟩),(1,⟨rows aD.length (Zz aD),67,some ⟨6,aD.length,(Zz aD)⟩⟩),(3,⟨[.nilf],117,none⟩),(4,⟨[.nils],38,none⟩),(5,⟨[(ii 0)],26,none⟩),(6,⟨[(.sla 7 1 0 bH (.un 1))],93,none⟩),(7,⟨rows bO.length (Zz bO),3,some ⟨1,bO.length,(Zz bO)⟩⟩),(8,⟨[(.sl 9 0 1 (.un 1))],166,none⟩),(9,⟨[(z1o l0)],22,none⟩),(10,⟨[(.dat aB.length (Zz aB))],99,none⟩)],11,[],true⟩,[⟨⟨65,0,true⟩,(Up prog 95 [1,1,0,1,0,1,0,1,1,1] 5),(Zd prog 95 [1,1,0,1,0,1,0,1,1,1] 1),(some 2),[],Yd [(6,(.ptr 0 0)),(54,(ii bY)),(56,(ii v2)),(57,(.dat bJ.length (Zz bJ)))]⟩,⟨⟨86,0,true⟩,(Up prog 171 [1,0,0,1,0,0,1,1,0] 2),(Zd prog 171 [1,0,0,1,0,0,1,1,0] 1),none,[],Yd [(0,(.yld 2)),(1,(.ptr 6 0)),(2,(.ptr 8 0)),(4,(ii aU)),(82,(.yld 2)),(83,(.agg [(ii bY),(ii v2),(.sl 10 0 1 (.ex 1))]))]⟩,⟨⟨65,0,true⟩,none,(.inRangeFunc 2::(Zd prog 95 [1,1,0,1,0] 1)),none,(Zy prog 95),Yd [(4,(.ptr 4 0)),(5,(.ptr 5 0)),(6,(.ptr 0 0))]⟩,⟨⟨25,0,true⟩,(Up prog 51 [1,1,1,0,0] 3),(Zd prog 51 [1,1,1,0,0] 1),none,(Zy prog 3),Yd [(0,(z1o l0)),(11,(.agg [.nilf])),(13,(.sl 9 0 1 (.un 1)))]⟩],(y6j [(2,⟨.busy,none,65,Yd [(2,(.ptr 3 0)),(4,(.ptr 4 0)),(5,(.ptr 5 0)),(6,(.ptr 0 0))],[15],(Vr prog 95 [1,1,0,1,0,0]),(Vr prog 95 [1,1,0,1,0,1])⟩)])⟩
def sckN0 :List (Option (List Nat)):=[some [0,1,7,8],some [5,6],some [0,8]]
def sckM0 :List (Option (List Nat)):=[]
def u5j :List (Option (List Nat)):=[some [1,3,8,9,10,14,15,16],some [2,4,5,6,13],some [0,11,13]]
def u5l :List (Option (List Nat)):=[]
def u5i :List (Option (List Nat)):=[some [0,1,2,4],some [4,5,6],some [0,11,13]]
def u5k :List (Option (List Nat)):=[some [2,4,5,6],none,none,none,none,none,none,none,none,none]
def v4x :List (Option (List Nat)):=[some [0,1,2,4,5,6,29,30,31,36,37,38],some [4,5,6],some [0,11,13]]
def v4z :List (Option (List Nat)):=[some [2,4,5,6],none,none,none,none,none,none,none,none,none,none,none,none]
def v4w :List (Option (List Nat)):=[some [0,1,2,72,73,74],some [6,54,56,57],some [0,1,2,4,82,83],some [4,5,6],some [0,11,13]]
def v4y :List (Option (List Nat)):=[none,some [2,4,5,6],none,none,none,none,none,none,none,none,none]
def sckN5 :List (Option (List Nat)):=[some [0,2,8],some [6,54,56,57],some [0,1,2,4,82,83],some [4,5,6],some [0,11,13]]
def sckM5 :List (Option (List Nat)):=[none,none,some [2,4,5,6],none,none,none,none,none,none,none,none]
def Xj (l0:List R6):sckS→Xf sckS
 | .h0 v8=>(bif (decide (v8<(l0.length:Int))) then (bif ((decide (0≤v8∧v8<(l0.length:Int)))&&true) then (bif (!(u4j (rd l0 v8.toNat).a (rd l0 v8.toNat).b (rd l0 v8.toNat).c (rd l0 v8.toNat).d (rd l0 v8.toNat).e (rd l0 v8.toNat).f)) then (bif (decide (v8≥0)) then (.ret [(.int .i64 8)]) else (.to (.h1 0 ([]:List Int)))) else (.to (.h0 (wrap .i64 (v8+1))))) else .stuck) else (.to (.h1 0 ([]:List Int))))
 | .h1 v16 aA=>(bif (decide (v16<(l0.length:Int))) then (bif ((decide (0≤v16∧v16<(l0.length:Int)))&&true) then (bif (Nat.beq 1 1&&((decide (0+aA.length=aA.length))&&decide ((aA.length+2+1)*(8+1)≤Ju))) then (.to (.h1 (wrap .i64 (v16+1)) (aA++[(rd l0 v16.toNat).c,(rd l0 v16.toNat).f]))) else .stuck) else .stuck) else (bif (decide (aA.length<4611686018427387904)) then (bif (decide (aA.length=aA.length)) then (.to (.h2 1 ([]:List R6) ([]:List R4) 0 0 (v3e (Yx aA.length (cOf (Zz (Xv (Yx aA.length (cOf (Zz aA)))))))) (Wf (Yx aA.length (cOf (Zz (Xv (Yx aA.length (cOf (Zz aA)))))))))) else .stuck) else .stuck))
 | .h2 v4 aF aS aY aZ aE aH=>(bif (decide (v4<((aE:Nat):Int))) then (bif ((decide (0≤(wrap .i64 (v4 - 1))∧(wrap .i64 (v4 - 1))<((aE:Nat):Int)))&&true) then (bif (decide ((0+(Int.toNat (wrap .i64 (v4 - 1))))<aH.length)) then (bif ((decide (0≤v4∧v4<((aE:Nat):Int)))&&true) then (bif (decide ((0+v4.toNat)<aH.length)) then (.to (.h3 v4 0 aF aS aY aZ aE aH (rd aH (0+(Int.toNat (wrap .i64 (v4 - 1))))) (rd aH (0+v4.toNat)) ([]:List R4))) else .stuck) else .stuck) else .stuck) else .stuck) else (bif (decide ((aF.length:Int)>400)) then (.ret [(.int .i64 8)]) else (bif (Nat.beq 6 6&&(decide (0+aF.length≤aF.length)&&Ka (Zz aF))) then (bif (Vi (lst R6 (aF.length) (fun k=>(Zz aF) (0+k))) (cvT l0)) then (bif (!(Kk (lst R6 (aF.length) (fun k=>(Zz aF) (0+k))) (cvT l0))) then (.ret [(.int .i64 8)]) else (.ret [(.int .i64 0)])) else .stuck) else .stuck)))
 | .h3 v4 v38 aF aS aY aZ aE aH aO bB aB=>(bif (decide (v38<(l0.length:Int))) then (bif ((decide (0≤v38∧v38<(l0.length:Int)))&&true) then (bif (decide ((rd l0 v38.toNat).c ≤aO)) then (bif (decide (aO<(rd l0 v38.toNat).f)) then (bif (Nat.beq 4 4&&((decide (0+aB.length=aB.length))&&decide ((aB.length+1+1)*(32+1)≤Ju))) then (.to (.h3 v4 (wrap .i64 (v38+1)) aF aS aY aZ aE aH aO bB (aB++[(R4.mk (rd l0 v38.toNat).a (rd l0 v38.toNat).b (rd l0 v38.toNat).d (rd l0 v38.toNat).e)]))) else .stuck) else (.to (.h3 v4 (wrap .i64 (v38+1)) aF aS aY aZ aE aH aO bB aB))) else (.to (.h3 v4 (wrap .i64 (v38+1)) aF aS aY aZ aE aH aO bB aB))) else .stuck) else (bif (Ui (cvT aB)) then (bif ((Xm (cvT aB)) != 0) then (.ret [(.int .i64 8)]) else (bif (decide ((((Zb (cvT aB)).length :Nat):Int)>0)) then (bif (aZ == aO) then (bif (Wb (cvT aS) (cvT (Zb (cvT aB)))) then (bif (Jh (cvT aS) (cvT (Zb (cvT aB)))) then (.to (.h5 bB aY aO (Zb (cvT aB)) v4 aF aS aY aZ aE aH aB)) else (.to (.h4 aO bB (Zb (cvT aB)) (((Zb (cvT aB)).length :Nat):Int) 0 (Zb (cvT aB)) v4 aF (Zb (cvT aB)) (aF.length:Int) aE aH aB))) else .stuck) else (.to (.h4 aO bB (Zb (cvT aB)) (((Zb (cvT aB)).length :Nat):Int) 0 (Zb (cvT aB)) v4 aF (Zb (cvT aB)) (aF.length:Int) aE aH aB))) else (.to (.h4 aO bB (Zb (cvT aB)) (((Zb (cvT aB)).length :Nat):Int) 0 (Zb (cvT aB)) v4 aF (Zb (cvT aB)) (aF.length:Int) aE aH aB)))) else .stuck))
 | .h4 v1 v2 v72 v73 v74 bJ aU aD bC bD aE aH aO=>(bif (decide (v74<v73)) then (bif ((decide (0≤v74∧v74<(v72.length:Int)))&&true) then (bif (Nat.beq 6 6&&((decide (0+aD.length=aD.length))&&decide ((aD.length+1+1)*(48+1)≤Ju))) then (.to (.h4 v1 v2 v72 v73 (wrap .i64 (v74+1)) bJ aU (aD++[(R6.mk (rd v72 v74.toNat).a (rd v72 v74.toNat).b v1 (rd v72 v74.toNat).c (rd v72 v74.toNat).d v2)]) bC bD aE aH aO)) else .stuck) else .stuck) else (.to (.h2 (wrap .i64 (aU+1)) aD bC bD v2 aE aH)))
 | .h5 v2 v8 bY bJ aU aD bC bD bV bH bO aB=>(bif (decide (v8<(aD.length:Int))) then (bif ((decide (0≤v8∧v8<(aD.length:Int)))&&true) then (bif (decide ((0+v8.toNat)<aD.length)) then (.to (.h5 v2 (wrap .i64 (v8+1)) bY bJ aU (aD.set (0+v8.toNat) (R6.mk (rd aD (0+v8.toNat)).a (rd aD (0+v8.toNat)).b (rd aD (0+v8.toNat)).c (rd aD (0+v8.toNat)).d (rd aD (0+v8.toNat)).e v2)) bC bD bV bH bO aB)) else .stuck) else .stuck) else (.to (.h2 (wrap .i64 (aU+1)) aD bC bD v2 bH bO)))
def y1m (l0:List R6):Xf sckS:=(bif (decide ((l0.length:Int)>400)) then (.ret [(.int .i64 4)]) else (.to (.h0 0)))
theorem w3r (l0:List R6): ∀s,Xq prog (Zy prog 51) (sckC l0) (sckC l0 s) (Xj l0 s)
 | .h0 v8=>(lb (fun k0=>(lo fun aG=>(lb (fun k1=>(lb (fun k2=>(lr 25 51 [1,1,0,1,0,0] 1 3 [(2,(ii 8))] (sl Vh 53 [] ⟨[],[],[some [2]],[]⟩ ⟨[],[],[]⟩ (trs 3 []) (tt k2 (tt k1 (ww aG (tt k0 nn))))))) (fun k2=>(sl Vh 113 [(3,1,Zz ([]:List Int))] ⟨[6,1,7,2,3,4,5,8],[],u5j,u5l⟩ ⟨[],[.keep,.keep,.cells [.grow 7 1],.keep,.keep,.keep,.keep,.keep],[]⟩ (bl 4 11) (pp (fl ([]:List Int) nn) (tt k2 (tt k1 (ww aG (tt k0 nn))))))))) (fun k1=>(sl Vh 44 [] ⟨[],[],sckN0,sckM0⟩ ⟨[],[],[]⟩ (bl 2 1) (tt k1 (ww aG (tt k0 nn)))))))) (fun k0=>(sl Vh 82 [(3,1,Zz ([]:List Int))] ⟨[5,0,6,1,2,3,4,7],[],u5j,u5l⟩ ⟨[],[.keep,.keep,.cells [.grow 7 1],.keep,.keep,.keep,.keep,.keep],[]⟩ (bl 3 4) (pp (fl ([]:List Int) nn) (tt k0 nn)))))
 | .h1 v16 aA=>(lb (fun k0=>(lo fun o0=>(lo fun o1=>(sl Vh 34 [] ⟨[0,1,2,3,4,5,6,10],[],u5j,u5l⟩ ⟨[],[.keep,.keep,.cells [.len (y7g aA l0 v16).length],.keep,.keep,.keep,.keep,.rowed 1 (y7g aA l0 v16).length (Zz (y7g aA l0 v16))],[]⟩ [true] (pp (xL (aA.length+2) (y7g aA l0 v16).length) (pp (xL (aA.length+2) (y7g aA l0 v16).length) (pp (xS (aA.length+2) (Zi (Zz aA) 0 aA.length 1 [(ii (rd l0 (tn v16)).c),(ii (rd l0 (tn v16)).f)]) (Zz (y7g aA l0 v16))) (pp (pp (xF (Zi (Zz aA) 0 aA.length 1 [(ii (rd l0 (tn v16)).c),(ii (rd l0 (tn v16)).f)])) nn) (ww o1 (ww o0 (tt k0 nn))))))))))) (fun k0=>(lo fun o0=>(lo fun o1=>(sl Vh 46 [(67,6,Zz ([]:List R6))] ⟨[8,3,4,5,6,2,7,0,1,9],[],u5i,u5k⟩ ⟨[],(kpB 4 [.cells [.grow 9 6,.list 0 (Zz ([]:List R4)),.keep,.keep],.keep,.rowed 1 (y7j aA).length (Zz (y7j aA)),.keep,.keep,.keep]),[]⟩ (bl 2 0) (pp (xL aA.length (y7j aA).length (by first | exact z1w _ _ | exact Vy rfl)) (pp (xS aA.length (Zz (y7j aA)) (Zz (y7j aA))) (pp (fl (y7j aA) (fl ([]:List R6) nn)) (pp (pp (xG (Nat.beq 1 1)) (pp (xG (Nat.beq 1 1)) (pp (xG (Nat.beq 0 0)) (pp (xG (decide (aA.length=aA.length))) (pp (xG (isI (Zz (Xv (Yx aA.length (cOf (Zz aA))))))) (xG (decide (aA.length<4611686018427387904)))))))) (pp (pp (xG (Nat.beq 1 1)) (pp (xG (Nat.beq 1 1)) (pp (xG (Nat.beq 0 0)) (pp (xG (decide (aA.length=aA.length))) (pp (xG (isI (Zz aA))) (xG (decide (aA.length<4611686018427387904)))))))) (tt k0 nn)))))))))))
 | .h2 v4 aF aS aY aZ aE aH=>(lb (fun k0=>(lo fun o0=>(lo fun o1=>(lo fun o2=>(lo fun o3=>(sl Vh 48 [(88,4,Zz ([]:List R4))] ⟨[0,1,2,3,4,5,6,7,8,10,11,12,9],[],v4x,v4z⟩ ⟨[],(kpB 10 [.cells [.grow 11 4],.keep,.keep]),[]⟩ (trs 3 []) (pp (fl aH (fl ([]:List R4) (fl aF nn))) (ww o3 (ww o2 (ww o1 (ww o0 (tt k0 nn)))))))))))) (fun k0=>(lb (fun k1=>(lr 25 51 [1,1,1,0,1,1,0,0] 1 3 [(2,(ii 8))] (sl Vh 50 [] ⟨[],[],[some [2]],[]⟩ ⟨[],[],[]⟩ (bl 7 126) (tt k1 (tt k0 nn))))) (fun k1=>(lo fun bT=>(lo fun cJ=>(lb (fun k2=>(lr 25 51 [1,1,1,0,1,1,0,0] 1 3 [(2,(ii 8))] (sl Vh 53 [] ⟨[],[],[some [2]],[]⟩ ⟨[],[],[]⟩ (bl 7 64) (tt k2 (pp (pp (pp (xw bT) (pp nn nn)) (pp (xI R6 (aF.length) (fun k=>(Zz aF) (0+k))) (pp (xr l0) (xw cJ)))) (tt k1 (tt k0 nn))))))) (fun k2=>(lr 25 3 [1,1,1,1,1,1,1,0] 1 3 [(2,(ii 0))] (sl Vh 54 [] ⟨[],[],[some [2]],[]⟩ ⟨[],[],[]⟩ (bl 7 0) (tt k2 (pp (pp (pp (xw bT) (pp nn nn)) (pp (xI R6 (aF.length) (fun k=>(Zz aF) (0+k))) (pp (xr l0) (xw cJ)))) (tt k1 (tt k0 nn))))))))))))))
 | .h3 v4 v38 aF aS aY aZ aE aH aO bB aB=>(lb (fun k0=>(lo fun aG=>(lb (fun k1=>(lb (fun k2=>(lo fun o0=>(sl Vh 41 [] ⟨[0,1,2,3,4,5,6,7,8,9,10,15,12],[],v4x,v4z⟩ ⟨[],(kpB 10 [.cells [.len (y7i aB l0 v38).length],.rowed 4 (y7i aB l0 v38).length (Zz (y7i aB l0 v38)),.keep]),[]⟩ (trs 8 []) (pp (xL (aB.length+1) (y7i aB l0 v38).length) (pp (xL (aB.length+1) (y7i aB l0 v38).length) (pp (xS (aB.length+1) (Zi (Zz aB) 0 aB.length 4 [(ii (rd l0 (tn v38)).a),(ii (rd l0 (tn v38)).b),(ii (rd l0 (tn v38)).d),(ii (rd l0 (tn v38)).e)]) (Zz (y7i aB l0 v38))) (pp (fl aH (pp (xF (Zi (Zz aB) 0 aB.length 4 [(ii (rd l0 (tn v38)).a),(ii (rd l0 (tn v38)).b),(ii (rd l0 (tn v38)).d),(ii (rd l0 (tn v38)).e)])) (fl aF nn))) (ww o0 (tt k2 (tt k1 (ww aG (tt k0 nn)))))))))))) (fun k2=>(sl Vh 41 [] ⟨(List.range 13),[],v4x,v4z⟩ ⟨[],[],[]⟩ (trs 7 [false]) (pp (fl aH (fl aB (fl aF nn))) (tt k2 (tt k1 (ww aG (tt k0 nn))))))))) (fun k1=>(sl Vh 41 [] ⟨(List.range 13),[],v4x,v4z⟩ ⟨[],[],[]⟩ (bl 8 1) (pp (fl aH (fl aB (fl aF nn))) (tt k1 (ww aG (tt k0 nn))))))))) (fun k0=>(Xa (sl Vh (C':=⟨⟨65,0,true⟩,(Up prog 95 [1,1,0,1,0,1,0,0] 4),(Zd prog 95 [1,1,0,1,0,1,0,0] 1),(some 0),[],⟨Yd [(2,(.ptr 1 0)),(4,(.ptr 2 0)),(5,(.ptr 3 0)),(6,(.ptr 4 0)),(7,(.ptr 6 0)),(20,(.dat aB.length (Zz aB)))],y0k [(1,⟨[.nilf],117,none⟩),(2,⟨[.nils],38,none⟩),(3,⟨[(ii 0)],26,none⟩),(4,⟨[(.sla 5 6 0 aF.length (.un 6)),(.dat aS.length (Zz aS)),(ii aY),(ii aZ)],168,none⟩),(5,⟨rows aF.length (Zz aF),67,some ⟨6,aF.length,(Zz aF)⟩⟩),(6,⟨[(ii aO),(ii bB),(.sl 7 0 1 (.ex 1))],173,none⟩),(7,⟨[(.dat aB.length (Zz aB))],99,none⟩),(8,⟨[(.sla 9 1 0 aE (.un 1))],93,none⟩),(9,⟨rows aH.length (Zz aH),3,some ⟨1,aH.length,(Zz aH)⟩⟩),(10,⟨[(.sl 11 0 1 (.un 1))],166,none⟩),(11,⟨[(.dat l0.length (Zz l0))],22,none⟩)],12,[],true⟩,[⟨⟨86,0,true⟩,(Up prog 171 [1,0,0,1,0,0,1,1,0] 2),(Zd prog 171 [1,0,0,1,0,0,1,1,0] 1),none,[],Yd [(0,(.yld 0)),(1,(.ptr 8 0)),(2,(.ptr 10 0)),(4,(ii v4)),(82,(.yld 0)),(83,(.agg [(ii aO),(ii bB),(.sl 7 0 1 (.ex 1))]))]⟩,⟨⟨65,0,true⟩,none,(.inRangeFunc 0::(Zd prog 95 [1,1,0,1,0] 1)),none,(Zy prog 95),Yd [(4,(.ptr 2 0)),(5,(.ptr 3 0)),(6,(.ptr 4 0))]⟩,⟨⟨25,0,true⟩,(Up prog 51 [1,1,1,0,0] 3),(Zd prog 51 [1,1,1,0,0] 1),none,(Zy prog 3),Yd [(0,(.dat l0.length (Zz l0))),(11,(.agg [.nilf])),(13,(.sl 11 0 1 (.un 1)))]⟩],(y6j [(0,⟨.busy,none,65,Yd [(2,(.ptr 1 0)),(4,(.ptr 2 0)),(5,(.ptr 3 0)),(6,(.ptr 4 0))],[15],(Vr prog 95 [1,1,0,1,0,0]),(Vr prog 95 [1,1,0,1,0,1])⟩)])⟩) 37 [] ⟨[0,1,2,3,4,12,13,10,5,6,7,8],[11],[some [2,4,5,6,7,20],some [0,1,2,4,82,83],some [4,5,6],some [0,11,13]],[some [2,4,5,6],none,none,none,none,none,none,none,none,none,none,none]⟩ ⟨[(20,.frz aB.length aB.length (Zz aB) (Zz aB))],[.keep,.keep,.keep,.keep,.keep,.keep,.keep,.cells [.frz aB.length aB.length (Zz aB) (Zz aB)],.keep,.keep,.keep,.keep],[]⟩ (bl 2 0) (pp (xZ (z6i 4 4 0 aB.length aB.length (Zz aB)) aB.length (Zz aB)) (pp (xL aB.length aB.length) (pp (xS aB.length (Zz aB) (Zz aB)) (pp (xZ (z6i 4 4 0 aB.length aB.length (Zz aB)) aB.length (Zz aB)) (pp (xL aB.length aB.length) (pp (xS aB.length (Zz aB) (Zz aB)) (pp (fl aF (fl aH nn)) (pp (fl aB nn) (tt k0 nn)))))))))) (lo fun aG=>(lb (fun k1=>(lr 25 51 [1,1,1,0,1,1,0,0] 1 3 [(2,(ii 8))] (sl Vh 67 [] ⟨[],[],[some [2]],[]⟩ ⟨[],[],[]⟩ (bl 8 254) (tt k1 (tt k1 (pp (pp (xr aB) (xw aG)) nn)))))) (fun k1=>(lb (fun k2=>(lb (fun k3=>(lo fun bW=>(lb (fun k4=>(sl Vh 75 [] ⟨[4,5,0,1,2,3,8,9,10,11,7],[],sckN5,sckM5⟩ ⟨[],[],[]⟩ (bl 15 32764) (pp (fl aF (fl aH nn)) (tt k4 (pp (pp (xr aS) (pp (xI R4 (Zb (cvT aB)).length (Zz (Zb (cvT aB)))) (xw bW))) (tt k3 (tt k2 (tt k1 (pp (pp (xr aB) (xw aG)) nn))))))))) (fun k4=>(sl Vh 95 [] ⟨[4,0,1,2,3,8,9,10,11,7,5],[],v4w,v4y⟩ ⟨[],[],[]⟩ (bl 15 16380) (pp (fl aH (fl aF nn)) (tt k4 (pp (pp (xr aS) (pp (xI R4 (Zb (cvT aB)).length (Zz (Zb (cvT aB)))) (xw bW))) (tt k3 (tt k2 (tt k1 (pp (pp (xr aB) (xw aG)) nn)))))))))))) (fun k3=>(sl Vh 95 [] ⟨[4,0,1,2,3,8,9,10,11,7,5],[],v4w,v4y⟩ ⟨[],[],[]⟩ (bl 15 252) (pp (fl aH (fl aF nn)) (tt k3 (tt k2 (tt k1 (pp (pp (xr aB) (xw aG)) nn))))))))) (fun k2=>(sl Vh 95 [] ⟨[4,0,1,2,3,8,9,10,11,7,5],[],v4w,v4y⟩ ⟨[],[],[]⟩ (bl 15 0) (pp (fl aH (fl aF nn)) (tt k2 (tt k1 (pp (pp (xr aB) (xw aG)) nn)))))))))))))
 | .h4 v1 v2 v72 v73 v74 bJ aU aD bC bD aE aH aO=>(lb (fun k0=>(lo fun o0=>(lo fun o1=>(sl Vh 23 [] ⟨[0,1,2,3,4,5,6,7,8,9,13],[],v4w,v4y⟩ ⟨[],[.cells [.len (y7h aD v72 v74 v1 v2).length,.keep,.keep,.keep],.keep,.keep,.keep,.keep,.keep,.keep,.keep,.keep,.keep,.rowed 6 (y7h aD v72 v74 v1 v2).length (Zz (y7h aD v72 v74 v1 v2))],[]⟩ [true] (pp (xL (aD.length+1) (y7h aD v72 v74 v1 v2).length) (pp (xL (aD.length+1) (y7h aD v72 v74 v1 v2).length) (pp (xS (aD.length+1) (Zi (Zz aD) 0 aD.length 6 [(ii (rd v72 (tn v74)).a),(ii (rd v72 (tn v74)).b),(ii v1),(ii (rd v72 (tn v74)).c),(ii (rd v72 (tn v74)).d),(ii v2)]) (Zz (y7h aD v72 v74 v1 v2))) (pp (fl aH (pp (xF (Zi (Zz aD) 0 aD.length 6 [(ii (rd v72 (tn v74)).a),(ii (rd v72 (tn v74)).b),(ii v1),(ii (rd v72 (tn v74)).c),(ii (rd v72 (tn v74)).d),(ii v2)])) nn)) (ww o1 (ww o0 (tt k0 nn))))))))))) (fun k0=>(sl Vh 22 [] ⟨[1,2,3,4,0,5,6,7,8,10],[],u5i,u5k⟩ ⟨[],[],[]⟩ (bl 2 0) (pp (fl aH (fl aD nn)) (tt k0 nn)))))
 | .h5 v2 v8 bY bJ aU aD bC bD bV bH bO aB=>(lb (fun k0=>(lo fun o0=>(lo fun o1=>(sl Vh 34 [] ⟨(List.range 11),[],sckN5,sckM5⟩ ⟨[],[.cells [.len (y7k aD v8 v2).length,.keep,.keep,.keep],.rowed 6 (y7k aD v8 v2).length (Zz (y7k aD v8 v2)),.keep,.keep,.keep,.keep,.keep,.keep,.keep,.keep,.keep],[]⟩ [true] (pp (xL aD.length (y7k aD v8 v2).length) (pp (xL aD.length (y7k aD v8 v2).length) (pp (xS aD.length (Xn (Zz aD) (0+(tn v8)) 5 [(ii v2)]) (Zz (y7k aD v8 v2))) (pp (pp (xF (Xn (Zz aD) (0+(tn v8)) 5 [(ii v2)])) (fl bO nn)) (ww o1 (ww o0 (tt k0 nn))))))))))) (fun k0=>(sl Vh 36 [] ⟨[2,3,4,5,0,6,7,8,9,1],[],u5i,u5k⟩ ⟨[],[],[]⟩ (bl 2 0) (pp (fl bO (fl aD nn)) (tt k0 nn)))))
theorem x5s (l0:List R6):Xq prog (Zy prog 51) (sckC l0) (Zc prog 51 [(.dat l0.length (Zz l0))] true []) (y1m l0):=(lb (fun k0=>(lr 25 51 [1,0,1,0,0] 1 3 [(2,(ii 4))] (sl Vh 16 [] ⟨[],[],[some [2]],[]⟩ ⟨[],[],[]⟩ [true] (tt k0 nn)))) (fun k0=>(sl Vh 40 [] ⟨[],[],sckN0,sckM0⟩ ⟨[],[],[]⟩ [false] (tt k0 nn))))
theorem v4v (l0:List R6) (n:Nat) (vs:List AVal) (h:Yj (Xj l0) n (y1m l0)=.ret vs):Kv prog (Zy prog 51) (Zc prog 51 [(.dat l0.length (Zz l0))] true []) vs:=by have:=Zn (w3r l0) n _ (x5s l0);rwa [h] at this
theorem x6l (l:List R4):(Zb l).length ≤400:=by
 unfold Zb;by_cases h:400<l.length
 ·rw [Ah h];exact AJ _
 ·rw [Ay h];cases l.all Vp
  ·exact AJ _
  ·show (bif decide (((D4.out l).length :Int)>400) then [] else D4.out l).length ≤400;by_cases h2:((D4.out l).length :Int)>400
   ·rw [Ah h2];exact AJ _
   ·rw [Ay h2];show (D4.out l).length ≤400;omega
def D6 :Dim R6 R4:=⟨R6.c,R6.f,fun r=>⟨r.a,r.b,r.d,r.e⟩,fun x x' s=>⟨s.a,s.b,x,s.c,s.d,x'⟩,fun x r=>⟨r.a,r.b,r.c,r.d,r.e,x⟩,Zb,Jh⟩
theorem u4h (l:List R6) (x:Int):(D6.sec l x).length ≤1000:=AF (x6l _) (by omega)
def sckErr :List AVal:=[.int .i64 8]
def x2f (l out:List R6):List AVal:=bif decide ((out.length:Int)>400) then [.int .i64 8] else bif Kk out l then [.int .i64 0] else [.int .i64 8]
def v9i (l:List R6) (x:Int):Bool:=Xm (D6.inn l x) != 0
def okF (l:List R6):Nat→Nat→Bool
 | 0,_=>true
 | k+1,i=>bif v9i l (rd (D6.cuts l) i) then false else okF l k (i+1)
section
variable (l:List R6) (hl:l.length≤400)
include hl
theorem u0m (i:Nat) (out:List R6) (last:List R4) (first fin x x':Int): ∀(k j:Nat) (acc:List R4),j+k=l.length→acc.length≤j→
  ∃n,∀N,Yj (Xj l) (N+n) (.to (.h3 (i:Int) (j:Int) out last first fin ((D6.cuts l).length) (Wf (Xv (D6.ends l))) x x' acc))=Yj (Xj l) N (.to (.h3 (i:Int) (l.length:Int) out last first fin ((D6.cuts l).length) (Wf (Xv (D6.ends l))) x x' (acc++D6.inn (l.drop j) x)))
 | 0,j,acc,h,ha=>by refine ⟨0,fun N=> ?_⟩;rw [Au (by omega),show D6.inn ([]:List R6) x=[] from rfl,AA,A4,show j=l.length by omega]
 | k+1,j,acc,h,ha=>by
  have hj:j<l.length:=by omega
  obtain ⟨n,hn⟩:=u0m i out last first fin x x' k (j+1) (acc++D6.inn [rd l j] x) (by omega) (by have:=D6.inn_length [rd l j] x;simp only [Az,Br] at*;omega)
  refine ⟨n+1,fun N=> ?_⟩;have e:D6.inn (l.drop j) x=D6.inn [rd l j] x++D6.inn (l.drop (j+1)) x:=by rw [Ym hj,←D6.inn_append];rfl
  rw [e,←AD,Zv,←AL,←hn N];by_cases h1:D6.lo (rd l j)≤x
  ·by_cases h2:x<D6.hi (rd l j)
   ·rw [D6.inn_t _ _ h1 h2];simp only [D6] at h1 h2 ⊢;simp (disch:=omega) only [Xj,Wy,Za,Zq,Zs,Zt,Yc,Yk,Yp,Zf,Zp,Zx,Ya,Zk,Ag,Av,Ai,Al,Ab,Aa]
   ·rw [D6.inn_f2 _ _ h2,AA];simp only [D6] at h1 h2;simp (disch:=omega) only [Xj,Wy,Yw,Za,Zq,Zs,Zt,Yc,Yk,Yp,Zf,Zp,Zx,Ya,Zk,Ag,Av,Ai,Al,Ab,Aa]
  ·rw [D6.inn_f1 _ _ h1,AA];simp only [D6] at h1;simp (disch:=omega) only [Xj,x8u,Za,Zq,Zs,Zt,Yc,Yk,Yp,Zf,Zp,Zx,Ya,Zk,Ag,Av,Ai,Al,Ab,Aa]
theorem u0l (i:Nat) (hi:i≤1000) (x x':Int) (s last:List R4) (first:Int) (inn:List R4) (hs:s.length≤1000): ∀(k j:Nat) (out:List R6),j+k=s.length→out.length≤10000000+j→
  ∃n,∀N,Yj (Xj l) (N+n) (.to (.h4 x x' s (s.length:Int) (j:Int) s (i:Int) out last first ((D6.cuts l).length) (Wf (Xv (D6.ends l))) inn))=Yj (Xj l) N (.to (.h2 ((i+1:Nat):Int) (out++(s.drop j).map (D6.put x x')) last first x' ((D6.cuts l).length) (Wf (Xv (D6.ends l)))))
 | 0,j,out,h,ho=>by have _u:=hl;refine ⟨1,fun N=> ?_⟩;rw [Au (by omega),Zv];simp (disch:=omega) only [Xj,Yw,Zp,Zx,Aa,Bg,AA]
 | k+1,j,out,h,ho=>by
  obtain ⟨n,hn⟩:=u0l i hi x x' s last first inn hs k (j+1) (out++[D6.put x x' (rd s j)]) (by omega) (by simp;omega)
  refine ⟨n+1,fun N=> ?_⟩;have:=hn N;rw [Ym (show j<s.length by omega),AW,←AD,Zv];simp (disch:=omega) only [Xj,Za,Zq,Zs,Zt,Yc,Yk,Yp,Zf,Zp,Zx,Ya,Zk,Ag,Av,Ai,Al,Ab,Aa];rw [AL] at this;exact this
theorem u0k (i:Nat) (hi:i≤1000) (x x' fin:Int) (s last:List R4) (first:Int) (inn:List R4): ∀(k j:Nat) (out:List R6),j+k=out.length→out.length≤10000000→
  ∃n,∀N,Yj (Xj l) (N+n) (.to (.h5 x' (j:Int) x s (i:Int) out last first fin ((D6.cuts l).length) (Wf (Xv (D6.ends l))) inn))=Yj (Xj l) N (.to (.h2 ((i+1:Nat):Int) (D6.grow out j x') last first x' ((D6.cuts l).length) (Wf (Xv (D6.ends l)))))
 | 0,j,out,h,ho=>by have _u:=hl;refine ⟨1,fun N=> ?_⟩;rw [D6.grow_nil _ _ _ (by omega),Zv];simp (disch:=omega) only [Xj,Yw,Zp,Zx,Aa]
 | k+1,j,out,h,ho=>by
  obtain ⟨n,hn⟩:=u0k i hi x x' fin s last first inn k (j+1) (out.set j (D6.ext x' (rd out j))) (by simp;omega) (by simpa using ho)
  refine ⟨n+1,fun N=> ?_⟩;have:=hn N;rw [D6.grow_set out j _ (by omega)] at this;rw [←AD,Zv];simp (disch:=omega) only [Xj,Za,Zq,Zs,Zt,Yc,Yk,Yp,Zf,Zp,Zx,Ya,Zk,Ag,Av,Ai,Al,Ab,Aa];exact this
theorem w8h : ∀(k i:Nat) (s:Sw R6 R4),k=(D6.cuts l).length - 1 - i→i≤(D6.cuts l).length →s.out.length≤i*1000→s.last.length≤1000→s.first≤s.out.length→
  ∃n,Yj (Xj l) n (.to (.h2 ((i+1:Nat):Int) s.out s.last (s.first:Int) s.fin ((D6.cuts l).length) (Wf (Xv (D6.ends l)))))=.ret ((bif okF l k i then x2f l (D6.go l k i s).out else sckErr))
 | 0,i,s,h,hi,ho,hla,hf=>by
  have hc:=D6.cuts_length l;refine ⟨1,?_⟩;rw [Zv,show D6.go l 0 i s=s from rfl,show okF l 0 i=true from rfl,Ab];unfold x2f;by_cases q:(s.out.length:Int)>400
  ·simp (disch:=omega) only [Xj,Yw,Yo,Ab,Aa,Zg]
  ·have e:lst R6 s.out.length (fun k=>(Zz s.out) k)=s.out:=Zq s.out;have w:Vi s.out l=true:=Ah (by omega);have f:Ka (Zz s.out)=true:=Xw _;rcases Ye (Kk s.out l) with q2 | q2 <;>
   simp (disch:=omega) only [Xj,Za,e,w,f,q2,Yw,Xb,Yc,Ya,Ag,AG,AK,Ai,Ab,Aa,Zg]
 | k +1,i,s,h,hi,ho,hla,hf=>by
  have hc:=D6.cuts_length l;have hi1:i+1<(D6.cuts l).length :=by omega
  have hpl:(Wf (Xv (D6.ends l))).length =2*l.length:=by rw [Ur,Xo,D6.ends_length]
  have r0:rd (Wf (Xv (D6.ends l))) i=rd (D6.cuts l) i:=z4b _ _ (by show i<(D6.cuts l).length;omega);have r1:rd (Wf (Xv (D6.ends l))) (i+1)=rd (D6.cuts l) (i+1):=z4b _ _ (by show i+1<(D6.cuts l).length;omega);have hbig:i*1000≤1000*1000:=AI _ (by omega);have hsl:=u4h l (rd (D6.cuts l) i);have hsd:D6.sec l (rd (D6.cuts l) i)=Zb (D6.inn l (rd (D6.cuts l) i)):=rfl;obtain ⟨n3,h3⟩:=u0m l hl (i+1) s.out s.last (s.first:Int) s.fin (rd (D6.cuts l) i) (rd (D6.cuts l) (i+1)) l.length 0 [] (Ag _) (An _);simp only [A2,Bk,z2z] at h3;have w1:Ui (D6.inn l (rd (D6.cuts l) i))=true:=rfl;have w2:Wb s.last (Zb (D6.inn l (rd (D6.cuts l) i)))=true:=Ah (by omega);have ol:=D6.one_length l (rd (D6.cuts l) i) (rd (D6.cuts l) (i+1)) s;have st0: ∀N,Yj (Xj l) (N+n3+1) (.to (.h2 ((i+1:Nat):Int) s.out s.last (s.first:Int) s.fin ((D6.cuts l).length) (Wf (Xv (D6.ends l)))))=Yj (Xj l) N (.to (.h3 ((i+1:Nat):Int) (l.length:Int) s.out s.last (s.first:Int) s.fin ((D6.cuts l).length) (Wf (Xv (D6.ends l))) (rd (D6.cuts l) i) (rd (D6.cuts l) (i+1)) (D6.inn l (rd (D6.cuts l) i)))):=fun N=>by
   rw [←h3 N,Zv];have e1:wrap .i64 (((i+1:Nat):Int) - 1)=(i:Int):=by rw [Zo];exact Zp (by omega)
   simp (disch:=omega) only [Xj,e1,r0,r1,Za,Zq,Zs,Zt,Yc,Yk,Yp,Zf,Zp,Zx,Ya,Zk,Ag,Av,Ai,Al,Ab,Aa]
  rcases Ye (v9i l (rd (D6.cuts l) i)) with q0 | q0
  ·refine ⟨1+n3+1,?_⟩;rw [st0 1,Zv];simp only [okF,q0,Ab,Aa];have q0':(Xm (D6.inn l (rd (D6.cuts l) i)) != 0)=true:=q0;simp (disch:=omega) only [Xj,Za,Zq,Yw,q0',w1,Ab,Aa,Zg];rfl
  have q0':(Xm (D6.inn l (rd (D6.cuts l) i)) != 0)=false:=q0;rcases Ye (decide (0<(D6.sec l (rd (D6.cuts l) i)).length)&&((s.fin == rd (D6.cuts l) i)&&D6.same s.last (D6.sec l (rd (D6.cuts l) i)))) with q | q
  ·obtain ⟨n5,h5⟩:=u0k l hl (i+1) (by omega) (rd (D6.cuts l) i) (rd (D6.cuts l) (i+1)) s.fin (D6.sec l (rd (D6.cuts l) i)) s.last (s.first:Int) (D6.inn l (rd (D6.cuts l) i)) (s.out.length - s.first) s.first s.out (by omega) (by omega)
   have e:D6.one l (rd (D6.cuts l) i) (rd (D6.cuts l) (i+1)) s=⟨D6.grow s.out s.first (rd (D6.cuts l) (i+1)),s.last,s.first,rd (D6.cuts l) (i+1)⟩:=by unfold Dim.one;rw [q];rfl
   obtain ⟨n0,h0⟩:=w8h k (i+1) (D6.one l (rd (D6.cuts l) i) (rd (D6.cuts l) (i+1)) s) (by omega) (by omega) (by omega) (by rw [e];exact hla) (by rw [e];simpa [Dim.grow_length] using hf);refine ⟨n0+n5+1+n3+1,?_⟩;rw [st0 (n0+n5+1),Zv];simp only [Ac,Aq] at q;obtain ⟨q1,q2,q3⟩:=q;have q3':Jh s.last (Zb (D6.inn l (rd (D6.cuts l) i)))=true:=q3;rw [hsd] at q1;simp (disch:=omega) only [Xj,Za,Zq,Yw,Yo,q0',q2,q3',w1,w2,Ab,Aa];rw [←hsd,h5 n0];simp only [okF,q0,Aa];simp only [Dim.go];rw [e] at h0 ⊢;exact h0
  ·obtain ⟨n4,h4⟩:=u0l l hl (i+1) (by omega) (rd (D6.cuts l) i) (rd (D6.cuts l) (i+1)) (D6.sec l (rd (D6.cuts l) i)) (D6.sec l (rd (D6.cuts l) i)) (s.out.length:Int) (D6.inn l (rd (D6.cuts l) i)) hsl (D6.sec l (rd (D6.cuts l) i)).length 0 s.out (Ag _) (by omega);simp only [A2,z2z] at h4;have e:D6.one l (rd (D6.cuts l) i) (rd (D6.cuts l) (i+1)) s=⟨s.out++(D6.sec l (rd (D6.cuts l) i)).map (D6.put (rd (D6.cuts l) i) (rd (D6.cuts l) (i+1))),D6.sec l (rd (D6.cuts l) i),s.out.length,rd (D6.cuts l) (i+1)⟩:=by unfold Dim.one;rw [q];rfl
   obtain ⟨n0,h0⟩:=w8h k (i+1) (D6.one l (rd (D6.cuts l) i) (rd (D6.cuts l) (i+1)) s) (by omega) (by omega) (by omega) (by rw [e];exact hsl) (by rw [e];simp);have hg:Yj (Xj l) 1 (.to (.h3 ((i+1:Nat):Int) (l.length:Int) s.out s.last (s.first:Int) s.fin ((D6.cuts l).length) (Wf (Xv (D6.ends l))) (rd (D6.cuts l) i) (rd (D6.cuts l) (i+1)) (D6.inn l (rd (D6.cuts l) i))))=.to (.h4 (rd (D6.cuts l) i) (rd (D6.cuts l) (i+1)) (D6.sec l (rd (D6.cuts l) i)) ((D6.sec l (rd (D6.cuts l) i)).length :Int) 0 (D6.sec l (rd (D6.cuts l) i)) ((i+1:Nat):Int) s.out (D6.sec l (rd (D6.cuts l) i)) (s.out.length:Int) ((D6.cuts l).length) (Wf (Xv (D6.ends l))) (D6.inn l (rd (D6.cuts l) i))):=by
    rw [show (1:Nat)=0+1 from rfl,Zv];rw [hsd] at q ⊢;have e3:D6.same s.last (Zb (D6.inn l (rd (D6.cuts l) i)))=Jh s.last (Zb (D6.inn l (rd (D6.cuts l) i))):=rfl;rw [e3] at q;by_cases q1:0<(Zb (D6.inn l (rd (D6.cuts l) i))).length
    ·rw [Ah q1,Al] at q;rcases Ye (s.fin == rd (D6.cuts l) i) with q2 | q2
     ·rw [q2,Al] at q;simp (disch:=omega) only [Xj,Za,Zq,Yw,Yo,q0',q2,q,w1,w2,Ab,Aa];rfl
     ·simp (disch:=omega) only [Xj,Za,Zq,Yw,Yo,q0',q2,w1,w2,Ab,Aa];rfl
    ·simp (disch:=omega) only [Xj,Za,Zq,Yw,Xb,q0',w1,w2,Ab,Aa];rfl
   refine ⟨n0+n4+1+n3+1,?_⟩;rw [st0 (n0+n4+1),z7v _ (n0+n4) 1,hg,h4 n0];simp only [okF,q0,Aa];simp only [Dim.go];rw [e] at h0 ⊢;exact h0
theorem u0n : ∀(k i:Nat) (acc:List Int),i+k=l.length→acc=D6.ends (l.take i)→ ∃n,Yj (Xj l) n (.to (.h1 (i:Int) acc))=.ret ((bif okF l ((D6.cuts l).length - 1) 0 then x2f l (D6.go l ((D6.cuts l).length - 1) 0 ⟨[],[],0,0⟩).out else sckErr))
 | 0,i,acc,h,ha=>by
  have e:acc=D6.ends l:=by rw [ha,AU (by omega)]
  subst e;have hle:=D6.ends_length l;obtain ⟨n,hn⟩:=w8h l hl ((D6.cuts l).length - 1) 0 ⟨[],[],0,0⟩ (by omega) (AJ _) (AJ _) (AJ _) (AJ _);refine ⟨n+1,?_⟩;rw [Zv];simp (disch:=omega) only [Xj,Wv,z0a,cmpN_eq,Yw,Yk,Yp,Av,Ab,Aa];exact hn
 | k+1,i,acc,h,ha=>by
  have hle:=D6.ends_length (l.take i);have fH:acc.length≤2*i:=by rw [ha,hle];simp;omega
  obtain ⟨n,hn⟩:=u0n k (i+1) (acc++D6.ends [rd l i]) (by omega) (by
   rw [ha,Bn];have:l[i]? =some (rd l i):=by rw [Xp (show i<l.length by omega)];exact Ar _
   rw [this,D6.ends_append];rfl)
  refine ⟨n+1,?_⟩;rw [Zv];simp (disch:=omega) only [Xj,Za,Zq,Zs,Zt,Yc,Yk,Yp,Zf,Zp,Zx,Ya,Zk,Ag,Av,Ai,Al,Ab,Aa];exact hn
theorem u0o : ∀(k i:Nat),i+k=l.length→(∀s∈l.take i,Qu s=true)→ ∃n,Yj (Xj l) n (.to (.h0 (i:Int)))=.ret (bif l.all Qu then (bif okF l ((D6.cuts l).length - 1) 0 then x2f l (D6.go l ((D6.cuts l).length - 1) 0 ⟨[],[],0,0⟩).out else sckErr) else sckErr)
 | 0,i,h,ht=>by have hv:l.all Qu=true:=As.2 fun s hs=>ht s (by rw [AU (by omega)];exact hs);obtain ⟨n,hn⟩:=u0n l hl l.length 0 [] (Ag _) rfl;refine ⟨n+1,?_⟩;rw [Zv,hv,Ab];simp (disch:=omega) only [Xj,Yw,Aa];exact hn
 | k+1,i,h,ht=>by
  have hi:i<l.length:=by omega
  have hs:Xj l (.h0 (i:Int))=bif Qu (rd l i) then .to (.h0 ((i+1:Nat):Int)) else .ret sckErr:=by have e:u4j (rd l i).a (rd l i).b (rd l i).c (rd l i).d (rd l i).e (rd l i).f =Qu (rd l i):=rfl;simp (disch:=omega) only [Xj,e,z6q,x4c,x4d,Zt,Zp,Zx,Zk,Ai,Ab,Aa];rfl
  rcases Ye (Qu (rd l i)) with q | q
  ·obtain ⟨n,hn⟩:=u0o k (i+1) (by omega) (fun s hs=>by
    rw [Bn] at hs;have e:l[i]? =some (rd l i):=by rw [Xp hi];exact Ar _
    rw [e] at hs;simp only [Cd,AC,AM] at hs;rcases hs with hs | rfl
    ·exact ht s hs
    ·exact q)
   refine ⟨n+1,?_⟩;rw [Zv,hs,q,Ab];exact hn
  ·have hv:l.all Qu=false:=A7.2 fun e=>by have:=As.1 e (rd l i) (by rw [Xp hi];exact AS hi);rw [this] at q;cases q
   refine ⟨1,?_⟩;rw [Zv,hv,Aa,hs,q,Aa,Zg]
end
def Xe (l:List R6):Int:=bif decide (400<l.length) then 4 else bif l.all Qu then (bif okF l ((D6.cuts l).length - 1) 0 then (bif decide (((D6.out l).length :Int)>400) then 8 else bif Kk (D6.out l) l then 0 else 8) else 8) else 8
def w8j (l:List R6):Bool:=true
theorem u5h (l:List R6): ∃n,Yj (Xj l) n (y1m l)=.ret [.int .i64 (Xe l)]:=by
 unfold y1m Xe;by_cases h:400<l.length
 ·refine ⟨0,?_⟩;rw [Ah h,Yo (show (l.length:Int)>400 by omega)];rfl
 ·obtain ⟨n,hn⟩:=u0o l (by omega) l.length 0 (Ag _) (fun s hs=>by simp at hs);refine ⟨n,?_⟩;rw [Ay h,Xb (show¬(l.length:Int)>400 by omega),Aa,Aa];rw [z2z] at hn;rw [hn];unfold sckErr x2f;cases l.all Qu <;> simp only [Ab,Aa];cases okF l ((D6.cuts l).length - 1) 0 <;> simp only [Ab,Aa];show Xf.ret (bif decide (((D6.out l).length :Int)>400) then _ else bif Kk (D6.out l) l then _ else _)=_;cases decide (((D6.out l).length :Int)>400) <;> simp only [Ab,Aa];cases Kk (D6.out l) l <;> rfl
def fSck :List AVal→Option (AVal×Bool)
 | [a1]=>match asL R6 a1 with
  | some (L1,g1,n1)=>some (.int .i64 (Xe L1),isT R6 n1 g1&&w8j L1)
  | _=>none
 | _=>none
theorem u8t {S:Specs} (hS:Zj prog S):Zj prog (S.with x3h fSck):=by
 refine z3m hS (by kernel_rfl) fun args v h=> ?_;unfold fSck at h;split at h
 ·rename_i a1;split at h
  ·rename_i L1 g1 n1 e1;simp only [Ae,Ad,Ac] at h;obtain ⟨rfl,ho1,hw⟩:=h;obtain ⟨N,hN⟩:=u5h L1;exact ⟨_,_,(.cons (Yr e1 ho1) .nil),rfl,v4v L1 N _ hN,3,rfl⟩
  ·cases h
 ·cases h
def T8 :Specs:=T7v.with x3h fSck
theorem z0j :Zj prog T8:=u8t Vh
inductive rchkS where
 | h0 (v3:Int)
def u6p (l0:List R6):rchkS→Cfg
 | .h0 v3=>⟨⟨34,0,true⟩,none,(Zd prog 53 [1,1,0,1,0,0] 0),none,(Zy prog 3),⟨Yd [(0,(.dat l0.length (Zz l0))),(3,(ii v3))],Uy [] 0,0,[],true⟩,[],.leaf⟩
def u1x :List (Option (List Nat)):=[some [0,3]]
def u1y :List (Option (List Nat)):=[]
def z0s (l0:List R6):rchkS→Xf rchkS
 | .h0 v3=>(bif (decide (v3<(l0.length:Int))) then (bif ((decide (0≤v3∧v3<(l0.length:Int)))&&true) then (bif (decide ((rd l0 v3.toNat).a ≥(-1000000))) then (bif (decide ((rd l0 v3.toNat).b ≥(-1000000))) then (bif (decide ((rd l0 v3.toNat).c ≥(-1000000))) then (bif (decide ((rd l0 v3.toNat).a ≤1000000)) then (bif (decide ((rd l0 v3.toNat).b ≤1000000)) then (bif (decide ((rd l0 v3.toNat).c ≤1000000)) then (bif (decide ((rd l0 v3.toNat).d ≥(-1000000))) then (bif (decide ((rd l0 v3.toNat).e ≥(-1000000))) then (bif (decide ((rd l0 v3.toNat).f ≥(-1000000))) then (bif (decide ((rd l0 v3.toNat).d ≤1000000)) then (bif (decide ((rd l0 v3.toNat).e ≤1000000)) then (bif (decide ((rd l0 v3.toNat).f ≤1000000)) then (bif (decide ((rd l0 v3.toNat).a <(rd l0 v3.toNat).d)) then (bif (decide ((rd l0 v3.toNat).b <(rd l0 v3.toNat).e)) then (bif (!(decide ((rd l0 v3.toNat).c <(rd l0 v3.toNat).f))) then (.ret [(.int .i64 8)]) else (.to (.h0 (wrap .i64 (v3+1))))) else (.ret [(.int .i64 8)])) else (.ret [(.int .i64 8)])) else (.ret [(.int .i64 8)])) else (.ret [(.int .i64 8)])) else (.ret [(.int .i64 8)])) else (.ret [(.int .i64 8)])) else (.ret [(.int .i64 8)])) else (.ret [(.int .i64 8)])) else (.ret [(.int .i64 8)])) else (.ret [(.int .i64 8)])) else (.ret [(.int .i64 8)])) else (.ret [(.int .i64 8)])) else (.ret [(.int .i64 8)])) else (.ret [(.int .i64 8)])) else .stuck) else (bif (y2l 2 (cvT l0) ([]:List R6)) then (bif (!(x7z 2 (cvT l0) ([]:List R6))) then (.ret [(.int .i64 8)]) else (bif (Vi (cvT (z7s 2 (cvT l0) ([]:List R6))) (cvT l0)) then (bif (!(Kk (cvT (z7s 2 (cvT l0) ([]:List R6))) (cvT l0))) then (.ret [(.int .i64 8)]) else (.ret [(.int .i64 0)])) else .stuck)) else .stuck))
def z7h (l0:List R6):Xf rchkS:=(bif (decide ((l0.length:Int)>400)) then (.ret [(.int .i64 4)]) else (.to (.h0 0)))
theorem x6r (l0:List R6): ∀s,Xq prog (Zy prog 53) (u6p l0) (u6p l0 s) (z0s l0 s)
 | .h0 v3=>(lb (fun k0=>(lo fun aG=>(lb (fun k1=>(lb (fun k2=>(lb (fun k3=>(lb (fun k4=>(lb (fun k5=>(lb (fun k6=>(lb (fun k7=>(lb (fun k8=>(lb (fun k9=>(lb (fun k10=>(lb (fun k11=>(lb (fun k12=>(lb (fun k13=>(lb (fun k14=>(lb (fun k15=>(lr 34 53 [1,1,0,1,0,0,1,0,0,1,0,0] 1 3 [(2,(ii 8))] (sl z0j 158 [] ⟨[],[],[some [2]],[]⟩ ⟨[],[],[]⟩ (trs 60 []) (tt k15 (tt k14 (tt k13 (tt k12 (tt k11 (tt k10 (tt k9 (tt k8 (tt k7 (tt k6 (tt k5 (tt k4 (tt k3 (tt k2 (tt k1 (ww aG (tt k0 nn)))))))))))))))))))) (fun k15=>(sl z0j 162 [] ⟨[],[],u1x,u1y⟩ ⟨[],[],[]⟩ (trs 59 [false]) (tt k15 (tt k14 (tt k13 (tt k12 (tt k11 (tt k10 (tt k9 (tt k8 (tt k7 (tt k6 (tt k5 (tt k4 (tt k3 (tt k2 (tt k1 (ww aG (tt k0 nn))))))))))))))))))))) (fun k14=>(lr 34 53 [1,1,0,1,0,0,1,0,0,1,0,0] 1 3 [(2,(ii 8))] (sl z0j 158 [] ⟨[],[],[some [2]],[]⟩ ⟨[],[],[]⟩ (trs 52 (bl 8 128)) (tt k14 (tt k13 (tt k12 (tt k11 (tt k10 (tt k9 (tt k8 (tt k7 (tt k6 (tt k5 (tt k4 (tt k3 (tt k2 (tt k1 (ww aG (tt k0 nn))))))))))))))))))))) (fun k13=>(lr 34 53 [1,1,0,1,0,0,1,0,0,1,0,0] 1 3 [(2,(ii 8))] (sl z0j 158 [] ⟨[],[],[some [2]],[]⟩ ⟨[],[],[]⟩ (trs 45 (bl 15 16384)) (tt k13 (tt k12 (tt k11 (tt k10 (tt k9 (tt k8 (tt k7 (tt k6 (tt k5 (tt k4 (tt k3 (tt k2 (tt k1 (ww aG (tt k0 nn)))))))))))))))))))) (fun k12=>(lr 34 53 [1,1,0,1,0,0,1,0,0,1,0,0] 1 3 [(2,(ii 8))] (sl z0j 158 [] ⟨[],[],[some [2]],[]⟩ ⟨[],[],[]⟩ (trs 38 (bl 22 2097152)) (tt k12 (tt k11 (tt k10 (tt k9 (tt k8 (tt k7 (tt k6 (tt k5 (tt k4 (tt k3 (tt k2 (tt k1 (ww aG (tt k0 nn))))))))))))))))))) (fun k11=>(lr 34 53 [1,1,0,1,0,0,1,0,0,1,0,0] 1 3 [(2,(ii 8))] (sl z0j 158 [] ⟨[],[],[some [2]],[]⟩ ⟨[],[],[]⟩ (trs 35 (bl 25 16777216)) (tt k11 (tt k10 (tt k9 (tt k8 (tt k7 (tt k6 (tt k5 (tt k4 (tt k3 (tt k2 (tt k1 (ww aG (tt k0 nn)))))))))))))))))) (fun k10=>(lr 34 53 [1,1,0,1,0,0,1,0,0,1,0,0] 1 3 [(2,(ii 8))] (sl z0j 158 [] ⟨[],[],[some [2]],[]⟩ ⟨[],[],[]⟩ (trs 32 (bl 28 134217728)) (tt k10 (tt k9 (tt k8 (tt k7 (tt k6 (tt k5 (tt k4 (tt k3 (tt k2 (tt k1 (ww aG (tt k0 nn))))))))))))))))) (fun k9=>(lr 34 53 [1,1,0,1,0,0,1,0,0,1,0,0] 1 3 [(2,(ii 8))] (sl z0j 158 [] ⟨[],[],[some [2]],[]⟩ ⟨[],[],[]⟩ (trs 29 (bl 31 1073741824)) (tt k9 (tt k8 (tt k7 (tt k6 (tt k5 (tt k4 (tt k3 (tt k2 (tt k1 (ww aG (tt k0 nn)))))))))))))))) (fun k8=>(lr 34 53 [1,1,0,1,0,0,1,0,0,1,0,0] 1 3 [(2,(ii 8))] (sl z0j 158 [] ⟨[],[],[some [2]],[]⟩ ⟨[],[],[]⟩ (trs 25 (bl 35 17179869184)) (tt k8 (tt k7 (tt k6 (tt k5 (tt k4 (tt k3 (tt k2 (tt k1 (ww aG (tt k0 nn))))))))))))))) (fun k7=>(lr 34 53 [1,1,0,1,0,0,1,0,0,1,0,0] 1 3 [(2,(ii 8))] (sl z0j 158 [] ⟨[],[],[some [2]],[]⟩ ⟨[],[],[]⟩ (trs 21 (bl 39 274877906944)) (tt k7 (tt k6 (tt k5 (tt k4 (tt k3 (tt k2 (tt k1 (ww aG (tt k0 nn)))))))))))))) (fun k6=>(lr 34 53 [1,1,0,1,0,0,1,0,0,1,0,0] 1 3 [(2,(ii 8))] (sl z0j 117 [] ⟨[],[],[some [2]],[]⟩ ⟨[],[],[]⟩ (trs 18 (bl 25 16777216)) (tt k6 (tt k5 (tt k4 (tt k3 (tt k2 (tt k1 (ww aG (tt k0 nn))))))))))))) (fun k5=>(lr 34 53 [1,1,0,1,0,0,1,0,0,1,0,0] 1 3 [(2,(ii 8))] (sl z0j 117 [] ⟨[],[],[some [2]],[]⟩ ⟨[],[],[]⟩ (trs 15 (bl 28 134217728)) (tt k5 (tt k4 (tt k3 (tt k2 (tt k1 (ww aG (tt k0 nn)))))))))))) (fun k4=>(lr 34 53 [1,1,0,1,0,0,1,0,0,1,0,0] 1 3 [(2,(ii 8))] (sl z0j 117 [] ⟨[],[],[some [2]],[]⟩ ⟨[],[],[]⟩ (trs 12 (bl 31 1073741824)) (tt k4 (tt k3 (tt k2 (tt k1 (ww aG (tt k0 nn))))))))))) (fun k3=>(lr 34 53 [1,1,0,1,0,0,1,0,0,1,0,0] 1 3 [(2,(ii 8))] (sl z0j 117 [] ⟨[],[],[some [2]],[]⟩ ⟨[],[],[]⟩ (trs 9 (bl 34 8589934592)) (tt k3 (tt k2 (tt k1 (ww aG (tt k0 nn)))))))))) (fun k2=>(lr 34 53 [1,1,0,1,0,0,1,0,0,1,0,0] 1 3 [(2,(ii 8))] (sl z0j 117 [] ⟨[],[],[some [2]],[]⟩ ⟨[],[],[]⟩ (trs 5 (bl 38 137438953472)) (tt k2 (tt k1 (ww aG (tt k0 nn))))))))) (fun k1=>(lr 34 53 [1,1,0,1,0,0,1,0,0,1,0,0] 1 3 [(2,(ii 8))] (sl z0j 117 [] ⟨[],[],[some [2]],[]⟩ ⟨[],[],[]⟩ (bl 43 4398046511105) (tt k1 (ww aG (tt k0 nn))))))))) (fun k0=>(lo fun aG=>(lb (fun k1=>(lr 34 53 [1,1,1,1,0,1,0,0] 1 3 [(2,(ii 8))] (sl z0j 37 [] ⟨[],[],[some [2]],[]⟩ ⟨[],[],[]⟩ (bl 6 62) (tt k1 (pp (pp (xr l0) (pp (xI R6 0 (fun _=>[])) (xw aG))) (tt k0 nn)))))) (fun k1=>(lo fun bT=>(lb (fun k2=>(lr 34 53 [1,1,1,1,0,1,0,0] 1 3 [(2,(ii 8))] (sl z0j 37 [] ⟨[],[],[some [2]],[]⟩ ⟨[],[],[]⟩ (bl 6 32) (tt k2 (pp (pp (xI R6 (z7s 2 (cvT l0) ([]:List R6)).length (Zz (z7s 2 (cvT l0) ([]:List R6)))) (pp (xr l0) (xw bT))) (tt k1 (pp (pp (xr l0) (pp (xI R6 0 (fun _=>[])) (xw aG))) (tt k0 nn)))))))) (fun k2=>(lr 34 3 [1,1,1,1,1,1,1,0] 1 3 [(2,(ii 0))] (sl z0j 38 [] ⟨[],[],[some [2]],[]⟩ ⟨[],[],[]⟩ (bl 6 0) (tt k2 (pp (pp (xI R6 (z7s 2 (cvT l0) ([]:List R6)).length (Zz (z7s 2 (cvT l0) ([]:List R6)))) (pp (xr l0) (xw bT))) (tt k1 (pp (pp (xr l0) (pp (xI R6 0 (fun _=>[])) (xw aG))) (tt k0 nn)))))))))))))))
theorem x2t (l0:List R6):Xq prog (Zy prog 53) (u6p l0) (Zc prog 53 [(.dat l0.length (Zz l0))] true []) (z7h l0):=(lb (fun k0=>(lr 34 53 [1,0,1,0,0] 1 3 [(2,(ii 4))] (sl z0j 16 [] ⟨[],[],[some [2]],[]⟩ ⟨[],[],[]⟩ [true] (tt k0 nn)))) (fun k0=>(sl z0j 20 [] ⟨[],[],u1x,u1y⟩ ⟨[],[],[]⟩ [false] (tt k0 nn))))
theorem w9r (l0:List R6) (n:Nat) (vs:List AVal) (h:Yj (z0s l0) n (z7h l0)=.ret vs):Kv prog (Zy prog 53) (Zc prog 53 [(.dat l0.length (Zz l0))] true []) vs:=by have:=Zn (x6r l0) n _ (x2t l0);rwa [h] at this
def w6w (r:R6):Bool:=decide (r.a≥ -1000000)&&(decide (r.b≥ -1000000)&&(decide (r.c≥ -1000000)&&(decide (r.a≤1000000)&&(decide (r.b≤1000000)&&(decide (r.c≤1000000)&&(decide (r.d≥ -1000000)&&(decide (r.e≥ -1000000)&&(decide (r.f≥ -1000000)&&(decide (r.d≤1000000)&&(decide (r.e≤1000000)&&(decide (r.f≤1000000)&&(decide (r.a<r.d)&&(decide (r.b<r.e)&&decide (r.c<r.f))))))))))))))
def rckF (l:List R6):Int:=bif x7z 2 l [] then (bif Kk (z7s 2 l []) l then 0 else 8) else 8
def y7u (l:List R6):Int:=bif decide (400<l.length) then 4 else bif l.all w6w then rckF l else 8
def w9p (l:List R6):Bool:=true
theorem w5m (k:Int) (l m:List R6):(z7s k l m).length ≤400∨x7z k l m=false:=by
 unfold z7s x7z;cases jsO k l m with
 | none=>exact .inl (AJ _)
 | some out=>
  by_cases h:(out.length:Int)≤400
  ·left;show out.length≤400;omega
  ·right;exact Ay h
section
variable (l:List R6) (hl:l.length≤400)
include hl
theorem w9q : ∀(k i:Nat),i+k=l.length→(∀s∈l.take i,w6w s=true)→ ∃n,Yj (z0s l) n (.to (.h0 (i:Int)))=.ret [.int .i64 (bif l.all w6w then rckF l else 8)]
 | 0,i,h,ht=>by
  have hv:l.all w6w=true:=As.2 fun s hs=>ht s (by rw [AU (by omega)];exact hs);have w1:y2l 2 l []=true:=Ah ⟨by omega,by simp⟩;refine ⟨1,?_⟩;rw [Zv,hv,Ab];unfold rckF;rcases Ye (x7z 2 l []) with q | q
  ·have w2:Vi (z7s 2 l []) l=true:=Ah (by
    rcases w5m 2 l [] with h | h
    ·omega
    ·rw [h] at q;cases q)
   rcases Ye (Kk (z7s 2 l []) l) with q2 | q2 <;>
   simp (disch:=omega) only [z0s,Za,Yw,q,q2,w1,w2,AG,AK,Ab,Aa,Zg]
  ·simp (disch:=omega) only [z0s,Za,Yw,q,w1,AG,AK,Ab,Aa,Zg]
 | k+1,i,h,ht=>by
  have hi:i<l.length:=by omega
  have hs:z0s l (.h0 (i:Int))=bif w6w (rd l i) then .to (.h0 ((i+1:Nat):Int)) else .ret [.int .i64 8]:=by simp (disch:=omega) only [z0s,w6w,y5h,z6q,x4c,Zt,Zp,Zx,Zk,Ai,Ab,Aa]
  rcases Ye (w6w (rd l i)) with q | q
  ·obtain ⟨n,hn⟩:=w9q k (i+1) (by omega) (fun s hs=>by
    rw [Bn] at hs;have e:l[i]? =some (rd l i):=by rw [Xp hi];exact Ar _
    rw [e] at hs;simp only [Cd,AC,AM] at hs;rcases hs with hs | rfl
    ·exact ht s hs
    ·exact q)
   refine ⟨n+1,?_⟩;rw [Zv,hs,q,Ab];exact hn
  ·have hv:l.all w6w=false:=A7.2 fun e=>by have:=As.1 e (rd l i) (by rw [Xp hi];exact AS hi);rw [this] at q;cases q
   refine ⟨1,?_⟩;rw [Zv,hv,Aa,hs,q,Aa,Zg]
end
theorem v6f (l:List R6): ∃n,Yj (z0s l) n (z7h l)=.ret [.int .i64 (y7u l)]:=by
 unfold z7h y7u;by_cases h:400<l.length
 ·refine ⟨0,?_⟩;rw [Ah h,Yo (show (l.length:Int)>400 by omega)];rfl
 ·obtain ⟨n,hn⟩:=w9q l (by omega) l.length 0 (Ag _) (fun s hs=>by simp at hs);refine ⟨n,?_⟩;rw [Ay h,Xb (show¬(l.length:Int)>400 by omega),Aa,Aa];exact hn
def fRck :List AVal→Option (AVal×Bool)
 | [a1]=>match asL R6 a1 with
  | some (L1,g1,n1)=>some (.int .i64 (y7u L1),isT R6 n1 g1&&w9p L1)
  | _=>none
 | _=>none
theorem u8x {S:Specs} (hS:Zj prog S):Zj prog (S.with v0n fRck):=by
 refine z3m hS (by kernel_rfl) fun args v h=> ?_;unfold fRck at h;split at h
 ·rename_i a1;split at h
  ·rename_i L1 g1 n1 e1;simp only [Ae,Ad,Ac] at h;obtain ⟨rfl,ho1,hw⟩:=h;obtain ⟨N,hN⟩:=v6f L1;exact ⟨_,_,(.cons (Yr e1 ho1) .nil),rfl,w9r L1 N _ hN,3,rfl⟩
  ·cases h
 ·cases h
def T9 :Specs:=T8.with v0n fRck
theorem z5l :Zj prog T9:=u8x z0j
def pt (L:List R2) (y:Int):Prop:= ∃s∈L,s.a≤y∧y<s.b
structure Can (L:List R2):Prop where
 pos: ∀s∈L,s.a<s.b
 sep:L.Pairwise fun s t=>s.b<t.a
theorem Can.nil :Can []:=⟨by simp,.nil⟩
theorem Can.tail {s:R2} {L:List R2} (h:Can (s::L)):Can L:=⟨fun t ht=>h.pos t (List.mem_cons_of_mem _ ht),(AR.1 h.sep).2⟩
theorem Can.head {s:R2} {L:List R2} (h:Can (s::L)): ∀t∈L,s.b<t.a:=(AR.1 h.sep).1
theorem u4b {s:R2} {L:List R2} (h:Can (s::L)) {y:Int} (hy:pt (s::L) y):s.a≤y:=by
 obtain ⟨t,ht,h1,h2⟩:=hy;rcases AB.1 ht with rfl | ht
 ·exact h1
 ·have:=h.head t ht;have:=h.pos s (by simp);omega
theorem u4c : ∀(L M:List R2),Can L→Can M→(∀y,pt L y↔pt M y)→L=M
 | [],[],_,_,_=>rfl
 | [],t::M,_,hM,h=>by have:=(h t.a).2 ⟨t,by simp,A1 _,hM.pos t (by simp)⟩;obtain ⟨s,hs,_⟩:=this;cases hs
 | s::L,[],hL,_,h=>by have:=(h s.a).1 ⟨s,by simp,A1 _,hL.pos s (by simp)⟩;obtain ⟨s,hs,_⟩:=this;cases hs
 | s::L,t::M,hL,hM,h=>by
  have p1:=hL.pos s (by simp);have p2:=hM.pos t (by simp);have a1:t.a≤s.a:=u4b hM ((h s.a).1 ⟨s,by simp,A1 _,p1⟩);have a2:s.a≤t.a:=u4b hL ((h t.a).2 ⟨t,by simp,A1 _,p2⟩);have b1: ¬s.b<t.b:=fun hb=>by
   obtain ⟨u,hu,h1,h2⟩:=(h s.b).2 ⟨t,by simp,by omega,hb⟩;rcases AB.1 hu with rfl | hu
   ·omega
   ·have:=hL.head u hu;omega
  have b2: ¬t.b<s.b:=fun hb=>by
   obtain ⟨u,hu,h1,h2⟩:=(h t.b).1 ⟨s,by simp,by omega,hb⟩;rcases AB.1 hu with rfl | hu
   ·omega
   ·have:=hM.head u hu;omega
  have e:s=t:=by
   obtain ⟨sa,sb⟩:=s;obtain ⟨ta,tb⟩:=t;simp only at a1 a2 b1 b2;have:sa=ta:=by omega
   have:sb=tb:=by omega
   subst_vars;rfl
  subst e
  congr 1
  refine u4c L M hL.tail hM.tail fun y=>⟨fun hy=> ?_,fun hy=> ?_⟩
  ·obtain ⟨u,hu,h1,h2⟩:=hy;have g:=hL.head u hu;obtain ⟨v,hv,h3,h4⟩:=(h y).1 ⟨u,by simp [hu],h1,h2⟩;rcases AB.1 hv with rfl | hv
   ·omega
   ·exact ⟨v,hv,h3,h4⟩
  ·obtain ⟨u,hu,h1,h2⟩:=hy;have g:=hM.head u hu;obtain ⟨v,hv,h3,h4⟩:=(h y).2 ⟨u,by simp [hu],h1,h2⟩;rcases AB.1 hv with rfl | hv
   ·omega
   ·exact ⟨v,hv,h3,h4⟩
def push (out:List R2) (x x':Int):List R2:=
 bif decide (0<out.length)&&((rd out (out.length - 1)).b == x) then out.set (out.length - 1) ⟨(rd out (out.length - 1)).a,x'⟩ else out++[⟨x,x'⟩]
theorem w9u (out:List R2) (s:R2) (x x':Int):push (out++[s]) x x'=bif s.b == x then out++[⟨s.a,x'⟩] else out++[s]++[⟨x,x'⟩]:=by
 have e:rd (out++[s]) ((out++[s]).length - 1)=s:=by rw [Un (by simp)];simp [rd]
 unfold push;rw [e,Ah (by simp),Al];cases (s.b == x)
 ·rfl
 ·simp
theorem v6n {out:List R2} {x x':Int} (hc:Can out) (hb: ∀s∈out,s.b≤x) (hx:x<x'):
  Can (push out x x')∧(∀s∈push out x x',s.b≤x')∧ ∀y,pt (push out x x') y↔pt out y∨(x≤y∧y<x'):=by
 rcases List.eq_nil_or_concat out with rfl | ⟨L,s,rfl⟩
 ·refine ⟨⟨?_,?_⟩,?_,fun y=> ?_⟩
  ·intro s hs;simp [push] at hs;subst hs;exact hx
  ·simp [push]
  ·intro s hs;simp [push] at hs;subst hs;exact A1 _
  ·simp [push,pt]
 ·rw [List.concat_eq_append] at*;rw [w9u];have hs:=hb s (by simp);have hp:=hc.pos s (by simp);have sep:=Bv.1 hc.sep;rcases Ye (s.b == x) with q | q
  ·rw [q,Ab];have q:s.b=x:=by simpa using q
   refine ⟨⟨?_,?_⟩,?_,fun y=> ?_⟩
   ·intro t ht;rcases AC.1 ht with ht | ht
    ·exact hc.pos t (by simp [ht])
    ·rw [AM.1 ht];show s.a<x';omega
   ·refine Bv.2 ⟨sep.1,List.pairwise_singleton _ _,fun t ht u hu=> ?_⟩;rw [AM.1 hu];exact sep.2.2 t ht s (by simp)
   ·intro t ht;rcases AC.1 ht with ht | ht
    ·have:=hb t (by simp [ht]);omega
    ·rw [AM.1 ht];exact A1 _
   ·constructor
    ·rintro ⟨t,ht,h1,h2⟩;rcases AC.1 ht with ht | ht
     ·exact .inl ⟨t,by simp [ht],h1,h2⟩
     ·rw [AM.1 ht] at h1 h2;by_cases hy:y<s.b
      ·exact .inl ⟨s,by simp,h1,hy⟩
      ·exact .inr ⟨by omega,h2⟩
    ·rintro (⟨t,ht,h1,h2⟩ | ⟨h1,h2⟩)
     ·rcases AC.1 ht with ht | ht
      ·exact ⟨t,by simp [ht],h1,h2⟩
      ·rw [AM.1 ht] at h1 h2;exact ⟨⟨s.a,x'⟩,by simp,h1,by show y<x';omega⟩
     ·exact ⟨⟨s.a,x'⟩,by simp,by show s.a≤y;omega,h2⟩
  ·rw [q,Aa];have q:s.b≠x:=by simpa using q
   refine ⟨⟨?_,?_⟩,?_,fun y=> ?_⟩
   ·intro t ht;rcases AC.1 ht with ht | ht
    ·exact hc.pos t ht
    ·rw [AM.1 ht];exact hx
   ·refine Bv.2 ⟨hc.sep,List.pairwise_singleton _ _,fun t ht u hu=> ?_⟩;rw [AM.1 hu];show t.b<x;rcases AC.1 ht with h | h
    ·have h1:=sep.2.2 t h s (by simp);omega
    ·rw [AM.1 h];omega
   ·intro t ht;rcases AC.1 ht with ht | ht
    ·have:=hb t ht;omega
    ·rw [AM.1 ht];exact A1 _
   ·constructor
    ·rintro ⟨t,ht,h1,h2⟩;rcases AC.1 ht with ht | ht
     ·exact .inl ⟨t,ht,h1,h2⟩
     ·rw [AM.1 ht] at h1 h2;exact .inr ⟨h1,h2⟩
    ·rintro (⟨t,ht,h1,h2⟩ | ⟨h1,h2⟩)
     ·exact ⟨t,AC.2 (.inl ht),h1,h2⟩
     ·exact ⟨⟨x,x'⟩,by simp,h1,h2⟩
theorem x3j {l:List Int} (h:l.Pairwise (· < ·)) {i j:Nat} (hij:i<j) (hj:j<l.length):rd l i<rd l j:=by rw [Xp (by omega),Xp hj];exact Be.1 h i j (by omega) hj hij
theorem v3l {cuts:List Int}: ∀(k:Nat),k<cuts.length→ ∀y,rd cuts 0≤y→y<rd cuts k→ ∃j,j<k∧rd cuts j≤y∧y<rd cuts (j+1)
 | 0,_,y,h1,h2=>by omega
 | k+1,hk,y,h1,h2=>by
  by_cases h:rd cuts k≤y
  ·exact ⟨k,B6 _,h,h2⟩
  ·obtain ⟨j,h3,h4⟩:=v3l k (by omega) y h1 (by omega);exact ⟨j,by omega,h4⟩
def net (E:List R3) (y:Int):Int:=(E.map fun e=>if e.a≤y then e.c else 0).sum
theorem Qh (e:R3) (E:List R3) (y:Int):net (e::E) y=(if e.a≤y then e.c else 0)+net E y:=by simp [net]
theorem v6u {E F:List R3} (h:E.Perm F) (y:Int):net E y=net F y:=by
 induction h with
 | nil=>rfl
 | cons e _ ih=>rw [Qh,Qh,ih]
 | swap a b l=>simp only [Qh];omega
 | trans _ _ i1 i2=>rw [i1,i2]
theorem w0y (E:List R3) (y:Int) (h: ∀e∈E,y<e.a):net E y=0:=by
 induction E with
 | nil=>rfl
 | cons e E ih=>rw [Qh,At (by have:=h e (by simp);omega),ih fun f hf=>h f (by simp [hf])];rfl
theorem v3i (out:List R2) (last:Int) (inn:Bool) (x:Int):Vf out last inn x=bif inn&& !(last == x) then push out last x else out:=by
 unfold Vf push;cases inn
 ·rfl
 ·cases (last == x) <;> rfl
theorem y9a {out:List R2} {last x:Int} (inn:Bool) (hc:Can out) (hb: ∀s∈out,s.b≤last) (hx:last≤x):
  Can (Vf out last inn x)∧(∀s∈Vf out last inn x,s.b≤x)∧ ∀y,pt (Vf out last inn x) y↔pt out y∨(inn=true∧last≤y∧y<x):=by
 rw [v3i];rcases Ye (inn&& !(last == x)) with q | q
 ·rw [q,Ab];simp only [Ac,BS,beq_eq_false_iff_ne,ne_eq] at q;obtain ⟨p1,p2,p3⟩:=v6n hc hb (show last<x by omega);refine ⟨p1,p2,fun y=> ?_⟩;rw [p3];simp [q.1]
 ·rw [q,Aa];refine ⟨hc,fun s hs=>by have:=hb s hs;omega,fun y=>⟨.inl,fun h=>h.elim id fun ⟨h1,h2,h3⟩=> ?_⟩⟩;rw [h1,Al] at q;have:last=x:=by simpa using q
  omega
def Asc (E:List R3):Prop:=E.Pairwise fun e f=>e.a≤f.a
theorem w7l : ∀(E:List R3) (o last:Int) (out:List R2),Asc E→(∀e∈E,last≤e.a)→Can out→(∀s∈out,s.b≤last)→
  Can (swF E o last (decide (o>0)) out)∧ ∀y,pt (swF E o last (decide (o>0)) out) y↔pt out y∨(last≤y∧0<o+net E y∧ ∃e∈E,y<e.a)
 | [],o,last,out,_,_,hc,_=>⟨hc,fun y=>⟨.inl,fun h=>h.elim id fun ⟨_,_,e,he,_⟩=>by cases he⟩⟩
 | e ::r,o,last,out,hE,hl,hc,hb=>by
  have he:=hl e (by simp);have hr:=AR.1 hE;obtain ⟨p1,p2,p3⟩:=y9a (decide (o>0)) hc hb he;obtain ⟨q1,q2⟩:=w7l r (o+e.c) e.a (Vf out last (decide (o>0)) e.a) hr.2 hr.1 p1 p2;rw [y1i];refine ⟨q1,fun y=> ?_⟩;rw [q2,p3,Qh];constructor
  ·rintro ((h | ⟨h1,h2,h3⟩) | ⟨h1,h2,f,hf,h3⟩)
   ·exact .inl h
   ·right;have h1:=AE h1;refine ⟨h2,?_,e,by simp,h3⟩;rw [At (by omega),w0y r y fun f hf=>by have:=hr.1 f hf;omega];omega
   ·right;refine ⟨by omega,?_,f,by simp [hf],h3⟩;rw [Aw h1];omega
  ·rintro (h | ⟨h1,h2,f,hf,h3⟩)
   ·exact .inl (.inl h)
   ·by_cases hy:e.a≤y
    ·right;rw [Aw hy] at h2;refine ⟨hy,by omega,f,?_,h3⟩;rcases AB.1 hf with rfl | hf
     ·omega
     ·exact hf
    ·left;right;rw [At hy,w0y r y fun f hf=>by have:=hr.1 f hf;omega] at h2;exact ⟨Ah (by omega),h1,by omega⟩
theorem v6v (l:List R2) (hv: ∀s∈l,s.a<s.b) (y:Int):0≤net (Ku l) y∧(0<net (Ku l) y↔pt l y):=by
 induction l with
 | nil=>exact ⟨A1 _,by simp [net,Ku,pt]⟩
 | cons s l ih=>
  obtain ⟨i1,i2⟩:=ih fun t ht=>hv t (by simp [ht]);have hs:=hv s (by simp);have e:net (Ku (s::l)) y=(if s.a≤y∧y<s.b then 1 else 0)+net (Ku l) y:=by
   show net (⟨s.a,0,1⟩::⟨s.b,0,-1⟩::Ku l) y=_;rw [Qh,Qh];show (if s.a≤y then (1:Int) else 0)+((if s.b≤y then (-1:Int) else 0)+net (Ku l) y)=_;by_cases h1:s.a≤y
   ·by_cases h2:s.b≤y
    ·rw [Aw h1,Aw h2,At (show¬(s.a≤y∧y<s.b) by omega)];omega
    ·rw [Aw h1,At h2,Aw (show s.a≤y∧y<s.b by omega)];omega
   ·rw [At h1,At (show¬s.b≤y by omega),At (show¬(s.a≤y∧y<s.b) by omega)];omega
  rw [e];by_cases h:s.a≤y∧y<s.b
  ·rw [Aw h];exact ⟨by omega,⟨fun _=>⟨s,by simp,h⟩,fun _=>by omega⟩⟩
  ·rw [At h];refine ⟨by omega,?_⟩;rw [Ce,i2];constructor
   ·rintro ⟨t,ht,h2⟩;exact ⟨t,by simp [ht],h2⟩
   ·rintro ⟨t,ht,h2⟩;rcases AB.1 ht with rfl | ht
    ·exact absurd h2 h
    ·exact ⟨t,ht,h2⟩
theorem y4t {l:List R2} {s:R2} (h:s∈l):(⟨s.b,0,-1⟩:R3)∈Ku l∧(⟨s.a,0,1⟩:R3)∈Ku l:=
 ⟨AO.2 ⟨s,h,by simp⟩,AO.2 ⟨s,h,by simp⟩⟩
theorem w0f (l:List R3) (h:y0x l=true):Asc (z0q l):=by refine Be.2 fun i j hi hj hij=> ?_;have:=(Kn l h).2 i j hij hj;rwa [Xp hi,Xp hj] at this
theorem w7k (l:List R2) (hv:l.all z1j=true):Can (swV l)∧ ∀y,pt (swV l) y↔pt l y:=by
 have hb:y0x (Ku l)=true:=As.2 fun e he=>by obtain ⟨s,hs,h1⟩:=AO.1 he;have hv:=As.1 hv s hs;simp only [z1j,Ac,Aq] at hv;simp only [AB,Bm,Ca] at h1;rcases h1 with rfl | rfl <;> exact Ah (by simp only;omega)
 have hpos: ∀s∈l,s.a<s.b:=fun s hs=>by have:=As.1 hv s hs;simp only [z1j,Ac,Aq] at this;exact this.1
 obtain ⟨hp,_⟩:=Kn (Ku l) hb;have ha:=w0f (Ku l) hb;have hn: ∀y,net (z0q (Ku l)) y=net (Ku l) y:=fun y=>v6u hp y;unfold swV;generalize z0q (Ku l)=E at hp ha hn;cases E with
 | nil=>refine ⟨.nil,fun y=>⟨fun ⟨s,hs,_⟩=>(by cases hs),fun ⟨s,hs,_⟩=> ?_⟩⟩;have:=hp.mem_iff.2 (y4t hs).1;cases this
 | cons e r=>
  have hr:=AR.1 ha;rw [y1i,Ce];have e0:Vf [] 0 false e.a=[]:=rfl;rw [e0];obtain ⟨q1,q2⟩:=w7l r e.c e.a [] hr.2 hr.1 .nil (by simp);refine ⟨q1,fun y=> ?_⟩;rw [q2];obtain ⟨n1,n2⟩:=v6v l hpos y;rw [←n2,←hn,Qh];constructor
  ·rintro (⟨s,hs,_⟩ | ⟨h1,h2,_⟩)
   ·cases hs
   ·rw [Aw h1];omega
  ·intro h;have hpt:=n2.1 (by rw [←hn,Qh];exact h);obtain ⟨s,hs,s1,s2⟩:=hpt;have m1:=hp.mem_iff.2 (y4t hs).1;have m2:=hp.mem_iff.2 (y4t hs).2;have hea:e.a≤y:=by
    rcases AB.1 m2 with h' | h'
    ·rw [←h'];exact s1
    ·have h'':e.a≤s.a:=hr.1 _ h';omega
   right;rw [Aw hea] at h;refine ⟨hea,h,⟨s.b,0,-1⟩,?_,s2⟩;rcases AB.1 m1 with h' | h'
   ·have h'':e.a=s.b:=(by rw [←h']);omega
   ·exact h'
theorem x3a (out:List Int) (hs:out.Pairwise (· < ·)) (x:Int): ∀k,k≤out.length→x6v out x k≤k∧(∀i,x6v out x k≤i→i<k→x<rd out i)∧(0<x6v out x k→rd out (x6v out x k - 1)≤x)
 | 0,_=>⟨An _,fun i h1 h2=>by omega,fun h=>by simp [x6v] at h⟩
 | k+1,hk=>by
  unfold x6v;rcases Ye (decide (rd out k>x)) with q | q
  ·rw [q,Ab];obtain ⟨h1,h2,h3⟩:=x3a out hs x k (by omega);refine ⟨by omega,fun i a b=> ?_,h3⟩;rcases Bw (B5 b) with rfl | b
   ·exact AE q
   ·exact h2 i a b
  ·rw [q,Aa];exact ⟨An _,fun i a b=>by omega,fun _=>by have:=Cc q;simp only [Nat.add_sub_cancel];omega⟩
theorem v1p (out:List Int) (hs:out.Pairwise (· < ·)) (x:Int):(y4k out x).Pairwise (· < ·)∧ ∀y,y∈y4k out x↔y∈out∨y=x:=by
 obtain ⟨h1,h2,h3⟩:=x3a out hs x out.length (An _);unfold y4k;split
 ·rename_i h0;rw [h0] at h2;refine ⟨AR.2 ⟨fun y hy=> ?_,hs⟩,fun y=>by simp [or_comm]⟩;obtain ⟨i,hi,rfl⟩:=AZ hy;have:=h2 i (AJ _) hi;rwa [Xp hi] at this
 ·rename_i k hk;rw [hk] at h1 h2 h3;have h3:rd out k≤x:=h3 (Nat.succ_pos _);have hkl:k<out.length:=by omega
  rcases Ye (rd out k == x) with q | q
  ·rw [q,Ab];have q:rd out k=x:=by simpa using q
   refine ⟨hs,fun y=>⟨.inl,fun h=>h.elim id fun e=> ?_⟩⟩;rw [e,←q,Xp hkl];exact AS hkl
  ·rw [q,Aa];have q:rd out k≠x:=by simpa using q
   refine ⟨?_,fun y=> ?_⟩
   ·have st:(out.take (k+1)).Pairwise (· < ·):=hs.sublist (List.take_sublist _ _);have sd:(out.drop (k+1)).Pairwise (· < ·):=hs.sublist (List.drop_sublist _ _);have ht: ∀y∈out.take (k+1),y<x:=fun y hy=>by
     obtain ⟨i,hi,rfl⟩:=AZ hy;have hi':i<k+1:=by simp at hi;omega
     rw [Bh];have:rd out i≤rd out k:=by
      rcases Bw (B5 hi') with rfl | h
      ·exact A1 _
      ·exact Int.le_of_lt (x3j hs h hkl)
     rw [Xp (show i<out.length by omega)] at this;omega
    have hd: ∀y∈out.drop (k+1),x<y:=fun y hy=>by
     obtain ⟨i,hi,rfl⟩:=AZ hy;have hi':k+1+i<out.length:=by simp at hi;omega
     rw [Cq,←Xp hi'];exact h2 _ (by omega) hi'
    refine Bv.2 ⟨st,AR.2 ⟨hd,sd⟩,fun a ha b hb=> ?_⟩;rcases AB.1 hb with rfl | hb
    ·exact ht a ha
    ·exact Int.lt_trans (ht a ha) (hd b hb)
   ·rw [AC,AB];constructor
    ·rintro (h | h | h)
     ·exact .inl (B3 h)
     ·exact .inr h
     ·exact .inl (List.mem_of_mem_drop h)
    ·rintro (h | h)
     ·rw [←List.take_append_drop (k+1) out,AC] at h;exact h.elim .inl fun h=>.inr (.inr h)
     ·exact .inr (.inl h)
theorem Wx (l:List Int):(z3h l).Pairwise (· < ·)∧ ∀y,y∈z3h l↔y∈l:=by
 have: ∀(l out:List Int),out.Pairwise (· < ·)→(l.foldl y4k out).Pairwise (· < ·)∧ ∀y,y∈l.foldl y4k out↔y∈out∨y∈l:=by
  intro l
  induction l with
  | nil=>intro out h;exact ⟨h,fun y=>by simp⟩
  | cons x l ih=>intro out h;obtain ⟨a,b⟩:=v1p out h x;obtain ⟨c,d⟩:=ih (y4k out x) a;refine ⟨c,fun y=> ?_⟩;show y∈l.foldl y4k (y4k out x)↔_;rw [d,b,AB,or_assoc]
 obtain ⟨a,b⟩:=this l [] .nil;exact ⟨a,fun y=>by rw [z3h,b];simp⟩
theorem y0o : ∀(l m:List Int),l.Pairwise (· < ·)→m.Pairwise (· < ·)→(∀x,x∈l↔x∈m)→l=m
 | [],[],_,_,_=>rfl
 | [],b::m,_,_,h=>by have:=(h b).2 (by simp);cases this
 | a::l,[],_,_,h=>by have:=(h a).1 (by simp);cases this
 | a::l,b::m,hl,hm,h=>by
  obtain ⟨a1,a2⟩:=AR.1 hl;obtain ⟨b1,b2⟩:=AR.1 hm;have e:a=b:=by
   have x1:=(h a).1 (by simp);have x2:=(h b).2 (by simp);rcases AB.1 x1 with x1 | x1
   ·exact x1
   rcases AB.1 x2 with x2 | x2
   ·exact x2.symm
   have:=b1 a x1;have:=a1 b x2;omega
  subst e
  congr 1
  refine y0o l m a2 b2 fun x=>⟨fun hx=> ?_,fun hx=> ?_⟩
  ·rcases AB.1 ((h x).1 (by simp [hx])) with e | e
   ·have:=a1 x hx;omega
   ·exact e
  ·rcases AB.1 ((h x).2 (by simp [hx])) with e | e
   ·have:=b1 x hx;omega
   ·exact e
theorem y0r (zs:List Int) (hs:zs.Pairwise (· ≤ ·)): ∀m,m≤zs.length→(compactUpTo zs.toArray m).Pairwise (· < ·)∧ ∀x,x∈compactUpTo zs.toArray m↔x∈zs.take m
 | 0,_=>by simp [compactUpTo]
 | m +1,h=>by
  obtain ⟨h1,h2⟩:=y0r zs hs m (by omega);have hg: ∀j (hj:j<zs.length),zs.toArray[j]! =zs[j]:=fun j hj=>by simp [hj]
  have hle: ∀i j (hi:i<zs.length) (hj:j<zs.length),i<j→zs[i]≤zs[j]:=fun i j hi hj hij=>Be.1 hs i j hi hj hij;have hm:m<zs.length:=by omega
  rw [compactUpTo_succ,hg m hm,List.take_succ_eq_append_getElem hm];by_cases hk:keeps zs.toArray m=true
  ·rw [Aw hk];refine ⟨Bv.2 ⟨h1,List.pairwise_singleton _ _,fun x hx y hy=> ?_⟩,fun x=>by rw [AC,AC,h2 x]⟩;rw [AM.1 hy];obtain ⟨i,hi,rfl⟩:=AZ ((h2 x).1 hx);have hi':i<m:=by simp at hi;omega
   rw [Bh];simp only [keeps,Aq] at hk;rcases hk with hk | hk
   ·omega
   ·rw [hg m hm,hg (m - 1) (by omega)] at hk;have k1:zs[i]≤zs[m - 1]:=by
     rcases Bo i (m - 1) with q | q
     ·exact hle i (m - 1) _ _ q
     ·have e:i=m - 1:=(by omega);subst e;exact A1 _
    have k2:=hle (m - 1) m (by omega) hm (by omega);omega
  ·rw [At hk,AA];refine ⟨h1,fun x=> ?_⟩;rw [h2 x,AC,AM];refine ⟨.inl,fun hx=>hx.elim id fun e=> ?_⟩;simp only [keeps,Aq,not_or,Decidable.not_not] at hk;rw [hg m hm,hg (m - 1) (by omega)] at hk;rw [e,hk.2];have:m - 1<(zs.take m).length :=by simp;omega
   have e2:(zs.take m)[m - 1]=zs[m - 1]:=Bh;rw [←e2];exact AS this
theorem srt_le (zs:List Int):(Xv zs).Pairwise (· ≤ ·):=by have:=List.pairwise_mergeSort (le:=fun x y:Int=>decide (x≤y)) (fun a b c h1 h2=>by simp at*;omega) (fun a b=>by simp;omega) zs;exact this.imp fun h=>by simpa using h
theorem u4s (zs:List Int) (x:Int):x∈Xv zs↔x∈zs:=List.mem_mergeSort
theorem Ja (zs:List Int):Jp zs=z3h zs:=by obtain ⟨h1,h2⟩:=y0r (Xv zs) (srt_le zs) (Xv zs).length (An _);obtain ⟨s1,s2⟩:=Wx zs;refine y0o _ _ h1 s1 fun x=> ?_;rw [show Jp zs=compactUpTo (Xv zs).toArray (Xv zs).length from rfl,h2 x,List.take_length,u4s,s2]
namespace Dim
variable {α β:Type} (D:Dim α β)
def ref (sec:Int→List β) (cs:List Int):Nat→Nat→List α→List β→Nat→List α
 | 0,_,out,_,_=>out
 | k+1,i,out,last,first=>
  bif decide (0<i)&&D.same (sec (rd cs i)) last then ref sec cs k (i+1) (D.grow out first (rd cs (i+1))) last first
  else ref sec cs k (i+1) (out++(sec (rd cs i)).map (D.put (rd cs i) (rd cs (i+1)))) (sec (rd cs i)) out.length
theorem ref_eq (hs: ∀a b,D.same a b=true↔a=b) (l:List α): ∀(k i:Nat) (s:Sw α β) (out:List α) (last:List β) (first:Nat),
  s.out=out→s.last=last→(last≠ []→s.first=first)→(last=[]→out.length≤first)→(0<i→s.fin=rd (D.cuts l) i)→(i=0→last=[])→
  (D.go l k i s).out =D.ref (D.sec l) (D.cuts l) k i out last first
 | 0,i,s,out,last,first,h1,h2,h3,h4,h5,h6=>h1
 | k +1,i,s,out,last,first,h1,h2,h3,h4,h5,h6=>by
  subst h1 h2;have e1:D.go l (k+1) i s=D.go l k (i+1) (D.one l (rd (D.cuts l) i) (rd (D.cuts l) (i+1)) s):=rfl;rw [e1];unfold ref;rcases Ye (decide (0<(D.sec l (rd (D.cuts l) i)).length)&&((s.fin == rd (D.cuts l) i)&&D.same s.last (D.sec l (rd (D.cuts l) i)))) with q | q
  ·have e:D.one l (rd (D.cuts l) i) (rd (D.cuts l) (i+1)) s=⟨D.grow s.out s.first (rd (D.cuts l) (i+1)),s.last,s.first,rd (D.cuts l) (i+1)⟩:=by unfold one;rw [q];rfl
   simp only [Ac,Aq] at q;obtain ⟨q1,q2,q3⟩:=q;have q3:=(hs _ _).1 q3;have hne:s.last≠ []:=fun h=>by rw [h] at q3;rw [←q3] at q1;exact Nat.lt_irrefl _ q1
   have hi:0<i:=Nat.pos_of_ne_zero fun h=>hne (h6 h);have e2:(decide (0<i)&&D.same (D.sec l (rd (D.cuts l) i)) s.last)=true:=by rw [Ah hi,Al,hs,q3]
   rw [e2,Ab,e];refine ref_eq hs l k (i+1) _ _ _ _ ?_ rfl h3 (fun h=>absurd h hne) (fun _=>rfl) (fun h=>by omega);rw [h3 hne]
  ·have e:D.one l (rd (D.cuts l) i) (rd (D.cuts l) (i+1)) s=⟨s.out++(D.sec l (rd (D.cuts l) i)).map (D.put (rd (D.cuts l) i) (rd (D.cuts l) (i+1))),D.sec l (rd (D.cuts l) i),s.out.length,rd (D.cuts l) (i+1)⟩:=by unfold one;rw [q];rfl
   rcases Ye (decide (0<i)&&D.same (D.sec l (rd (D.cuts l) i)) s.last) with q2 | q2
   ·rw [q2,Ab,e];simp only [Ac,Aq] at q2;obtain ⟨hi,q3⟩:=q2;have q3:=(hs _ _).1 q3;rw [(hs s.last (D.sec l (rd (D.cuts l) i))).2 q3.symm,Ai,h5 hi] at q;have hz:D.sec l (rd (D.cuts l) i)=[]:=by
     cases h:D.sec l (rd (D.cuts l) i) with
     | nil=>rfl
     | cons a b=>rw [h] at q;simp at q
    have hl:s.last=[]:=(by rw [←q3,hz]);have hf:=h4 hl;rw [hz,Bg,AA];refine ref_eq hs l k (i+1) _ _ _ _ ?_ hl.symm (fun h=>absurd hl h) (fun _=> ?_) (fun _=>rfl) (fun h=>by omega)
    ·exact (D.grow_nil _ _ _ hf).symm
    ·rw [D.grow_length];exact hf
   ·rw [q2,Aa,e];exact ref_eq hs l k (i+1) _ _ _ _ rfl rfl (fun _=>rfl) (fun h=>by rw [h];simp) (fun _=>rfl) (fun h=>by omega)
theorem out_eq (hs: ∀a b,D.same a b=true↔a=b) (l:List α):D.out l=D.ref (D.sec l) (D.cuts l) ((D.cuts l).length - 1) 0 [] [] 0:=
 D.ref_eq hs l _ 0 _ [] [] 0 rfl rfl (fun _=>rfl) (fun _=>An _) (fun h=>absurd h (Nat.lt_irrefl _)) (fun _=>rfl)
end Dim
theorem u8b {l:List R4} {x:Int} {s:R2} (h:s∈D4.inn l x): ∃r∈l,r.a≤x∧x<r.c∧s=⟨r.b,r.d⟩:=by obtain ⟨r,hr,e⟩:=AN.1 h;obtain ⟨h1,h2⟩:=A0.1 hr;simp only [Ac,Aq] at h2;exact ⟨r,h1,h2.1,h2.2,e.symm⟩
theorem v9q (r:R6):Qu r=w6w r:=by
 unfold Qu w6w;simp only [u8c,u8d];rw [Bool.eq_iff_iff];simp only [Ac,Aq];have m1: ∀x y z:Int,x≤min y z↔x≤y∧x≤z:=fun x y z=>by omega
 have m2: ∀x y z:Int,max y z≤x↔y≤x∧z≤x:=fun x y z=>by omega
 simp only [ge_iff_le,m1,m2];constructor <;> intro h <;> (repeat' apply And.intro) <;> omega
def Cg (x y:Int):Prop:=(18446744073709551616:Int)∣x - y
theorem Cg.refl (x:Int):Cg x x:=by unfold Cg;rw [Int.sub_self];exact Int.dvd_zero _
theorem Cg.add {x y u v:Int} (h:Cg x y) (k:Cg u v):Cg (x+u) (y+v):=by unfold Cg at*;omega
theorem Cg.sub {x y u v:Int} (h:Cg x y) (k:Cg u v):Cg (x - u) (y - v):=by unfold Cg at*;omega
theorem Cg.wrap (x:Int):Cg (IntKind.wrap .i64 x) x:=by rw [w64];unfold Cg;omega
theorem Cg.eq {x y:Int} (h:Cg x y):IntKind.wrap .i64 x=IntKind.wrap .i64 y:=by rw [w64,w64];unfold Cg at h;omega
def sm {α:Type} (l:List α) (f:α→Int):Int:=(l.map f).sum
theorem w7z {α:Type} (f:α→Int):sm ([]:List α) f=0:=rfl
theorem x5m {α:Type} (x:α) (l:List α) (f:α→Int):sm (x::l) f=f x+sm l f:=by simp [sm]
open Go.Proofs Go.Sort Go.Shelf Go.RowKit Go.Lib
namespace Dim
variable {α β:Type} (D:Dim α β)
structure Fair :Prop where
 lo_put: ∀x x' b,D.lo (D.put x x' b)=x
 hi_put: ∀x x' b,D.hi (D.put x x' b)=x'
 pr_put: ∀x x' b,D.pr (D.put x x' b)=b
 ext_put: ∀x x' x'' b,D.ext x'' (D.put x x' b)=D.put x x'' b
def Ap (R:β→β→Prop) (a b:α):Prop:=D.hi a≤D.lo b∨D.hi b≤D.lo a∨R (D.pr a) (D.pr b)
theorem w9k {D:Dim α β} (hD:D.Fair) (R:β→β→Prop) (sec:Int→List β) (cs:List Int) (hc:cs.Pairwise (· < ·)) (eA: ∀x,(sec x).Pairwise R):
  ∀(k i:Nat) (pre:List α) (last:List β) (x0:Int),(i+k<cs.length∨k=0)→pre.Pairwise (D.Ap R)→(∀a∈pre,D.hi a≤x0)→(last≠ []→x0≤rd cs i)→(last=[]→x0≤rd cs i)→last.Pairwise R→
  (D.ref sec cs k i (pre++last.map (D.put x0 (rd cs i))) last pre.length).Pairwise (D.Ap R):=by
 have fin: ∀(pre:List α) (last:List β) (x0 x':Int),pre.Pairwise (D.Ap R)→(∀a∈pre,D.hi a≤x0)→last.Pairwise R→(pre++last.map (D.put x0 x')).Pairwise (D.Ap R):=fun pre last x0 x' h1 h2 h3=>by
  refine Bv.2 ⟨h1,?_,fun a ha b hb=> ?_⟩
  ·refine Ci.2 (h3.imp fun {a b} h=>.inr (.inr ?_));rw [hD.pr_put,hD.pr_put];exact h
  ·obtain ⟨c,_,rfl⟩:=AN.1 hb;exact .inl (by rw [hD.lo_put];exact h2 a ha)
 intro k
 induction k with
 | zero=>intro i pre last x0 _ h1 h2 _ _ h3;exact fin pre last x0 _ h1 h2 h3
 | succ k ih=>
  intro i pre last x0 hk h1 h2 h4 h5 h3;have hlt:rd cs i<rd cs (i+1):=x3j hc (B6 _) (by omega);unfold ref;cases hq:(decide (0<i)&&D.same (sec (rd cs i)) last) with
  | true=>
   rw [Ab];have e:D.grow (pre++last.map (D.put x0 (rd cs i))) pre.length (rd cs (i+1))=pre++last.map (D.put x0 (rd cs (i+1))):=by
    unfold grow;rw [List.take_left,List.drop_left,List.map_map]
    congr 1
    exact List.map_congr_left fun b _=>hD.ext_put _ _ _ _
   rw [e];exact ih (i+1) pre last x0 (by omega) h1 h2 (fun h=>by have:=h4 h;omega) (fun h=>by have:=h5 h;omega) h3
  | false=>
   rw [Aa];refine ih (i+1) (pre++last.map (D.put x0 (rd cs i))) (sec (rd cs i)) (rd cs i) (by omega) (fin pre last x0 _ h1 h2 h3) (fun a ha=> ?_) (fun _=>by omega) (fun _=>by omega) (eA _);rcases AC.1 ha with ha | ha
   ·have:=h2 a ha;by_cases e:last=[]
    ·have:=h5 e;omega
    ·have:=h4 e;omega
   ·obtain ⟨c,_,rfl⟩:=AN.1 ha;rw [hD.hi_put];exact A1 _
theorem out_apart {D:Dim α β} (hD:D.Fair) (R:β→β→Prop) (hs: ∀a b,D.same a b=true↔a=b) (l:List α) (eA: ∀x,(D.sec l x).Pairwise R):(D.out l).Pairwise (D.Ap R):=by
 rw [D.out_eq hs l];have hc:(D.cuts l).Pairwise (· < ·):=by show (Jp (D.ends l)).Pairwise (· < ·);rw [Ja];exact (Wx _).1
 have:=w9k hD R (D.sec l) (D.cuts l) hc eA ((D.cuts l).length - 1) 0 [] [] (rd (D.cuts l) 0) (by omega) .nil (by simp) (fun _=>A1 _) (fun _=>A1 _) .nil;exact this
end Dim
theorem y5w :D4.Fair:=⟨fun _ _ _=>rfl,fun _ _ _=>rfl,fun _ _ _=>rfl,fun _ _ _ _=>rfl⟩
theorem z3g :D6.Fair:=⟨fun _ _ _=>rfl,fun _ _ _=>rfl,fun _ _ _=>rfl,fun _ _ _ _=>rfl⟩
def Ap2 (s t:R2):Prop:=s.b≤t.a∨t.b≤s.a
def Ap4 (s t:R4):Prop:=s.c≤t.a∨t.c≤s.a∨s.d≤t.b∨t.d≤s.b
def Ap6 (s t:R6):Prop:=s.d≤t.a∨t.d≤s.a∨s.e≤t.b∨t.e≤s.b∨s.f≤t.c∨t.f≤s.c
theorem w7s (l:List R2):(Xr l).Pairwise Ap2:=by
 unfold Xr;by_cases h:400<l.length
 ·rw [Ah h];exact .nil
 ·rw [Ay h,Aa];cases hv:l.all z1j with
  | false=>exact .nil
  | true=>rw [Ab];exact (w7k l hv).1.sep.imp fun {s t} h=>.inl (by omega)
theorem w9d (l:List R4):(Zb l).Pairwise Ap4:=by
 have key:(D4.out l).Pairwise Ap4:=(Dim.out_apart y5w Ap2 (fun a b=>decide_eq_true_iff) l fun x=>w7s _).imp fun {s t} h=>by
  rcases h with h | h | h | h
  ·exact .inl h
  ·exact .inr (.inl h)
  ·exact .inr (.inr (.inl h))
  ·exact .inr (.inr (.inr h))
 unfold Zb;by_cases h:400<l.length
 ·rw [Ah h];exact .nil
 ·rw [Ay h,Aa];cases l.all Vp with
  | false=>exact .nil
  | true=>
   rw [Ab];cases decide (((D4.out l).length :Int)>400) with
   | true=>exact .nil
   | false=>exact key
theorem Wt {l:List R6} (h:Xe l=0):l.length≤400∧(∀r∈l,Qu r=true)∧l=D6.out l∧l.Pairwise Ap6:=by
 unfold Xe at h;by_cases h1:400<l.length
 ·rw [Ah h1] at h;cases h
 ·rw [Ay h1,Aa] at h;cases hv:l.all Qu with
  | false=>rw [hv] at h;cases h
  | true=>
   rw [hv,Ab] at h;cases ho:okF l ((D6.cuts l).length - 1) 0 with
   | false=>rw [ho] at h;cases h
   | true=>
    rw [ho,Ab] at h;cases h2:decide (((D6.out l).length :Int)>400) with
    | true=>rw [h2] at h;cases h
    | false=>
     rw [h2,Aa] at h;cases h3:Kk (D6.out l) l with
     | false=>rw [h3] at h;cases h
     | true=>
      have e:D6.out l=l:=AE h3;refine ⟨by omega,fun r hr=>As.1 hv r hr,e.symm,?_⟩;have:=(Dim.out_apart z3g Ap4 (fun a b=>decide_eq_true_iff) l fun x=>w9d _).imp (S:=Ap6) fun {s t} h=>by
       rcases h with h | h | h | h | h | h
       ·exact .inr (.inr (.inr (.inr (.inl h))))
       ·exact .inr (.inr (.inr (.inr (.inr h))))
       ·exact .inl h
       ·exact .inr (.inl h)
       ·exact .inr (.inr (.inl h))
       ·exact .inr (.inr (.inr (.inl h)))
      rwa [e] at this
theorem z6u {r:R6} (h:Qu r=true):r.a<r.d∧r.b<r.e∧r.c<r.f∧ -1000000≤r.a∧ -1000000≤r.b∧ -1000000≤r.c∧r.d≤1000000∧r.e≤1000000∧r.f≤1000000:=by rw [v9q] at h;simp only [w6w,Ac,Aq] at h;omega
open Go.Proofs Go.Sort Go.Shelf Go.RowKit Go.Lib
structure Qs (β:Type) where
 a:Int
 b:Int
 s:List β
def ptL {β γ:Type} (inB:β→γ→Prop) (s:List β) (q:γ):Prop:= ∃r∈s,inB r q
theorem z4c {β γ:Type} (inB:β→γ→Prop) (q:γ): ¬ptL inB [] q:=fun ⟨_,h,_⟩=>by cases h
structure Sem (β γ:Type) where
 can:List β→Prop
 inB:β→γ→Prop
 uniq: ∀s t,can s→can t→(∀q,ptL inB s q↔ptL inB t q)→s=t
 some: ∀s,can s→s≠ []→ ∃q,ptL inB s q
 nil:can []
section
variable {β γ:Type} (M:Sem β γ)
def OkS (g:Qs β):Prop:=g.a<g.b∧M.can g.s∧g.s≠ []
def Nxt (g h:Qs β):Prop:=g.b≤h.a∧(g.b=h.a→g.s≠h.s)
inductive z2c :List (Qs β)→Prop
 | nil:z2c []
 | one (g:Qs β) (h:OkS M g):z2c [g]
 | cons (g h:Qs β) (r:List (Qs β)) (ok:OkS M g) (nx:Nxt g h) (k:z2c (h::r)):z2c (g::h::r)
def ptG (G:List (Qs β)) (x:Int) (q:γ):Prop:= ∃g∈G,g.a≤x∧x<g.b∧ptL M.inB g.s q
variable {M}
theorem z2c.head {g:Qs β} {r:List (Qs β)} (h:z2c M (g::r)):OkS M g:=by cases h <;> assumption
theorem z2c.tail {g:Qs β} {r:List (Qs β)} (h:z2c M (g::r)):z2c M r:=by
 cases h with
 | one=>exact .nil
 | cons _ _ _ _ _ k=>exact k
theorem z2c.later {g:Qs β} {r:List (Qs β)} (h:z2c M (g::r)): ∀k∈r,g.b≤k.a:=by
 induction r generalizing g with
 | nil=>intro k hk;cases hk
 | cons k r ih=>
  cases h with
  | cons _ _ _ ok nx kk=>
   intro m hm;rcases AB.1 hm with rfl | hm
   ·exact nx.1
   ·have h1:=ih kk m hm;have h2:=kk.head.1;have h3:=nx.1;omega
theorem z2c.all {G:List (Qs β)} (h:z2c M G): ∀g∈G,OkS M g:=by
 induction G with
 | nil=>intro g hg;cases hg
 | cons k r ih=>
  intro g hg;rcases AB.1 hg with rfl | hg
  ·exact h.head
  ·exact ih h.tail g hg
theorem z2c.before {G:List (Qs β)} {g:Qs β} (k:z2c M (G++[g])): ∀m∈G,m.b≤g.a:=by
 induction G with
 | nil=>intro m hm;cases hm
 | cons m r ih=>
  intro n hn;rcases AB.1 hn with rfl | hn
  ·exact k.later g (by simp)
  ·exact ih k.tail n hn
theorem z2c.snoc {G:List (Qs β)} {g h:Qs β} (k:z2c M (G++[g])) (ok:OkS M h) (nx:Nxt g h):z2c M (G++[g]++[h]):=by
 induction G with
 | nil=>exact .cons g h [] k.head nx (.one h ok)
 | cons m r ih=>
  have i:=ih k.tail;cases r with
  | nil=>
   cases k with
   | cons _ _ _ ok1 nx1 k1=>exact .cons m g [h] ok1 nx1 i
  | cons m2 r=>
   cases k with
   | cons _ _ _ ok1 nx1 k1=>exact .cons m m2 _ ok1 nx1 i
theorem z2c.stretch {G:List (Qs β)} {g:Qs β} {x:Int} (k:z2c M (G++[g])) (hx:g.b≤x):z2c M (G++[⟨g.a,x,g.s⟩]):=by
 induction G with
 | nil=>have:=k.head;exact .one _ ⟨by have:=this.1;show g.a<x;omega,this.2⟩
 | cons m r ih=>
  have i:=ih k.tail;cases r with
  | nil=>
   cases k with
   | cons _ _ _ ok1 nx1 k1=>exact .cons m _ [] ok1 nx1 i
  | cons m2 r=>
   cases k with
   | cons _ _ _ ok1 nx1 k1=>exact .cons m m2 _ ok1 nx1 i
theorem z7j (g:Qs β) (G:List (Qs β)) (x:Int) (q:γ):ptG M (g::G) x q↔(g.a≤x∧x<g.b∧ptL M.inB g.s q)∨ptG M G x q:=by
 constructor
 ·rintro ⟨k,hk,h⟩;rcases AB.1 hk with rfl | hk
  ·exact .inl h
  ·exact .inr ⟨k,hk,h⟩
 ·rintro (h | ⟨k,hk,h⟩)
  ·exact ⟨g,by simp,h⟩
  ·exact ⟨k,by simp [hk],h⟩
theorem y7x (G H:List (Qs β)) (x:Int) (q:γ):ptG M (G++H) x q↔ptG M G x q∨ptG M H x q:=by
 constructor
 ·rintro ⟨k,hk,h⟩;rcases AC.1 hk with hk | hk
  ·exact .inl ⟨k,hk,h⟩
  ·exact .inr ⟨k,hk,h⟩
 ·rintro (⟨k,hk,h⟩ | ⟨k,hk,h⟩)
  ·exact ⟨k,AC.2 (.inl hk),h⟩
  ·exact ⟨k,AC.2 (.inr hk),h⟩
theorem z2c.low {g:Qs β} {r:List (Qs β)} (h:z2c M (g::r)) {x:Int} {q:γ} (hp:ptG M (g::r) x q):g.a≤x:=by
 rcases (z7j g r x q).1 hp with hp | ⟨k,hk,h1,_⟩
 ·exact hp.1
 ·have:=h.later k hk;have:=h.head.1;omega
theorem z2c.rest {g:Qs β} {r:List (Qs β)} (h:z2c M (g::r)) (x:Int) (q:γ):ptG M r x q↔g.b≤x∧ptG M (g::r) x q:=by
 constructor
 ·rintro ⟨k,hk,h1,h2⟩;have:=h.later k hk;exact ⟨by omega,k,by simp [hk],h1,h2⟩
 ·rintro ⟨hx,hp⟩;rcases (z7j g r x q).1 hp with hp | hp
  ·omega
  ·exact hp
theorem z2c.sec0 {g:Qs β} {r:List (Qs β)} (h:z2c M (g::r)) {x:Int} (hx:g.a≤x∧x<g.b) (q:γ):ptG M (g::r) x q↔ptL M.inB g.s q:=by
 rw [z7j];constructor
 ·rintro (h1 | ⟨k,hk,h1,_⟩)
  ·exact h1.2.2
  ·have:=h.later k hk;omega
 ·exact fun h1=>.inl ⟨hx.1,hx.2,h1⟩
theorem x4e : ∀(G H:List (Qs β)),z2c M G→z2c M H→(∀x q,ptG M G x q↔ptG M H x q)→G=H
 | [],[],_,_,_=>rfl
 | [],h::H,_,hH,e=>by obtain ⟨q,hq⟩:=M.some _ hH.head.2.1 hH.head.2.2;have:=(e h.a q).2 ((hH.sec0 ⟨A1 _,hH.head.1⟩ q).2 hq);obtain ⟨k,hk,_⟩:=this;cases hk
 | g::G,[],hG,_,e=>by obtain ⟨q,hq⟩:=M.some _ hG.head.2.1 hG.head.2.2;have:=(e g.a q).1 ((hG.sec0 ⟨A1 _,hG.head.1⟩ q).2 hq);obtain ⟨k,hk,_⟩:=this;cases hk
 | g::G,h::H,hG,hH,e=>by
  have og:=hG.head;have oh:=hH.head;obtain ⟨q,hq⟩:=M.some _ og.2.1 og.2.2;obtain ⟨p,hp⟩:=M.some _ oh.2.1 oh.2.2;have a1:h.a≤g.a:=hH.low ((e g.a q).1 ((hG.sec0 ⟨A1 _,og.1⟩ q).2 hq));have a2:g.a≤h.a:=hG.low ((e h.a p).2 ((hH.sec0 ⟨A1 _,oh.1⟩ p).2 hp));have a3:g.a=h.a:=by omega
  have s1:g.s=h.s:=M.uniq _ _ og.2.1 oh.2.1 fun q=>by rw [←hG.sec0 (x:=g.a) ⟨A1 _,og.1⟩,e,hH.sec0 (x:=g.a) ⟨by omega,by have:=oh.1;omega⟩]
  have key: ∀(g h:Qs β) (G H:List (Qs β)),z2c M (g::G)→z2c M (h::H)→(∀x q,ptG M (g::G) x q↔ptG M (h::H) x q)→g.a=h.a→g.s=h.s→ ¬g.b<h.b:=fun g h G H hG hH e ea es hlt=>by
   have og:=hG.head;have oh:=hH.head;have at_: ∀q,ptG M (g::G) g.b q↔ptL M.inB h.s q:=fun q=>by rw [e,hH.sec0 ⟨by have:=og.1;omega,hlt⟩]
   obtain ⟨q,hq⟩:=M.some _ oh.2.1 oh.2.2;have:=(hG.rest g.b q).2 ⟨A1 _,(at_ q).2 hq⟩;cases hG with
   | one=>obtain ⟨k,hk,_⟩:=this;cases hk
   | cons _ k r ok nx kk=>
    have hk:k.a≤g.b:=kk.low this;have hk2:g.b=k.a:=by have:=nx.1;omega
    refine nx.2 hk2 ?_;rw [es];refine M.uniq _ _ oh.2.1 kk.head.2.1 fun p=> ?_;rw [←at_,←kk.sec0 (x:=g.b) ⟨by omega,by have:=kk.head.1;omega⟩];constructor
    ·exact fun hp=>((z2c.cons g k r ok nx kk).rest g.b p).2 ⟨A1 _,hp⟩
    ·exact fun hp=>(((z2c.cons g k r ok nx kk).rest g.b p).1 hp).2
  have b1:=key g h G H hG hH e a3 s1;have b2:=key h g H G hH hG (fun x q=>(e x q).symm) a3.symm s1.symm;have b3:g.b=h.b:=by omega
  have eg:g=h:=by
   obtain ⟨ga,gb,gs⟩:=g;obtain ⟨ha,hb,hs⟩:=h;simp only at a3 b3 s1
   subst_vars;rfl
  subst eg
  congr 1
  exact x4e G H hG.tail hH.tail fun x q=>by rw [hG.rest,hH.rest,e]
end
namespace Dim
variable {α β:Type} (D:Dim α β)
def flat (G:List (Qs β)):List α:=G.flatMap fun g=>g.s.map (D.put g.a g.b)
theorem flat_append (G H:List (Qs β)):D.flat (G++H)=D.flat G++D.flat H:=by simp [flat]
theorem flat_one (g:Qs β):D.flat [g]=g.s.map (D.put g.a g.b):=by simp [flat]
def inA {γ:Type} (inB:β→γ→Prop) (r:α) (p:Int×γ):Prop:=D.lo r≤p.1∧p.1<D.hi r∧inB (D.pr r) p.2
variable {D}
theorem flat_pt (hD:D.Fair) {γ:Type} (M:Sem β γ) (G:List (Qs β)) (x:Int) (q:γ):ptL (D.inA M.inB) (D.flat G) (x,q)↔ptG M G x q:=by
 constructor
 ·rintro ⟨r,hr,h⟩;obtain ⟨g,hg,hr⟩:=AO.1 hr;obtain ⟨b,hb,rfl⟩:=AN.1 hr;unfold inA at h;rw [hD.lo_put,hD.hi_put,hD.pr_put] at h;exact ⟨g,hg,h.1,h.2.1,b,hb,h.2.2⟩
 ·rintro ⟨g,hg,h1,h2,b,hb,h3⟩;refine ⟨D.put g.a g.b b,AO.2 ⟨g,hg,AN.2 ⟨b,hb,rfl⟩⟩,?_⟩;unfold inA;rw [hD.lo_put,hD.hi_put,hD.pr_put];exact ⟨h1,h2,h3⟩
def can {γ:Type} (M:Sem β γ) (l:List α):Prop:= ∃G,z2c M G∧l=D.flat G
def sem (hD:D.Fair) {γ:Type} (M:Sem β γ):Sem α (Int×γ) where
 can:=D.can M
 inB:=D.inA M.inB
 uniq:=fun s t ⟨G,hG,e1⟩ ⟨H,hH,e2⟩ h=>by subst e1 e2;rw [x4e G H hG hH fun x q=>by rw [←flat_pt hD,←flat_pt hD];exact h (x,q)]
 some:=fun s ⟨G,hG,e1⟩ hs=>by
  subst e1;cases G with
  | nil=>exact absurd rfl hs
  | cons g G=>obtain ⟨q,hq⟩:=M.some _ hG.head.2.1 hG.head.2.2;exact ⟨(g.a,q),(flat_pt hD M _ _ _).2 ((hG.sec0 ⟨A1 _,hG.head.1⟩ q).2 hq)⟩
 nil:=⟨[],.nil,rfl⟩
variable (D)
def oneS (sec:List β) (x x':Int) (s:Sw α β):Sw α β:=
 bif decide (0<sec.length)&&((s.fin == x)&&D.same s.last sec) then ⟨D.grow s.out s.first x',s.last,s.first,x'⟩
 else ⟨s.out++sec.map (D.put x x'),sec,s.out.length,x'⟩
def goS (sec:Int→List β) (cs:List Int):Nat→Nat→Sw α β→Sw α β
 | 0,_,s=>s
 | k+1,i,s=>goS sec cs k (i+1) (D.oneS (sec (rd cs i)) (rd cs i) (rd cs (i+1)) s)
theorem go_goS (l:List α): ∀(k i:Nat) (s:Sw α β),D.go l k i s=D.goS (D.sec l) (D.cuts l) k i s
 | 0,_,_=>rfl
 | k+1,i,s=>go_goS l k (i+1) _
variable {D}
structure Inv {γ:Type} (M:Sem β γ) (sec:Int→List β) (cs:List Int) (i:Nat) (s:Sw α β) (G:List (Qs β)):Prop where
 can:z2c M G
 out:s.out=D.flat G
 gap:s.last=[]→ ∀g∈G,g.b<rd cs i
 end_ : s.last ≠ [] → ∃ Gp g, G = Gp ++ [g] ∧ g.s = s.last ∧ g.b = rd cs i ∧ s.fin = rd cs i ∧ s.first = (D.flat Gp).length
 pts: ∀x q,ptG M G x q↔ ∃j,j<i∧rd cs j≤x∧x<rd cs (j+1)∧ptL M.inB (sec (rd cs j)) q
theorem v8f (hD:D.Fair) (hs: ∀a b,D.same a b=true↔a=b) {γ:Type} (M:Sem β γ) {sec:Int→List β} {cs:List Int} (hc:cs.Pairwise (· < ·)) (eA: ∀x,M.can (sec x)) {i:Nat} (hi:i+1<cs.length) {s:Sw α β} {G:List (Qs β)} (h:Inv (D:=D) M sec cs i s G):
  ∃G',Inv (D:=D) M sec cs (i+1) (D.oneS (sec (rd cs i)) (rd cs i) (rd cs (i+1)) s) G':=by
 have hlt:rd cs i<rd cs (i+1):=x3j hc (B6 _) hi;unfold oneS;rcases Ye (decide (0<(sec (rd cs i)).length)&&((s.fin == rd cs i)&&D.same s.last (sec (rd cs i)))) with q | q
 ·rw [q,Ab];simp only [Ac,Aq] at q;obtain ⟨q1,q2,q3⟩:=q;have q3:=(hs _ _).1 q3;have hne:s.last≠ []:=fun e=>by rw [e] at q3;rw [←q3] at q1;exact Nat.lt_irrefl _ q1
  obtain ⟨Gp,g,e1,e2,e3,e4,e5⟩:=h.end_ hne;subst e1;refine ⟨Gp++[⟨g.a,rd cs (i+1),g.s⟩],h.can.stretch (by omega),?_,fun e=>absurd e hne,fun _=>⟨Gp,_,rfl,e2,rfl,rfl,e5⟩,fun x p=> ?_⟩
  ·show D.grow s.out s.first (rd cs (i+1))=_
   rw [h.out,e5];unfold grow;rw [D.flat_append,D.flat_append,D.flat_one,D.flat_one,List.take_left,List.drop_left,List.map_map]
   congr 1
   exact List.map_congr_left fun b _=>hD.ext_put _ _ _ _
  ·have hp:=h.pts x p;rw [y7x,z7j] at hp ⊢;have z: ¬ptG M ([]:List (Qs β)) x p:=fun ⟨_,hk,_⟩=>by cases hk
   constructor
   ·rintro (h1 | h1 | h1)
    ·obtain ⟨j,j1,j2⟩:=hp.1 (.inl h1);exact ⟨j,by omega,j2⟩
    ·simp only at h1;by_cases hx:x<g.b
     ·obtain ⟨j,j1,j2⟩:=hp.1 (.inr (.inl ⟨h1.1,hx,h1.2.2⟩));exact ⟨j,by omega,j2⟩
     ·exact ⟨i,B6 _,by omega,h1.2.1,by rw [←q3,←e2];exact h1.2.2⟩
    ·exact absurd h1 z
   ·rintro ⟨j,j1,j2,j3,j4⟩;rcases Bw (B5 j1) with rfl | j1
    ·refine .inr (.inl ⟨?_,j3,?_⟩)
     ·have:=(h.can.all g (by simp)).1;show g.a≤x;omega
     ·show ptL M.inB g.s p;rw [e2,q3];exact j4
    ·rcases hp.2 ⟨j,j1,j2,j3,j4⟩ with h1 | h1 | h1
     ·exact .inl h1
     ·exact .inr (.inl ⟨h1.1,by show x<rd cs (i+1);omega,h1.2.2⟩)
     ·exact absurd h1 z
 ·rw [q,Aa];by_cases he:sec (rd cs i)=[]
  ·rw [he];refine ⟨G,h.can,?_,fun _ g hg=> ?_,fun e=>absurd rfl e,fun x p=> ?_⟩
   ·show s.out++[].map _=_;rw [Bg,AA,h.out]
   ·by_cases hl:s.last=[]
    ·have:=h.gap hl g hg;omega
    ·obtain ⟨Gp,g',e1,e2,e3,_⟩:=h.end_ hl;subst e1;rcases AC.1 hg with hg | hg
     ·have:=h.can.before g hg;have:=(h.can.all g' (by simp)).1;omega
     ·rw [AM.1 hg];omega
   ·rw [h.pts];constructor
    ·rintro ⟨j,j1,j2⟩;exact ⟨j,by omega,j2⟩
    ·rintro ⟨j,j1,j2,j3,j4⟩;rcases Bw (B5 j1) with rfl | j1
     ·rw [he] at j4;exact absurd j4 (z4c _ _)
     ·exact ⟨j,j1,j2,j3,j4⟩
  ·have ok:OkS M (⟨rd cs i,rd cs (i+1),sec (rd cs i)⟩:Qs β):=⟨hlt,eA _,he⟩
   have hcan:z2c M (G++[⟨rd cs i,rd cs (i+1),sec (rd cs i)⟩]):=by
    rcases List.eq_nil_or_concat G with rfl | ⟨Gp,g,rfl⟩
    ·exact .one _ ok
    ·rw [List.concat_eq_append] at*;refine h.can.snoc ok ?_;by_cases hl:s.last=[]
     ·have:=h.gap hl g (by simp);exact ⟨by show g.b≤rd cs i;omega,fun e=>by simp only at e;omega⟩
     ·obtain ⟨Gp',g',e1,e2,e3,e4,_⟩:=h.end_ hl;obtain ⟨rfl,e⟩:=List.append_inj' e1 rfl;obtain rfl:g=g':=by simpa using e
      refine ⟨by show g.b≤rd cs i;omega,fun _ e=> ?_⟩;rw [Ah (show 0<(sec (rd cs i)).length from List.length_pos_iff.2 he),e4,(hs _ _).2 (e2.symm.trans e)] at q;simp at q
   refine ⟨_,hcan,?_,fun e=>absurd e he,fun _=>⟨G,_,rfl,rfl,rfl,rfl,by show s.out.length=_;rw [h.out]⟩,fun x p=> ?_⟩
   ·show s.out++_=_;rw [D.flat_append,D.flat_one,h.out]
   ·rw [y7x,z7j,h.pts];have z: ¬ptG M ([]:List (Qs β)) x p:=fun ⟨_,hk,_⟩=>by cases hk
    constructor
    ·rintro (⟨j,j1,j2⟩ | h1 | h1)
     ·exact ⟨j,by omega,j2⟩
     ·exact ⟨i,B6 _,h1⟩
     ·exact absurd h1 z
    ·rintro ⟨j,j1,j2,j3,j4⟩;rcases Bw (B5 j1) with rfl | j1
     ·exact .inr (.inl ⟨j2,j3,j4⟩)
     ·exact .inl ⟨j,j1,j2,j3,j4⟩
theorem u3t (hD:D.Fair) (hs: ∀a b,D.same a b=true↔a=b) {γ:Type} (M:Sem β γ) {sec:Int→List β} {cs:List Int} (hc:cs.Pairwise (· < ·)) (eA: ∀x,M.can (sec x)): ∀(k i:Nat) (s:Sw α β) (G:List (Qs β)),i+k<cs.length∨k=0→Inv (D:=D) M sec cs i s G→
  ∃G',Inv (D:=D) M sec cs (i+k) (D.goS sec cs k i s) G'
 | 0,i,s,G,_,h=>⟨G,h⟩
 | k+1,i,s,G,hk,h=>by obtain ⟨G1,h1⟩:=v8f hD hs M hc eA (show i+1<cs.length by omega) h;obtain ⟨G2,h2⟩:=u3t hD hs M hc eA k (i+1) _ G1 (by omega) h1;exact ⟨G2,by rw [show i+(k+1)=i+1+k by omega];exact h2⟩
theorem goS_can (hD:D.Fair) (hs: ∀a b,D.same a b=true↔a=b) {γ:Type} (M:Sem β γ) {sec:Int→List β} {cs:List Int} (hc:cs.Pairwise (· < ·)) (eA: ∀x,M.can (sec x)):
  (D.sem hD M).can (D.goS sec cs (cs.length - 1) 0 ⟨[],[],0,0⟩).out ∧ ∀x q,ptL (D.sem hD M).inB (D.goS sec cs (cs.length - 1) 0 ⟨[],[],0,0⟩).out (x,q)↔ ∃j,j+1<cs.length∧rd cs j≤x∧x<rd cs (j+1)∧ptL M.inB (sec (rd cs j)) q:=by
 obtain ⟨G,h⟩:=u3t hD hs M hc eA (cs.length - 1) 0 ⟨[],[],0,0⟩ [] (by omega) ⟨.nil,rfl,fun _ g hg=>by (cases hg),fun e=>absurd rfl e,fun x q=>⟨fun ⟨_,hg,_⟩=>(by cases hg),fun ⟨j,hj,_⟩=>absurd hj (AQ _)⟩⟩;refine ⟨⟨G,h.can,h.out⟩,fun x q=> ?_⟩;rw [h.out];rw [show ptL (D.sem hD M).inB (D.flat G) (x,q)↔ptG M G x q from flat_pt hD M G x q,h.pts];constructor
 ·rintro ⟨j,h1,h2⟩;exact ⟨j,by omega,h2⟩
 ·rintro ⟨j,h1,h2⟩;exact ⟨j,by omega,h2⟩
end Dim
open Go.Proofs Go.Sort Go.Shelf Go.RowKit Go.Lib
def y3k :Sem R2 Int where
 can:=Can
 inB s y:=s.a≤y∧y<s.b
 uniq:=u4c
 some s hs hn:=by
  cases s with
  | nil=>exact absurd rfl hn
  | cons r l=>exact ⟨r.a,r,by simp,A1 _,hs.pos r (by simp)⟩
 nil:=.nil
def Xt :Sem R4 (Int×Int):=Dim.sem y5w y3k
def x2e :Sem R6 (Int×Int×Int):=Dim.sem z3g Xt
namespace Dim
variable {α β:Type} {D:Dim α β}
theorem inn_slab (l m:List α) (hl: ∀r∈m,r∈l) {j:Nat} (hj:j+1<(D.cuts l).length) {x:Int} (h1:rd (D.cuts l) j≤x) (h2:x<rd (D.cuts l) (j+1)):D.inn m (rd (D.cuts l) j)=D.inn m x:=by
 have hc:(D.cuts l).Pairwise (· < ·):=by show (Jp (D.ends l)).Pairwise (· < ·);rw [Ja];exact (Wx _).1
 have fD: ∀r∈m,D.lo r∈D.cuts l∧D.hi r∈D.cuts l:=fun r hr=>by show D.lo r∈Jp (D.ends l)∧D.hi r∈Jp (D.ends l);rw [Ja,(Wx _).2,(Wx _).2];exact ⟨AO.2 ⟨r,hl r hr,by simp⟩,AO.2 ⟨r,hl r hr,by simp⟩⟩
 have side: ∀c,c∈D.cuts l→(c≤rd (D.cuts l) j↔c≤x):=fun c hcm=>by
  obtain ⟨i,hi,rfl⟩:=AZ hcm;rw [←Xp hi];rcases Bo j i with h | h
  ·have:rd (D.cuts l) (j+1)≤rd (D.cuts l) i:=by
    rcases Bw (show j+1≤i from h) with e | e
    ·rw [e];exact A1 _
    ·exact Int.le_of_lt (x3j hc e hi)
   have:=x3j hc (B6 j) hj;constructor <;> intro <;> omega
  ·have:rd (D.cuts l) i≤rd (D.cuts l) j:=by
    rcases Bw h with e | e
    ·rw [e];exact A1 _
    ·exact Int.le_of_lt (x3j hc e (by omega))
   constructor <;> intro <;> omega
 unfold inn
 congr 1
 refine List.filter_congr fun r hr=> ?_;obtain ⟨m1,m2⟩:=fD r hr;have s1:=side _ m1;have s2:=side _ m2;have e1:decide (D.lo r≤rd (D.cuts l) j)=decide (D.lo r≤x):=BF.2 s1;have e2:decide (rd (D.cuts l) j<D.hi r)=decide (x<D.hi r):=BF.2 (by constructor <;> intro <;> omega);rw [e1,e2]
theorem inn_out (l m:List α) (hl: ∀r∈m,r∈l) {x:Int} (h: ∀j,j+1<(D.cuts l).length → ¬(rd (D.cuts l) j≤x∧x<rd (D.cuts l) (j+1))):D.inn m x=[]:=by
 unfold inn;rw [Cl,BG];intro r hr hb;simp only [Ac,Aq] at hb;have fD:D.lo r∈D.cuts l∧D.hi r∈D.cuts l:=by show D.lo r∈Jp (D.ends l)∧D.hi r∈Jp (D.ends l);rw [Ja,(Wx _).2,(Wx _).2];exact ⟨AO.2 ⟨r,hl r hr,by simp⟩,AO.2 ⟨r,hl r hr,by simp⟩⟩
 have hc:(D.cuts l).Pairwise (· < ·):=by show (Jp (D.ends l)).Pairwise (· < ·);rw [Ja];exact (Wx _).1
 obtain ⟨i,hi,e1⟩:=AZ fD.1;obtain ⟨k,hk,e2⟩:=AZ fD.2;rw [←Xp hi] at e1;rw [←Xp hk] at e2;have h0:rd (D.cuts l) 0≤rd (D.cuts l) i:=by
  rcases Bw (AJ i) with e | e
  ·rw [←e];exact A1 _
  ·exact Int.le_of_lt (x3j hc e hi)
 obtain ⟨j,j1,j2,j3⟩:=v3l k hk x (by omega) (by omega);exact h j (by omega) ⟨j2,j3⟩
theorem goJ_can (hD:D.Fair) (hs: ∀a b,D.same a b=true↔a=b) {γ:Type} (M:Sem β γ) (a b:List α) (J:List β→List β→List β) (hJ: ∀x,M.can (J (D.inn a x) (D.inn b x))) (h0:J [] []=[]):
  (D.sem hD M).can (D.goS (fun x=>J (D.inn a x) (D.inn b x)) (D.cuts (a++b)) ((D.cuts (a++b)).length - 1) 0 ⟨[],[],0,0⟩).out ∧
  ∀x q,ptL (D.sem hD M).inB (D.goS (fun x=>J (D.inn a x) (D.inn b x)) (D.cuts (a++b)) ((D.cuts (a++b)).length - 1) 0 ⟨[],[],0,0⟩).out (x,q)↔ptL M.inB (J (D.inn a x) (D.inn b x)) q:=by
 have hc:(D.cuts (a++b)).Pairwise (· < ·):=by show (Jp (D.ends (a++b))).Pairwise (· < ·);rw [Ja];exact (Wx _).1
 obtain ⟨h1,h2⟩:=goS_can hD hs M (cs:=D.cuts (a++b)) hc hJ;refine ⟨h1,fun x q=> ?_⟩;rw [h2];constructor
 ·rintro ⟨j,j1,j2,j3,j4⟩;rwa [inn_slab (a++b) a (fun r hr=>AC.2 (.inl hr)) j1 j2 j3,inn_slab (a++b) b (fun r hr=>AC.2 (.inr hr)) j1 j2 j3] at j4
 ·intro hp;by_cases hx: ∃j,j+1<(D.cuts (a++b)).length ∧rd (D.cuts (a++b)) j≤x∧x<rd (D.cuts (a++b)) (j+1)
  ·obtain ⟨j,j1,j2,j3⟩:=hx;refine ⟨j,j1,j2,j3,?_⟩;rwa [inn_slab (a++b) a (fun r hr=>AC.2 (.inl hr)) j1 j2 j3,inn_slab (a++b) b (fun r hr=>AC.2 (.inr hr)) j1 j2 j3]
  ·have hx': ∀j,j+1<(D.cuts (a++b)).length → ¬(rd (D.cuts (a++b)) j≤x∧x<rd (D.cuts (a++b)) (j+1)):=fun j j1 j2=>hx ⟨j,j1,j2⟩;rw [inn_out (a++b) a (fun r hr=>AC.2 (.inl hr)) hx',inn_out (a++b) b (fun r hr=>AC.2 (.inr hr)) hx',h0] at hp;exact absurd hp (z4c _ _)
theorem pt_inn {γ:Type} (inB:β→γ→Prop) (l:List α) (x:Int) (q:γ):ptL inB (D.inn l x) q↔ptL (D.inA inB) l (x,q):=by
 constructor
 ·rintro ⟨b,hb,h⟩;obtain ⟨r,hr,rfl⟩:=AN.1 hb;obtain ⟨h1,h2⟩:=A0.1 hr;simp only [Ac,Aq] at h2;exact ⟨r,h1,h2.1,h2.2,h⟩
 ·rintro ⟨r,hr,h1,h2,h3⟩;refine ⟨D.pr r,AN.2 ⟨r,A0.2 ⟨hr,?_⟩,rfl⟩,h3⟩;simp only [Ac,Aq];exact ⟨h1,h2⟩
theorem out_goJ (l:List α):D.out l=(D.goS (fun x=>D.mak (D.inn l x)) (D.cuts (l++[])) ((D.cuts (l++[])).length - 1) 0 ⟨[],[],0,0⟩).out :=by rw [AA];unfold out;rw [go_goS];rfl
end Dim
theorem x2g (a b:List R4):D6.same a b=true↔a=b:=decide_eq_true_iff
theorem x2h (a b:List R2):D4.same a b=true↔a=b:=decide_eq_true_iff
theorem Vk {l:List R4} (h: ∀r∈l,Vp r=true) (x:Int):(D4.inn l x).all z1j=true:=As.2 fun s hs=>by obtain ⟨r,hr,_,_,rfl⟩:=u8b hs;have:=h r hr;simp only [Vp,z1j,Ac,Aq] at this ⊢;omega
theorem w7r {l:List R2} (hv:l.all z1j=true) (hl:l.length≤400):y3k.can (Xr l)∧ ∀y,ptL y3k.inB (Xr l) y↔ptL y3k.inB l y:=by
 obtain ⟨c1,c2⟩:=w7k l hv;have e:Xr l=swV l:=by unfold Xr;rw [Ay (by omega),hv];rfl
 rw [e];exact ⟨c1,c2⟩
theorem z1s {β γ:Type} (M:Sem β γ) {l:List β} (h:M.can l) (hp: ∀q,¬ptL M.inB l q):l=[]:=AP fun hn=>by obtain ⟨q,hq⟩:=M.some l h hn;exact hp q hq
theorem u4v :Xr []=[]:=by obtain ⟨h1,h2⟩:=w7r (l:=[]) rfl (AJ _);exact z1s y3k h1 fun q hq=>z4c _ _ ((h2 q).1 hq)
theorem Dim.out_nil {α β:Type} (D:Dim α β):D.out []=[]:=by
 have h:(D.cuts []).length ≤2*0:=D.cuts_length [];have e:(D.cuts []).length - 1=0:=by omega
 unfold Dim.out;rw [e];rfl
theorem u6i :Zb []=[]:=by unfold Zb;rw [Dim.out_nil];cases decide (400<([]:List R4).length) <;> cases ([]:List R4).all Vp <;> rfl
theorem Km {l:List R4} (hv: ∀r∈l,Vp r=true) (hl:l.length≤400):Xt.can (D4.out l)∧ ∀p,ptL Xt.inB (D4.out l) p↔ptL Xt.inB l p:=by rw [Dim.out_goJ];have hs: ∀x,y3k.can (D4.mak (D4.inn l x))∧ ∀y,ptL y3k.inB (D4.mak (D4.inn l x)) y↔ptL y3k.inB (D4.inn l x) y:=fun x=>w7r (Vk hv x) (AF (D4.inn_length l x) hl);obtain ⟨h1,h2⟩:=Dim.goJ_can y5w x2h y3k l [] (fun s _=>D4.mak s) (fun x=>(hs x).1) u4v;refine ⟨h1,fun ⟨x,y⟩=> ?_⟩;rw [show ptL Xt.inB _ (x,y)↔_ from h2 x y,(hs x).2,Dim.pt_inn];rfl
theorem y5i {l:List R6} (hv: ∀r∈l,Qu r=true) (z:Int): ∀r∈D6.inn l z,Vp r=true:=fun r hr=>by
 obtain ⟨s,hs,rfl⟩:=AN.1 hr;have:=z6u (hv s (A0.1 hs).1);show Vp ⟨s.a,s.b,s.d,s.e⟩=true;simp only [Vp,Ac,Aq]
 (repeat' apply And.intro) <;> omega
def Secs (l:List R6):Prop:= ∀z,(D4.out (D6.inn l z)).length ≤400
theorem z7d {l:List R4} (hv: ∀r∈l,Vp r=true) (hl:l.length≤400) (h:(D4.out l).length ≤400):Zb l=D4.out l∧Xm l=0:=by have hv':l.all Vp=true:=As.2 hv;unfold Zb Xm;rw [Ay (by omega),hv',Ay (by omega)];exact ⟨rfl,rfl⟩
theorem u4y {l:List R6} (hv: ∀r∈l,Qu r=true) (hl:l.length≤400) (hs:Secs l):x2e.can (D6.out l)∧ ∀p,ptL x2e.inB (D6.out l) p↔ptL x2e.inB l p:=by
 rw [Dim.out_goJ];have hq: ∀z,Xt.can (D6.mak (D6.inn l z))∧ ∀p,ptL Xt.inB (D6.mak (D6.inn l z)) p↔ptL Xt.inB (D6.inn l z) p:=fun z=>by show Xt.can (Zb (D6.inn l z))∧ ∀p,ptL Xt.inB (Zb (D6.inn l z)) p↔_;rw [(z7d (y5i hv z) (AF (D6.inn_length l z) hl) (hs z)).1];exact Km (y5i hv z) (AF (D6.inn_length l z) hl)
 obtain ⟨h1,h2⟩:=Dim.goJ_can z3g x2g Xt l [] (fun s _=>D6.mak s) (fun x=>(hq x).1) u6i;refine ⟨h1,fun ⟨z,p⟩=> ?_⟩;rw [show ptL x2e.inB _ (z,p)↔_ from h2 z p,(hq z).2,Dim.pt_inn];rfl
open Go.Proofs Go.Sort Go.Shelf Go.RowKit Go.Lib
def opB (k:Nat) (a b:Bool):Bool:=match k with
 | 0=>a||b
 | 1=>a&&b
 | _=>a&& !b
theorem opB_ff (k:Nat):opB k false false=false:=by
 match k with
 | 0=>rfl
 | 1=>rfl
 | _+2=>rfl
def Wm (i:Int) (l:List R2):List R3:=l.flatMap fun s=>[⟨s.a,i,1⟩,⟨s.b,i,-1⟩]
def z4y (i:Int) (E:List R3) (y:Int):Int:=(E.map fun e=>if e.b=i∧e.a≤y then e.c else 0).sum
theorem Uz (i:Int) (e:R3) (E:List R3) (y:Int):z4y i (e::E) y=(if e.b=i∧e.a≤y then e.c else 0)+z4y i E y:=by simp [z4y]
theorem y3x (i:Int) (E F:List R3) (y:Int):z4y i (E++F) y=z4y i E y+z4y i F y:=by simp [z4y]
theorem x3d (i:Int) {E F:List R3} (h:E.Perm F) (y:Int):z4y i E y=z4y i F y:=by
 induction h with
 | nil=>rfl
 | cons e _ ih=>rw [Uz,Uz,ih]
 | swap a b l=>simp only [Uz];omega
 | trans _ _ i1 i2=>rw [i1,i2]
theorem v0i (i:Int) (E:List R3) (y:Int) (h: ∀e∈E,y<e.a):z4y i E y=0:=by
 induction E with
 | nil=>rfl
 | cons e E ih=>rw [Uz,At (by have:=h e (by simp);omega),ih fun f hf=>h f (by simp [hf])];rfl
theorem x3e (i:Int) (l:List R2) (hv: ∀s∈l,s.a<s.b) (y:Int):0≤z4y i (Wm i l) y∧(0<z4y i (Wm i l) y↔pt l y):=by
 induction l with
 | nil=>exact ⟨A1 _,by simp [z4y,Wm,pt]⟩
 | cons s l ih=>
  obtain ⟨i1,i2⟩:=ih fun t ht=>hv t (by simp [ht]);have hs:=hv s (by simp);have e:z4y i (Wm i (s::l)) y=(if s.a≤y∧y<s.b then 1 else 0)+z4y i (Wm i l) y:=by
   show z4y i (⟨s.a,i,1⟩::⟨s.b,i,-1⟩::Wm i l) y=_;rw [Uz,Uz];show (if i=i∧s.a≤y then (1:Int) else 0)+((if i=i∧s.b≤y then (-1:Int) else 0)+z4y i (Wm i l) y)=_;by_cases h1:s.a≤y
   ·by_cases h2:s.b≤y
    ·rw [Aw ⟨rfl,h1⟩,Aw ⟨rfl,h2⟩,At (show¬(s.a≤y∧y<s.b) by omega)];omega
    ·rw [Aw ⟨rfl,h1⟩,At (fun h=>h2 h.2),Aw (show s.a≤y∧y<s.b by omega)];omega
   ·rw [At (fun h=>h1 h.2),At (fun h=>by have:=h.2;omega),At (show¬(s.a≤y∧y<s.b) by omega)];omega
  rw [e];by_cases h:s.a≤y∧y<s.b
  ·rw [Aw h];exact ⟨by omega,⟨fun _=>⟨s,by simp,h⟩,fun _=>by omega⟩⟩
  ·rw [At h];refine ⟨by omega,?_⟩;rw [Ce,i2];constructor
   ·rintro ⟨t,ht,h2⟩;exact ⟨t,by simp [ht],h2⟩
   ·rintro ⟨t,ht,h2⟩;rcases AB.1 ht with rfl | ht
    ·exact absurd h2 h
    ·exact ⟨t,ht,h2⟩
theorem y8c (i j:Int) (hij:i≠j) (l:List R2) (y:Int):z4y i (Wm j l) y=0:=by
 induction l with
 | nil=>rfl
 | cons s l ih=>show z4y i (⟨s.a,j,1⟩::⟨s.b,j,-1⟩::Wm j l) y=0;rw [Uz,Uz,At (fun h=>hij h.1.symm),At (fun h=>hij h.1.symm),ih];rfl
def sw2 (f:Bool→Bool→Bool):List R3→Int→Int→Int→Bool→List R2→List R2
 | [],_,_,_,_,out=>out
 | e::r,o,p,last,inn,out=>
  sw2 f r (bif e.b == 0 then o+e.c else o) (bif e.b == 0 then p else p+e.c) e.a (f (decide ((bif e.b == 0 then o+e.c else o)>0)) (decide ((bif e.b == 0 then p else p+e.c)>0))) (Vf out last inn e.a)
def Two (E:List R3):Prop:= ∀e∈E,e.b=0∨e.b=1
theorem w7m (f:Bool→Bool→Bool): ∀(E:List R3) (o p last:Int) (out:List R2),Asc E→Two E→(∀e∈E,last≤e.a)→Can out→(∀s∈out,s.b≤last)→
  Can (sw2 f E o p last (f (decide (o>0)) (decide (p>0))) out)∧ ∀y,pt (sw2 f E o p last (f (decide (o>0)) (decide (p>0))) out) y↔pt out y∨(last≤y∧f (decide (o+z4y 0 E y>0)) (decide (p+z4y 1 E y>0))=true∧ ∃e∈E,y<e.a)
 | [],o,p,last,out,_,_,_,hc,_=>⟨hc,fun y=>⟨.inl,fun h=>h.elim id fun ⟨_,_,e,he,_⟩=>by cases he⟩⟩
 | e ::r,o,p,last,out,hE,ht,hl,hc,hb=>by
  have he:=hl e (by simp);have hr:=AR.1 hE;obtain ⟨p1,p2,p3⟩:=y9a (f (decide (o>0)) (decide (p>0))) hc hb he;have hz: ∀y,y<e.a→ ∀i,z4y i (e::r) y=0:=fun y hy i=>v0i i _ _ fun g hg=>by
   rcases AB.1 hg with rfl | hg
   ·exact hy
   ·have:=hr.1 g hg;omega
  have main: ∀(o' p':Int),(∀y,e.a≤y→o'+z4y 0 r y=o+z4y 0 (e::r) y∧p'+z4y 1 r y=p+z4y 1 (e::r) y)→
    Can (sw2 f r o' p' e.a (f (decide (o'>0)) (decide (p'>0))) (Vf out last (f (decide (o>0)) (decide (p>0))) e.a))∧
    ∀y,pt (sw2 f r o' p' e.a (f (decide (o'>0)) (decide (p'>0))) (Vf out last (f (decide (o>0)) (decide (p>0))) e.a)) y↔pt out y∨(last≤y∧f (decide (o+z4y 0 (e::r) y>0)) (decide (p+z4y 1 (e::r) y>0))=true∧ ∃g∈e::r,y<g.a):=fun o' p' hop=>by
   obtain ⟨q1,q2⟩:=w7m f r o' p' e.a (Vf out last (f (decide (o>0)) (decide (p>0))) e.a) hr.2 (fun g hg=>ht g (by simp [hg])) hr.1 p1 p2;refine ⟨q1,fun y=> ?_⟩;rw [q2,p3];constructor
   ·rintro ((h | ⟨h1,h2,h3⟩) | ⟨h1,h2,g,hg,h3⟩)
    ·exact .inl h
    ·refine .inr ⟨h2,?_,e,by simp,h3⟩;rw [hz y h3,hz y h3,Bp,Bp];exact h1
    ·refine .inr ⟨by omega,?_,g,by simp [hg],h3⟩;obtain ⟨e1,e2⟩:=hop y h1;rw [←e1,←e2];exact h2
   ·rintro (h | ⟨h1,h2,g,hg,h3⟩)
    ·exact .inl (.inl h)
    ·by_cases hy:e.a≤y
     ·right;obtain ⟨e1,e2⟩:=hop y hy;refine ⟨hy,by rw [e1,e2];exact h2,g,?_,h3⟩;rcases AB.1 hg with rfl | hg
      ·omega
      ·exact hg
     ·left;right;rw [hz y (by omega),hz y (by omega),Bp,Bp] at h2;exact ⟨h2,h1,by omega⟩
  show Can (sw2 f r _ _ _ _ _)∧ ∀y,pt (sw2 f r _ _ _ _ _) y↔_;rcases ht e (by simp) with h0 | h0
  ·have hb0:(e.b == 0)=true:=by rw [h0];rfl
   rw [hb0,Ab,Ab];refine main _ _ fun y hy=>⟨?_,?_⟩
   ·rw [Uz,Aw ⟨h0,hy⟩];omega
   ·rw [Uz,At (fun h=>by have:=h.1;omega)];omega
  ·have hb0:(e.b == 0)=false:=by rw [h0];rfl
   rw [hb0,Aa,Aa];refine main _ _ fun y hy=>⟨?_,?_⟩
   ·rw [Uz,At (fun h=>by have:=h.1;omega)];omega
   ·rw [Uz,Aw ⟨h0,hy⟩];omega
instance ptDec (l:List R2) (y:Int):Decidable (pt l y):=Classical.propDecidable _
theorem u4r (f:Bool→Bool→Bool) (hf:f false false=false) (a b:List R2) (ha: ∀s∈a,s.a<s.b) (hb: ∀s∈b,s.a<s.b) (E:List R3) (hp:E.Perm (Wm 0 a++Wm 1 b)) (hE:Asc E):
  Can (sw2 f E 0 0 0 false [])∧ ∀y,pt (sw2 f E 0 0 0 false []) y↔f (decide (pt a y)) (decide (pt b y))=true:=by
 have hn: ∀y,z4y 0 E y=z4y 0 (Wm 0 a) y∧z4y 1 E y=z4y 1 (Wm 1 b) y:=fun y=>by rw [x3d 0 hp,x3d 1 hp,y3x,y3x,y8c 0 1 (by decide),y8c 1 0 (by decide)];omega
 have hd: ∀y,decide (z4y 0 E y>0)=decide (pt a y)∧decide (z4y 1 E y>0)=decide (pt b y):=fun y=>by obtain ⟨e1,e2⟩:=hn y;exact ⟨BF.2 (by rw [e1];exact (x3e 0 a ha y).2),BF.2 (by rw [e2];exact (x3e 1 b hb y).2)⟩
 have ht:Two E:=fun e he=>by
  rcases AC.1 (hp.mem_iff.1 he) with h | h
  ·obtain ⟨s,_,h⟩:=AO.1 h;simp only [AB,Bm,Ca] at h;rcases h with rfl | rfl <;> exact .inl rfl
  ·obtain ⟨s,_,h⟩:=AO.1 h;simp only [AB,Bm,Ca] at h;rcases h with rfl | rfl <;> exact .inr rfl
 have cover: ∀y,f (decide (pt a y)) (decide (pt b y))=true→ ∃e∈E,y<e.a∧ ∃g∈E,g.a≤y:=fun y hy=>by
  by_cases h1:pt a y
  ·obtain ⟨s,hs,s1,s2⟩:=h1;exact ⟨⟨s.b,0,-1⟩,hp.mem_iff.2 (AC.2 (.inl (AO.2 ⟨s,hs,by simp⟩))),s2,⟨s.a,0,1⟩,hp.mem_iff.2 (AC.2 (.inl (AO.2 ⟨s,hs,by simp⟩))),s1⟩
  ·by_cases h2:pt b y
   ·obtain ⟨s,hs,s1,s2⟩:=h2;exact ⟨⟨s.b,1,-1⟩,hp.mem_iff.2 (AC.2 (.inr (AO.2 ⟨s,hs,by simp⟩))),s2,⟨s.a,1,1⟩,hp.mem_iff.2 (AC.2 (.inr (AO.2 ⟨s,hs,by simp⟩))),s1⟩
   ·rw [Ay h1,Ay h2,hf] at hy;cases hy
 cases E with
 | nil=>refine ⟨.nil,fun y=>⟨fun ⟨s,hs,_⟩=>(by cases hs),fun hy=> ?_⟩⟩;obtain ⟨e,he,_⟩:=cover y hy;cases he
 | cons e r=>
  have hr:=AR.1 hE;have hz0:f (decide ((0:Int)>0)) (decide ((0:Int)>0))=false:=hf;have e0:sw2 f (e::r) 0 0 0 false []=sw2 f (e::r) 0 0 e.a (f (decide ((0:Int)>0)) (decide ((0:Int)>0))) []:=by rw [hz0];show sw2 f r _ _ _ _ (Vf [] 0 false e.a)=sw2 f r _ _ _ _ (Vf [] e.a false e.a);rfl
  rw [e0];obtain ⟨q1,q2⟩:=w7m f (e::r) 0 0 e.a [] hE ht (fun g hg=>by
   rcases AB.1 hg with rfl | hg
   ·exact A1 _
   ·exact hr.1 g hg) .nil (by simp)
  refine ⟨q1,fun y=> ?_⟩;rw [q2,Ce,Ce,(hd y).1,(hd y).2];constructor
  ·rintro (⟨s,hs,_⟩ | ⟨_,h2,_⟩)
   ·cases hs
   ·exact h2
  ·intro hy;obtain ⟨g,hg,h1,k,hk,h2⟩:=cover y hy;refine .inr ⟨?_,hy,g,hg,h1⟩;rcases AB.1 hk with rfl | hk
   ·exact h2
   ·have h3:e.a≤k.a:=hr.1 k hk;omega
def tri :Nat→Nat
 | 0=>0
 | k+1=>tri k+k
theorem w7j : ∀n,tri (n+1)+tri n=n*n
 | 0=>rfl
 | n+1=>by have:=w7j n;show tri (n+1)+(n+1)+(tri n+n)=(n+1)*(n+1);rw [AT,Nat.mul_add];omega
def hat (n:Nat):Nat→Nat
 | 0=>0
 | v+1=>hat n v+min v (2*n - v)
theorem v1u (n:Nat): ∀v,v≤n+1→hat n v=tri v
 | 0,_=>rfl
 | v+1,h=>by show hat n v+min v (2*n - v)=tri v+v;rw [v1u n v (by omega)];omega
theorem y2o (n:Nat): ∀j,j≤n→hat n (n+1+j)+tri (n - j)=n*n
 | 0,_=>by rw [A4,v1u n _ (An _)];exact w7j n
 | j+1,h=>by
  have:=y2o n j (by omega);show hat n (n+1+j)+min (n+1+j) (2*n - (n+1+j))+tri (n - (j+1))=_;have e:tri (n - j)=tri (n - (j+1))+(n - (j+1)):=by rw [show n - j=(n - (j+1))+1 by omega];rfl
  omega
theorem hat_le (n v:Nat):hat n v≤n*n:=by
 by_cases h1:v≤2*n+1
 ·by_cases h2:v≤n+1
  ·have h3:=y2o n 0 (AJ _);have mono: ∀k v,hat n v≤hat n (v+k):=fun k v=>by
    induction k with
    | zero=>exact An _
    | succ k ih=>exact AF ih (BE _ _)
   have:=mono (n+1 - v) v;rw [show v+(n+1 - v)=n+1+0 by omega] at this;omega
  ·have:=y2o n (v - (n+1)) (by omega);rw [show n+1+(v - (n+1))=v by omega] at this;omega
 ·have h3:hat n (2*n+1)≤n*n:=by have:=y2o n n (An _);rw [show n+1+n=2*n+1 by omega] at this;omega
  have: ∀k,hat n (2*n+1+k)=hat n (2*n+1):=fun k=>by
   induction k with
   | zero=>rfl
   | succ k ih=>show hat n (2*n+1+k)+min (2*n+1+k) (2*n - (2*n+1+k))=_;rw [ih];omega
  have h4:=this (v - (2*n+1));rw [show 2*n+1+(v - (2*n+1))=v by omega] at h4;omega
theorem w2d (n:Nat) (E:Nat→Nat): ∀k,(∀i,i+1<k→E i<E (i+1))→((List.range k).map fun i=>min (E i) (2*n - E i)).sum ≤(match k with | 0=>0 | k+1=>hat n (E k+1))
 | 0,_=>An _
 | k+1,h=>by
  rw [Cf,Bq,BW];have ih:=w2d n E k fun i hi=>h i (by omega);have mono: ∀k v,hat n v≤hat n (v+k):=fun k v=>by
   induction k with
   | zero=>exact An _
   | succ k ih=>exact AF ih (BE _ _)
  simp only [AW,Bg,Bf,List.sum_nil,A4];show _≤hat n (E k)+min (E k) (2*n - E k);cases k with
  | zero=>simp only [List.range_zero,Bg,List.sum_nil];omega
  | succ k=>have h1:=h k (by omega);have h2:=mono (E (k+1) - (E k+1)) (E k+1);rw [show E k+1+(E (k+1) - (E k+1))=E (k+1) by omega] at h2;simp only at ih;omega
def x4y (p:Int→Bool) (l:List Int):Nat:=(l.filter p).length
theorem z1z (p:Int→Bool) (x:Int) (l:List Int):x4y p (x::l)=(if p x=true then 1 else 0)+x4y p l:=by
 unfold x4y;rw [A9];split
 ·simp;omega
 ·simp
theorem j0h (p:Int→Bool) (l:List Int):x4y p l≤l.length:=BN _ _
theorem v3d {p q:Int→Bool} (h: ∀x,p x=true→q x=true) (l:List Int):x4y p l≤x4y q l:=by
 induction l with
 | nil=>exact An _
 | cons x l ih=>
  rw [z1z,z1z];by_cases h1:p x=true
  ·rw [Aw h1,Aw (h x h1)];omega
  ·rw [At h1];omega
theorem j0g {p q:Int→Bool} (h: ∀x,p x=true→q x=true) {l:List Int} {y:Int} (hy:y∈l) (hq:q y=true) (hp:p y=false):x4y p l<x4y q l:=by
 induction l with
 | nil=>cases hy
 | cons x l ih=>
  rw [z1z,z1z];rcases AB.1 hy with rfl | hy
  ·have:=v3d h l;rw [hp,hq];simp;omega
  ·have:=ih hy;by_cases h1:p x=true
   ·rw [Aw h1,Aw (h x h1)];omega
   ·rw [At h1];omega
namespace Dim
variable {α β:Type} {D:Dim α β}
theorem inn_min (l:List α) (x:Int) (hv: ∀r∈l,D.lo r<D.hi r):(D.inn l x).length ≤min (x4y (fun y=>decide (y≤x)) (D.ends l)) (2*l.length - x4y (fun y=>decide (y≤x)) (D.ends l)):=by
 induction l with
 | nil=>exact AJ _
 | cons r l ih=>
  have ih:=ih fun s hs=>hv s (by simp [hs]);have hr:=hv r (by simp);have hc:=j0h (fun y=>decide (y≤x)) (D.ends l);rw [D.ends_length] at hc;have e:x4y (fun y=>decide (y≤x)) (D.ends (r::l))=(if D.lo r≤x then 1 else 0)+((if D.hi r≤x then 1 else 0)+x4y (fun y=>decide (y≤x)) (D.ends l)):=by show x4y _ (D.lo r::D.hi r::D.ends l)=_;rw [z1z,z1z];simp only [Aq]
  have e2:(D.inn (r::l) x).length =(if D.lo r≤x∧x<D.hi r then 1 else 0)+(D.inn l x).length :=by
   unfold inn;rw [A9];by_cases h:D.lo r≤x∧x<D.hi r
   ·rw [Aw (by simp [h.1,h.2]),Aw h];simp;omega
   ·rw [At (by simp;intro h1;exact Int.not_lt.1 fun h2=>h ⟨h1,h2⟩),At h,Ag]
  rw [e,e2,AV];by_cases h1:D.lo r≤x <;> by_cases h2:D.hi r≤x
  ·rw [Aw h1,Aw h2,At (by omega)];omega
  ·rw [Aw h1,At h2,Aw (by omega)];omega
  ·omega
  ·rw [At h1,At h2,At (by omega)];omega
theorem open_sum (l:List α) (hv: ∀r∈l,D.lo r<D.hi r): ∀k,k≤(D.cuts l).length →((List.range k).map fun i=>(D.inn l (rd (D.cuts l) i)).length).sum ≤l.length*l.length:=fun k hk=>by
 have hc:(D.cuts l).Pairwise (· < ·):=by show (Jp (D.ends l)).Pairwise (· < ·);rw [Ja];exact (Wx _).1
 have hm: ∀i,i<(D.cuts l).length →rd (D.cuts l) i∈D.ends l:=fun i hi=>by
  have:rd (D.cuts l) i∈Jp (D.ends l):=by rw [Xp hi];exact AS hi
  rw [Ja,(Wx _).2] at this;exact this
 have h1:((List.range k).map fun i=>(D.inn l (rd (D.cuts l) i)).length).sum ≤((List.range k).map fun i=>min (x4y (fun y=>decide (y≤rd (D.cuts l) i)) (D.ends l)) (2*l.length - x4y (fun y=>decide (y≤rd (D.cuts l) i)) (D.ends l))).sum :=by
  induction k with
  | zero=>exact An _
  | succ k ih=>rw [Cf,Bq,Bq,BW,BW];have:=ih (by omega);have h2:=D.inn_min l (rd (D.cuts l) k) hv;simp only [AW,Bg,Bf,List.sum_nil];omega
 refine AF h1 ?_;have h2:=w2d l.length (fun i=>x4y (fun y=>decide (y≤rd (D.cuts l) i)) (D.ends l)) k fun i hi=>by have hlt:=x3j hc (show i<i+1 by omega) (show i+1<_ by omega);refine j0g (fun x hx=> ?_) (hm (i+1) (by omega)) (Ah (A1 _)) (Ay (by omega));have:=AE hx;exact Ah (by omega)
 refine AF h2 ?_;cases k with
 | zero=>exact AJ _
 | succ k=>exact hat_le _ _
theorem goS_length (sec:Int→List β) (cs:List Int): ∀(k i:Nat) (s:Sw α β),(D.goS sec cs k i s).out.length ≤s.out.length+((List.range k).map fun j=>(sec (rd cs (i+j))).length).sum
 | 0,i,s=>An _
 | k+1,i,s=>by
  have h1:=goS_length sec cs k (i+1) (D.oneS (sec (rd cs i)) (rd cs i) (rd cs (i+1)) s);have h2:(D.oneS (sec (rd cs i)) (rd cs i) (rd cs (i+1)) s).out.length ≤s.out.length+(sec (rd cs i)).length :=by
   unfold oneS;cases (decide (0<(sec (rd cs i)).length)&&((s.fin == rd cs i)&&D.same s.last (sec (rd cs i)))) with
   | true=>rw [Ab,D.grow_length];omega
   | false=>rw [Aa];simp
  rw [List.range_succ_eq_map,AW,List.map_map,Bf,show rd cs (i+0)=rd cs i from rfl];have e:((fun j=>(sec (rd cs (i+j))).length)∘Nat.succ)=fun j=>(sec (rd cs (i+1+j))).length :=by
   funext j;simp only [Function.comp];rw [show i+j.succ=i+1+j by omega]
  rw [e];show (D.goS sec cs k (i+1) _).out.length ≤_;omega
theorem goJ_length (a b:List α) (J:List β→List β→List β) (hJ: ∀x,(J (D.inn a x) (D.inn b x)).length ≤(D.inn a x).length +(D.inn b x).length) (hv: ∀r∈a++b,D.lo r<D.hi r):
  (D.goS (fun x=>J (D.inn a x) (D.inn b x)) (D.cuts (a++b)) ((D.cuts (a++b)).length - 1) 0 ⟨[],[],0,0⟩).out.length ≤(a.length+b.length)*(a.length+b.length):=by
 have h1:=D.goS_length (fun x=>J (D.inn a x) (D.inn b x)) (D.cuts (a++b)) ((D.cuts (a++b)).length - 1) 0 ⟨[],[],0,0⟩;have h2:=D.open_sum (a++b) hv ((D.cuts (a++b)).length - 1) (Nat.sub_le _ _);rw [Az] at h2;refine AF h1 (AF ?_ h2);simp only [BV,Ag];generalize (D.cuts (a++b)).length - 1=k
 induction k with
 | zero=>exact An _
 | succ k ih=>rw [Cf,Bq,Bq,BW,BW];have:=hJ (rd (D.cuts (a++b)) k);simp only [AW,Bg,Bf,List.sum_nil];rw [D.inn_append,Az];omega
end Dim
open Go.Proofs Go.Sort Go.Shelf Go.RowKit Go.Lib
def spJ (k:Nat) (a b:List R2):List R2:=sw2 (opB k) (z0q (Wm 0 a++Wm 1 b)) 0 0 0 false []
theorem z8c (i:Int) (l:List R2) (hv:l.all z1j=true):y0x (Wm i l)=true:=As.2 fun e he=>by obtain ⟨s,hs,h1⟩:=AO.1 he;have hv:=As.1 hv s hs;simp only [z1j,Ac,Aq] at hv;simp only [AB,Bm,Ca] at h1;rcases h1 with rfl | rfl <;> exact Ah (by simp only;omega)
theorem w0b {l:List R2} (hv:l.all z1j=true): ∀s∈l,s.a<s.b:=fun s hs=>by have:=As.1 hv s hs;simp only [z1j,Ac,Aq] at this;exact this.1
theorem z8r (k:Nat) {a b:List R2} (ha:a.all z1j=true) (hb:b.all z1j=true):y3k.can (spJ k a b)∧ ∀y,ptL y3k.inB (spJ k a b) y↔opB k (decide (pt a y)) (decide (pt b y))=true:=by
 have hbnd:y0x (Wm 0 a++Wm 1 b)=true:=by have h1:=z8c 0 a ha;have h2:=z8c 1 b hb;unfold y0x at*;rw [List.all_append,h1,h2];rfl
 obtain ⟨hp,_⟩:=Kn _ hbnd;exact u4r (opB k) (opB_ff k) a b (w0b ha) (w0b hb) _ hp (w0f _ hbnd)
theorem w0x : ∀(l S:List Int),l.Pairwise (· < ·)→(∀x∈l,x∈S)→l.length≤S.length
 | [],S,_,_=>AJ _
 | x::l,S,h,hs=>by obtain ⟨h1,h2⟩:=AR.1 h;have hx:=hs x (by simp);have:=w0x l (S.erase x) h2 fun y hy=>(List.mem_erase_of_ne (by have:=h1 y hy;omega)).2 (hs y (by simp [hy]));rw [List.length_erase_of_mem hx] at this;have:=List.length_pos_of_mem hx;simp only [AV];omega
def z9q (L:List R2):List Int:=L.flatMap fun s=>[s.a,s.b]
theorem z1c (L:List R2):(z9q L).length =2*L.length:=by
 induction L with
 | nil=>rfl
 | cons r l ih=>show (_::_::z9q l).length =_;simp only [AV,ih];omega
theorem y5f {L:List R2} (h:Can L):(z9q L).Pairwise (· < ·):=by
 induction L with
 | nil=>exact .nil
 | cons s L ih=>
  have hp:=h.pos s (by simp);have hn: ∀y∈z9q L,s.b<y:=fun y hy=>by obtain ⟨t,ht,h1⟩:=AO.1 hy;have:=h.head t ht;have:=h.pos t (by simp [ht]);simp only [AB,Bm,Ca] at h1;omega
  show (s.a::s.b::z9q L).Pairwise (· < ·);refine AR.2 ⟨fun y hy=> ?_,AR.2 ⟨hn,ih h.tail⟩⟩;rcases AB.1 hy with rfl | hy
  ·exact hp
  ·have:=hn y hy;omega
theorem w6j {L:List R2} (h:Can L) (S:List Int) (hS: ∀y,y ∉ S→(pt L (y - 1)↔pt L y)):2*L.length≤S.length:=by
 rw [←z1c];refine w0x _ S (y5f h) fun y hy=>AP fun hn=> ?_;obtain ⟨s,hs,h1⟩:=AO.1 hy;have hp:=h.pos s hs;have sepL: ∀t∈L,t=s∨t.b<s.a∨s.b<t.a:=fun t ht=>by
  obtain ⟨i,hi,ei⟩:=AZ hs;obtain ⟨j,hj,ej⟩:=AZ ht;have pw:=Be.1 h.sep;rcases Bs i j with q | q | q
  ·have:=pw i j hi hj q;rw [ei,ej] at this;exact .inr (.inr this)
  ·subst q;exact .inl (ej.symm.trans ei)
  ·have:=pw j i hj hi q;rw [ei,ej] at this;exact .inr (.inl this)
 simp only [AB,Bm,Ca] at h1;rcases h1 with rfl | rfl
 ·obtain ⟨t,ht,t1,t2⟩:=(hS _ hn).2 ⟨s,hs,A1 _,hp⟩;rcases sepL t ht with rfl | q | q <;> omega
 ·obtain ⟨t,ht,t1,t2⟩:=(hS _ hn).1 ⟨s,hs,by omega,by omega⟩;rcases sepL t ht with rfl | q | q <;> omega
theorem z8x {l:List R2} {y:Int} (h:y ∉ z9q l):pt l (y - 1)↔pt l y:=by
 constructor
 ·rintro ⟨s,hs,h1,h2⟩;refine ⟨s,hs,by omega,?_⟩;have:y≠s.b:=fun e=>h (AO.2 ⟨s,hs,by simp [e]⟩);omega
 ·rintro ⟨s,hs,h1,h2⟩;refine ⟨s,hs,?_,by omega⟩;have:y≠s.a:=fun e=>h (AO.2 ⟨s,hs,by simp [e]⟩);omega
theorem z1l (k:Nat) {a b:List R2} (ha:a.all z1j=true) (hb:b.all z1j=true):(spJ k a b).length ≤a.length+b.length:=by
 obtain ⟨h1,h2⟩:=z8r k ha hb;have:=w6j h1 (z9q a++z9q b) fun y hy=>by rw [AC,not_or] at hy;have e1:decide (pt a (y - 1))=decide (pt a y):=BF.2 (z8x hy.1);have e2:decide (pt b (y - 1))=decide (pt b y):=BF.2 (z8x hy.2);have q1:pt (spJ k a b) (y - 1)↔_:=h2 (y - 1);have q2:pt (spJ k a b) y↔_:=h2 y;rw [q1,q2,e1,e2]
 rw [Az,z1c,z1c] at this;omega
def rgJ (k:Nat) (a b:List R4):List R4:=(D4.goS (fun x=>spJ k (D4.inn a x) (D4.inn b x)) (D4.cuts (a++b)) ((D4.cuts (a++b)).length - 1) 0 ⟨[],[],0,0⟩).out
theorem u4x (k:Nat):spJ k [] []=[]:=by have:=z1l k (a:=[]) (b:=[]) rfl rfl;exact List.eq_nil_of_length_eq_zero (by simpa using this)
instance ptDec4 (l:List R4) (p:Int×Int):Decidable (ptL Xt.inB l p):=Classical.propDecidable _
theorem z4d (l:List R4) (x y:Int):pt (D4.inn l x) y↔ptL Xt.inB l (x,y):=Dim.pt_inn (D:=D4) y3k.inB l x y
theorem Kg (k:Nat) {a b:List R4} (ha: ∀r∈a,Vp r=true) (hb: ∀r∈b,Vp r=true):
  Xt.can (rgJ k a b)∧(∀p,ptL Xt.inB (rgJ k a b) p↔opB k (decide (ptL Xt.inB a p)) (decide (ptL Xt.inB b p))=true)∧(rgJ k a b).length ≤(a.length+b.length)*(a.length+b.length):=by
 have hs: ∀x,y3k.can (spJ k (D4.inn a x) (D4.inn b x))∧ ∀y,ptL y3k.inB (spJ k (D4.inn a x) (D4.inn b x)) y↔opB k (decide (pt (D4.inn a x) y)) (decide (pt (D4.inn b x) y))=true:=fun x=>z8r k (Vk ha x) (Vk hb x);obtain ⟨h1,h2⟩:=Dim.goJ_can y5w x2h y3k a b (spJ k) (fun x=>(hs x).1) (u4x k);refine ⟨h1,fun ⟨x,y⟩=> ?_,?_⟩
 ·rw [show ptL Xt.inB (rgJ k a b) (x,y)↔_ from h2 x y,(hs x).2];have e1:decide (pt (D4.inn a x) y)=decide (ptL Xt.inB a (x,y)):=BF.2 (z4d a x y);have e2:decide (pt (D4.inn b x) y)=decide (ptL Xt.inB b (x,y)):=BF.2 (z4d b x y);rw [e1,e2]
 ·refine Dim.goJ_length a b (spJ k) (fun x=>z1l k (Vk ha x) (Vk hb x)) fun r hr=> ?_;have hv:Vp r=true:=by
   rcases AC.1 hr with h | h
   ·exact ha r h
   ·exact hb r h
  simp only [Vp,Ac,Aq] at hv;exact hv.1
open Go.Proofs.Tryz
inductive schS where
 | h0 (v10:Int)
def schC (l0:List R2):schS→Cfg
 | .h0 v10=>⟨⟨34,0,true⟩,none,(Zd prog 191 [1,1,0,1,0,0] 0),none,(Zy prog 3),⟨Yd [(0,(.dat l0.length (Zz l0))),(8,(.dat l0.length (Zz l0))),(9,(ii (l0.length:Int))),(10,(ii v10))],Uy [] 0,0,[],true⟩,[],.leaf⟩
def u5n :List (Option (List Nat)):=[some [0,8,9,10]]
def u5o :List (Option (List Nat)):=[]
def z3v (l0:List R2):schS→Xf schS
 | .h0 v10=>(bif (decide (v10<(l0.length:Int))) then (bif ((decide (0≤v10∧v10<(l0.length:Int)))&&true) then (bif (decide ((rd l0 v10.toNat).a <(rd l0 v10.toNat).b)) then (bif (decide ((rd l0 v10.toNat).a ≥(-1000000))) then (bif (!(decide ((rd l0 v10.toNat).b ≤1000000))) then (.ret [(.int .i64 8)]) else (bif (decide (v10>0)) then (bif ((decide (0≤(wrap .i64 (v10 - 1))∧(wrap .i64 (v10 - 1))<(l0.length:Int)))&&true) then (bif (decide ((rd l0 (Int.toNat (wrap .i64 (v10 - 1)))).b ≥(rd l0 v10.toNat).a)) then (.ret [(.int .i64 8)]) else (.to (.h0 (wrap .i64 (v10+1))))) else .stuck) else (.to (.h0 (wrap .i64 (v10+1)))))) else (.ret [(.int .i64 8)])) else (.ret [(.int .i64 8)])) else .stuck) else (.ret [(.int .i64 0)]))
def y1n (l0:List R2):Xf schS:=(bif (decide ((l0.length:Int)>400)) then (.ret [(.int .i64 4)]) else (.to (.h0 0)))
theorem w3t (l0:List R2): ∀s,Xq prog (Zy prog 191) (schC l0) (schC l0 s) (z3v l0 s)
 | .h0 v10=>(lb (fun k0=>(lo fun aG=>(lb (fun k1=>(lb (fun k2=>(lb (fun k3=>(lr 34 191 [1,1,0,1,0,0,1,1,0,0,1,1,0,0] 1 3 [(2,(ii 8))] (sl z5l 25 [] ⟨[],[],[some [2]],[]⟩ ⟨[],[],[]⟩ (trs 12 []) (tt k3 (tt k2 (tt k1 (ww aG (tt k0 nn)))))))) (fun k3=>(lb (fun k4=>(lo fun cO=>(lb (fun k5=>(lr 34 191 [1,1,0,1,0,0,1,1,0,0,1,1,0,0] 1 3 [(2,(ii 8))] (sl z5l 25 [] ⟨[],[],[some [2]],[]⟩ ⟨[],[],[]⟩ (trs 7 (bl 14 12280)) (tt k5 (ww cO (tt k4 (tt k3 (tt k2 (tt k1 (ww aG (tt k0 nn))))))))))) (fun k5=>(sl z5l 28 [] ⟨[],[],u5n,u5o⟩ ⟨[],[],[]⟩ (trs 7 (bl 14 4088)) (tt k5 (ww cO (tt k4 (tt k3 (tt k2 (tt k1 (ww aG (tt k0 nn))))))))))))) (fun k4=>(sl z5l 28 [] ⟨[],[],u5n,u5o⟩ ⟨[],[],[]⟩ (trs 7 (bl 14 0)) (tt k4 (tt k3 (tt k2 (tt k1 (ww aG (tt k0 nn)))))))))))) (fun k2=>(lr 34 191 [1,1,0,1,0,0,1,1,0,0,1,1,0,0] 1 3 [(2,(ii 8))] (sl z5l 25 [] ⟨[],[],[some [2]],[]⟩ ⟨[],[],[]⟩ (trs 4 (bl 8 248)) (tt k2 (tt k1 (ww aG (tt k0 nn))))))))) (fun k1=>(lr 34 191 [1,1,0,1,0,0,1,1,0,0,1,1,0,0] 1 3 [(2,(ii 8))] (sl z5l 25 [] ⟨[],[],[some [2]],[]⟩ ⟨[],[],[]⟩ (bl 12 3969) (tt k1 (ww aG (tt k0 nn))))))))) (fun k0=>(lr 34 3 [1,1,1,1,1,1,1,0] 1 3 [(2,(ii 0))] (sl z5l 11 [] ⟨[],[],[some [2]],[]⟩ ⟨[],[],[]⟩ [false] (tt k0 nn)))))
theorem x5v (l0:List R2):Xq prog (Zy prog 191) (schC l0) (Zc prog 191 [(.dat l0.length (Zz l0))] true []) (y1n l0):=(lb (fun k0=>(lr 34 191 [1,0,1,0,0] 1 3 [(2,(ii 4))] (sl z5l 16 [] ⟨[],[],[some [2]],[]⟩ ⟨[],[],[]⟩ [true] (tt k0 nn)))) (fun k0=>(sl z5l 22 [] ⟨[],[],u5n,u5o⟩ ⟨[],[],[]⟩ [false] (tt k0 nn))))
theorem v5a (l0:List R2) (n:Nat) (vs:List AVal) (h:Yj (z3v l0) n (y1n l0)=.ret vs):Kv prog (Zy prog 191) (Zc prog 191 [(.dat l0.length (Zz l0))] true []) vs:=by have:=Zn (w3t l0) n _ (x5v l0);rwa [h] at this
inductive cuS where
def cuC (x0:Bool) (x1:Bool):cuS→Cfg
 :=nofun
def v3b (x0:Bool) (x1:Bool):cuS→Xf cuS
 :=nofun
def x9b (x0:Bool) (x1:Bool):Xf cuS:=(bif x0 then (.ret [(.bool true)]) else (.ret [(.bool x1)]))
theorem v3a (x0:Bool) (x1:Bool): ∀s,Xq prog (Zy prog 164) (cuC x0 x1) (cuC x0 x1 s) (v3b x0 x1 s)
 :=nofun
theorem w6f (x0:Bool) (x1:Bool):Xq prog (Zy prog 164) (cuC x0 x1) (Zc prog 164 [(.bool x0),(.bool x1)] true []) (x9b x0 x1):=(lb (fun k0=>(lr 9 3 [1,1,1,1,1,1,1,0] 1 5 [(4,(.bool true))] (sl z5l 12 [] ⟨[],[],[some [4]],[]⟩ ⟨[],[],[]⟩ [true] (tt k0 nn)))) (fun k0=>(lr 9 3 [1,1,1,1,1,1,1,0] 1 5 [(4,(.bool x1))] (sl z5l 12 [] ⟨[],[],[some [4]],[]⟩ ⟨[],[],[]⟩ [false] (tt k0 nn)))))
theorem j0d (x0:Bool) (x1:Bool) (n:Nat) (vs:List AVal) (h:Yj (v3b x0 x1) n (x9b x0 x1)=.ret vs):Kv prog (Zy prog 164) (Zc prog 164 [(.bool x0),(.bool x1)] true []) vs:=by have:=Zn (v3a x0 x1) n _ (w6f x0 x1);rwa [h] at this
inductive ceS where
def ceC (x0:Bool) (x1:Bool):ceS→Cfg
 :=nofun
def v3k (x0:Bool) (x1:Bool):ceS→Xf ceS
 :=nofun
def x9g (x0:Bool) (x1:Bool):Xf ceS:=(bif x0 then (.ret [(.bool x1)]) else (.ret [(.bool false)]))
theorem v3j (x0:Bool) (x1:Bool): ∀s,Xq prog (Zy prog 170) (ceC x0 x1) (ceC x0 x1 s) (v3k x0 x1 s)
 :=nofun
theorem w6h (x0:Bool) (x1:Bool):Xq prog (Zy prog 170) (ceC x0 x1) (Zc prog 170 [(.bool x0),(.bool x1)] true []) (x9g x0 x1):=(lb (fun k0=>(lr 9 3 [1,1,1,1,1,1,1,0] 1 5 [(4,(.bool x1))] (sl z5l 12 [] ⟨[],[],[some [4]],[]⟩ ⟨[],[],[]⟩ [true] (tt k0 nn)))) (fun k0=>(lr 9 3 [1,1,1,1,1,1,1,0] 1 5 [(4,(.bool false))] (sl z5l 12 [] ⟨[],[],[some [4]],[]⟩ ⟨[],[],[]⟩ [false] (tt k0 nn)))))
theorem j0l (x0:Bool) (x1:Bool) (n:Nat) (vs:List AVal) (h:Yj (v3k x0 x1) n (x9g x0 x1)=.ret vs):Kv prog (Zy prog 170) (Zc prog 170 [(.bool x0),(.bool x1)] true []) vs:=by have:=Zn (v3j x0 x1) n _ (w6h x0 x1);rwa [h] at this
inductive cdS where
def cdC (x0:Bool) (x1:Bool):cdS→Cfg
 :=nofun
def v3n (x0:Bool) (x1:Bool):cdS→Xf cdS
 :=nofun
def x9h (x0:Bool) (x1:Bool):Xf cdS:=(bif x0 then (.ret [(.bool (!x1))]) else (.ret [(.bool false)]))
theorem v3m (x0:Bool) (x1:Bool): ∀s,Xq prog (Zy prog 163) (cdC x0 x1) (cdC x0 x1 s) (v3n x0 x1 s)
 :=nofun
theorem w6i (x0:Bool) (x1:Bool):Xq prog (Zy prog 163) (cdC x0 x1) (Zc prog 163 [(.bool x0),(.bool x1)] true []) (x9h x0 x1):=(lb (fun k0=>(lr 10 3 [1,1,1,1,1,1,1,0] 1 5 [(4,(.bool (!x1)))] (sl z5l 13 [] ⟨[],[],[some [4]],[]⟩ ⟨[],[],[]⟩ [true,true] (tt k0 nn)))) (fun k0=>(lr 10 3 [1,1,1,1,1,1,1,0] 1 5 [(4,(.bool false))] (sl z5l 13 [] ⟨[],[],[some [4]],[]⟩ ⟨[],[],[]⟩ [false,false] (tt k0 nn)))))
theorem j0m (x0:Bool) (x1:Bool) (n:Nat) (vs:List AVal) (h:Yj (v3n x0 x1) n (x9h x0 x1)=.ret vs):Kv prog (Zy prog 163) (Zc prog 163 [(.bool x0),(.bool x1)] true []) vs:=by have:=Zn (v3m x0 x1) n _ (w6i x0 x1);rwa [h] at this
def w3m (l:List R2) (i:Nat):Bool:=z1j (rd l i)&&(decide (i=0)||decide ((rd l (i - 1)).b <(rd l i).a))
def y6c (l:List R2):Int:=bif decide (400<l.length) then 4 else bif (List.range l.length).all (w3m l) then 0 else 8
def z3w (l:List R2):Bool:=true
theorem u0r (l:List R2) (hl:l.length≤400): ∀(k i:Nat),i+k=l.length→(∀j,j<i→w3m l j=true)→ ∃n,Yj (z3v l) n (.to (.h0 (i:Int)))=.ret [.int .i64 (bif (List.range l.length).all (w3m l) then 0 else 8)]
 | 0,i,h,ht=>by have hv:(List.range l.length).all (w3m l)=true:=As.2 fun j hj=>ht j (by have:=AY.1 hj;omega);refine ⟨1,?_⟩;rw [Zv,hv];simp (disch:=omega) only [z3v,Yw,Ab,Aa,Zg]
 | k +1,i,h,ht=>by
  have hi:i<l.length:=by omega
  have hlt:decide ((i:Int)<(l.length:Int))=true:=Ah (by omega);have hin:decide (0≤(i:Int)∧(i:Int)<(l.length:Int))=true:=Ah (by omega);have step:z3v l (.h0 (i:Int))=bif w3m l i then .to (.h0 ((i+1:Nat):Int)) else .ret [.int .i64 8]:=by
   unfold w3m z1j;by_cases hi0:i=0
   ·have g1:decide ((i:Int)>0)=false:=Ay (by omega);rw [Ah hi0];simp (disch:=omega) only [z3v,hlt,hin,g1,Zp,Zx,Zk,y5h,z6q,Bool.true_or,Ai,Ab,Aa]
   ·have g1:decide ((i:Int)>0)=true:=Ah (by omega);have g2:wrap .i64 ((i:Int) - 1)=((i - 1:Nat):Int):=by rw [Zp (by omega)];omega
    have g3:decide (0≤((i - 1:Nat):Int)∧((i - 1:Nat):Int)<(l.length:Int))=true:=Ah (by omega);have g4:decide ((rd l (i - 1)).b ≥(rd l i).a)= !decide ((rd l (i - 1)).b <(rd l i).a):=by
     by_cases q:(rd l (i - 1)).b <(rd l i).a
     ·rw [Ah q,Ay (by omega)];rfl
     ·rw [Ay q,Ah (by omega)];rfl
    rw [Ay hi0];simp (disch:=omega) only [z3v,hlt,hin,g1,g2,g3,g4,Zp,Zx,Zk,y5h,z6q,Bool.false_or,Ai,Ab,Aa]
  rcases Ye (w3m l i) with q | q
  ·obtain ⟨n,hn⟩:=u0r l hl k (i+1) (by omega) (fun j hj=>by
    rcases Bw (B5 hj) with rfl | hj
    ·exact q
    ·exact ht j hj)
   refine ⟨n+1,?_⟩;rw [Zv,step,q,Ab];exact hn
  ·have hv:(List.range l.length).all (w3m l)=false:=A7.2 fun e=>by have:=As.1 e i (AY.2 hi);rw [q] at this;cases this
   refine ⟨1,?_⟩;rw [Zv,step,q,hv,Aa,Zg];rfl
theorem u5m (l:List R2) (h:z3w l=true): ∃n,Yj (z3v l) n (y1n l)=.ret [.int .i64 (y6c l)]:=by
 unfold y1n y6c;by_cases h:400<l.length
 ·refine ⟨0,?_⟩;rw [Ah h,Yo (show (l.length:Int)>400 by omega)];rfl
 ·obtain ⟨n,hn⟩:=u0r l (by omega) l.length 0 (Ag _) (fun j hj=>absurd hj (AQ _));refine ⟨n,?_⟩;rw [Ay h,Xb (show¬(l.length:Int)>400 by omega),Aa,Aa];exact hn
inductive Op where
 | u | e | d
abbrev Op.k :Op→Nat
 | .u =>0
 | .e =>1
 | .d =>2
abbrev nC :Op→Nat
 | .u =>nSpU1
 | .e =>nSpE1
 | .d =>nSpD1
abbrev nSp :Op→Nat
 | .u =>nSpU
 | .e =>nSpE
 | .d =>nSpD
abbrev nRg :Op→Nat
 | .u =>nRgU
 | .e =>nRgE
 | .d =>nRgD
def cV (q:Op) (a b:Bool):Bool:=opB q.k a b
theorem cu_run (a b:Bool): ∃N,Yj (v3b a b) N (x9b a b)=.ret [.bool (cV .u a b)]:=⟨0,by cases a <;> cases b <;> rfl⟩
theorem ce_run (a b:Bool): ∃N,Yj (v3k a b) N (x9g a b)=.ret [.bool (cV .e a b)]:=⟨0,by cases a <;> cases b <;> rfl⟩
theorem cd_run (a b:Bool): ∃N,Yj (v3n a b) N (x9h a b)=.ret [.bool (cV .d a b)]:=⟨0,by cases a <;> cases b <;> rfl⟩
theorem y1o (l:List R2):y6c l=0↔l.length≤400∧l.all z1j=true∧Can l:=by
 unfold y6c;constructor
 ·intro h;by_cases h1:400<l.length
  ·rw [Ah h1] at h;cases h
  ·rw [Ay h1,Aa] at h;cases hq:(List.range l.length).all (w3m l) with
   | false=>rw [hq] at h;cases h
   | true=>
    have hq:=fun i hi=>As.1 hq i (AY.2 hi);have hv: ∀i,i<l.length→z1j (rd l i)=true:=fun i hi=>by have:=hq i hi;unfold w3m at this;rw [Ac] at this;exact this.1
    have hp: ∀i,i<l.length→(rd l i).a <(rd l i).b :=fun i hi=>by have:=hv i hi;simp only [z1j,Ac,Aq] at this;exact this.1
    have hs: ∀i,i+1<l.length→(rd l i).b <(rd l (i+1)).a :=fun i hi=>by
     have:=hq (i+1) hi;unfold w3m at this;rw [Ac,Bx] at this;rcases this.2 with q | q
     ·have:=AE q;omega
     ·exact AE q
    refine ⟨by omega,As.2 fun s hs=> ?_,⟨fun s hs=> ?_,?_⟩⟩
    ·obtain ⟨i,hi,rfl⟩:=AZ hs;rw [←Xp hi];exact hv i hi
    ·obtain ⟨i,hi,rfl⟩:=AZ hs;rw [←Xp hi];exact hp i hi
    ·refine Be.2 fun i j hi hj hij=> ?_;rw [←Xp hi,←Xp hj];clear hi
     induction j with
     | zero=>omega
     | succ j ih=>
      have h1:=hs j hj;rcases Bw (B5 hij) with rfl | q
      ·exact h1
      ·have h2:=ih (by omega) q;have h3:=hp j (by omega);omega
 ·rintro ⟨h1,h2,h3⟩;rw [Ay (by omega),Aa];have:(List.range l.length).all (w3m l)=true:=As.2 fun i hi=>by
   have hi:=AY.1 hi;unfold w3m;rw [As.1 h2 (rd l i) (by rw [Xp hi];exact AS hi),Al,Bx];by_cases h0:i=0
   ·exact .inl (Ah h0)
   ·refine .inr (Ah ?_);have:=Be.1 h3.sep (i - 1) i (by omega) hi (by omega);rwa [←Xp,←Xp] at this
  rw [this];rfl
def fSch :List AVal→Option (AVal×Bool)
 | [a0]=>match asL R2 a0 with
  | some (L0,g0,n0)=>some (.int .i64 (y6c L0),isT R2 n0 g0&&(z3w L0))
  | _=>none
 | _=>none
theorem u8u {S:Specs} (hS:Zj prog S):Zj prog (S.with w0z fSch):=by
 refine z3m hS (by kernel_rfl) fun args v h=> ?_;unfold fSch at h;split at h
 ·rename_i a0;split at h
  ·rename_i L0 g0 n0 e0;simp only [Ae,Ad,Ac] at h;obtain ⟨rfl,ho0,hw⟩:=h;obtain ⟨N,hN⟩:=u5m L0 hw;exact ⟨_,_,(.cons (Yr e0 ho0) .nil),rfl,v5a L0 N _ hN,3,rfl⟩
  ·cases h
 ·cases h
def fCu :List AVal→Option (AVal×Bool)
 | [.bool b0,.bool b1]=>some (.bool (cV .u b0 b1),true)
 | _=>none
theorem fCu_ok {S:Specs} (hS:Zj prog S):Zj prog (S.with (nC .u) fCu):=by
 refine z3m hS (by kernel_rfl) fun args v h=> ?_;unfold fCu at h;split at h
 ·rename_i b0 b1;simp only [Ae,Ad,Cp] at h;subst h;obtain ⟨N,hN⟩:=cu_run b0 b1;exact ⟨_,_,(.cons (.refl _) (.cons (.refl _) .nil)),rfl,j0d b0 b1 N _ hN,3,rfl⟩
 ·cases h
def fCe :List AVal→Option (AVal×Bool)
 | [.bool b0,.bool b1]=>some (.bool (cV .e b0 b1),true)
 | _=>none
theorem fCe_ok {S:Specs} (hS:Zj prog S):Zj prog (S.with (nC .e) fCe):=by
 refine z3m hS (by kernel_rfl) fun args v h=> ?_;unfold fCe at h;split at h
 ·rename_i b0 b1;simp only [Ae,Ad,Cp] at h;subst h;obtain ⟨N,hN⟩:=ce_run b0 b1;exact ⟨_,_,(.cons (.refl _) (.cons (.refl _) .nil)),rfl,j0l b0 b1 N _ hN,3,rfl⟩
 ·cases h
def fCd :List AVal→Option (AVal×Bool)
 | [.bool b0,.bool b1]=>some (.bool (cV .d b0 b1),true)
 | _=>none
theorem fCd_ok {S:Specs} (hS:Zj prog S):Zj prog (S.with (nC .d) fCd):=by
 refine z3m hS (by kernel_rfl) fun args v h=> ?_;unfold fCd at h;split at h
 ·rename_i b0 b1;simp only [Ae,Ad,Cp] at h;subst h;obtain ⟨N,hN⟩:=cd_run b0 b1;exact ⟨_,_,(.cons (.refl _) (.cons (.refl _) .nil)),rfl,j0m b0 b1 N _ hN,3,rfl⟩
 ·cases h
def Ua :Specs:=((((T9.with w0z fSch).with (nC .u) fCu).with (nC .e) fCe).with (nC .d) fCd)
theorem z2b :Zj prog Ua:=(fCd_ok (fCe_ok (fCu_ok (u8u z5l))))
inductive spjS where
 | h0 (v3:List R3) (v17:Int)
 | h1 (v3:List R3) (v17:Int)
 | h2 (v5:List R3) (v6:Int) (v7:Int) (aA:Int) (aI:Int) (aM:Int) (aF:Bool) (aC:List R2)
abbrev Uk (aC:List R2) (aM:Int) (v5:List R3) (v7:Int):=(aC++[(R2.mk aM (rd v5 (0+(tn v7))).a)])
def w7w (l0:List R2) (l1:List R2) (q:Op):AFr:=⟨⟨29,0,true⟩,(Up prog 162 [1,1,1,0] 3),(Zd prog 162 [1,1,1,0] 1),none,(Zy prog 32),Yd [(21,(.dat l0.length (Zz l0))),(22,(.dat l1.length (Zz l1))),(23,(.fn (nC q) []))]⟩
abbrev y0d (aC:List R2) (aM:Int) (v5:List R3) (v7:Int):=(Zi (Zz aC) 0 aC.length 2 [(ii aM),(ii (rd v5 (0+(tn v7))).a)])
def w7v (q:Op) (l0:List R2) (l1:List R2):AFr:=⟨⟨11,0,true⟩,(Up prog (nSp q) [1,0] 2),(Zd prog (nSp q) [1,0] 1),none,(Zy prog 28),Yd [(6,(.dat l0.length (Zz l0))),(7,(.dat l1.length (Zz l1)))]⟩
def u0a :AFr:=⟨⟨42,0,true⟩,(Up prog 186 [1,1,1,1,1,0,0] 3),(Zd prog 186 [1,1,1,1,1,0,0] 1),none,(Zy prog 8),Yd [(5,(.ptr 1 0)),(6,.nils),(7,(.ptr 2 0)),(8,(.ptr 3 0)),(9,(.ptr 4 0)),(10,(.ptr 5 0)),(11,(.ptr 6 0)),(16,(.sl 0 0 2 (.un 1)))]⟩
abbrev y7a (v3:List R3) (l0:List R2) (v17:Int):=(v3++[(R3.mk (rd l0 (tn v17)).a 0 1),(R3.mk (rd l0 (tn v17)).b 0 (-1))])
abbrev y6z (v3:List R3) (l1:List R2) (v17:Int):=(v3++[(R3.mk (rd l1 (tn v17)).a 1 1),(R3.mk (rd l1 (tn v17)).b 1 (-1))])
def spjC (q:Op) (l0:List R2) (l1:List R2):spjS→Cfg
 | .h0 v3 v17=>⟨⟨38,0,true⟩,none,(Zd prog 197 [1,1,0,1,0,0,1,1,0,0,1,1,0,0] 0),none,(Zy prog 3),⟨Yd [(3,(.sla 7 3 0 v3.length (.un 3))),(4,(ii 0)),(8,(.sl 0 0 2 (.un 1))),(9,(ii 2)),(10,(ii 0)),(15,(.dat l0.length (Zz l0))),(16,(ii (l0.length:Int))),(17,(ii v17))],Uy [⟨[(.dat l0.length (Zz l0)),(.dat l1.length (Zz l1))],180,none⟩,⟨[(.fn (nC q) [])],213,none⟩,⟨[(ii 0),(ii 0)],142,none⟩,⟨[.nils],180,none⟩,⟨[(ii 0)],3,none⟩,⟨[(.bool false)],4,none⟩,⟨[(.fn 196 [(.ptr 5 0),(.ptr 4 0),(.ptr 3 0)])],242,none⟩,⟨rows v3.length (Zz v3),246,some ⟨3,v3.length,(Zz v3)⟩⟩] 0,8,[],true⟩,[u0a,(w7w l0 l1 q),(w7v q l0 l1)],.leaf⟩
 | .h1 v3 v17=>⟨⟨38,0,true⟩,none,(Zd prog 197 [1,1,0,1,0,0,1,1,0,0,1,1,0,0] 0),none,(Zy prog 3),⟨Yd [(3,(.sla 7 3 0 v3.length (.un 3))),(4,(ii 1)),(8,(.sl 0 0 2 (.un 1))),(9,(ii 2)),(10,(ii 1)),(15,(.dat l1.length (Zz l1))),(16,(ii (l1.length:Int))),(17,(ii v17))],Uy [⟨[(.dat l0.length (Zz l0)),(.dat l1.length (Zz l1))],180,none⟩,⟨[(.fn (nC q) [])],213,none⟩,⟨[(ii 0),(ii 0)],142,none⟩,⟨[.nils],180,none⟩,⟨[(ii 0)],3,none⟩,⟨[(.bool false)],4,none⟩,⟨[(.fn 196 [(.ptr 5 0),(.ptr 4 0),(.ptr 3 0)])],242,none⟩,⟨rows v3.length (Zz v3),246,some ⟨3,v3.length,(Zz v3)⟩⟩] 0,8,[],true⟩,[u0a,(w7w l0 l1 q),(w7v q l0 l1)],.leaf⟩
 | .h2 v5 v6 v7 aA aI aM aF aC=>⟨⟨16,0,true⟩,none,(Zd prog 205 [1,0,0] 0),none,[],⟨Yd [(0,(.yld 0)),(5,(.sla 7 3 0 v5.length (.un 3))),(6,(ii v6)),(7,(ii v7))],y0k [(1,⟨[(.fn (nC q) [])],213,none⟩),(2,⟨[(ii aA),(ii aI)],142,none⟩),(3,⟨[(ii aM)],3,none⟩),(4,⟨[(.bool aF)],4,none⟩),(5,⟨[(.fn 196 [(.ptr 4 0),(.ptr 3 0),(.ptr 6 0)])],242,none⟩),(6,⟨[(.sla 8 2 0 aC.length (.un 2))],180,none⟩),(7,⟨rows v5.length (Zz v5),246,some ⟨3,v5.length,(Zz v5)⟩⟩),(8,⟨rows aC.length (Zz aC),183,some ⟨2,aC.length,(Zz aC)⟩⟩)],9,[],true⟩,[⟨⟨42,0,true⟩,none,(.inRangeFunc 0::(Zd prog 186 [1,1,1,1,1,0,1,0] 1)),none,(Zy prog 8),Yd [(6,.nils),(8,(.ptr 6 0))]⟩,(w7w l0 l1 q),(w7v q l0 l1)],(y6j [(0,⟨.ready,none,42,Yd [(5,(.ptr 1 0)),(7,(.ptr 2 0)),(9,(.ptr 3 0)),(10,(.ptr 4 0)),(11,(.ptr 5 0))],[18],(Vr prog 186 [1,1,1,1,1,0,1,0,0]),(Vr prog 186 [1,1,1,1,1,0,1,0,1])⟩)])⟩
def spjN0 :List (Option (List Nat)):=[some [3,4,8,9,10,15,16,17],some [5,6,7,8,9,10,11,16],some [21,22,23],some [6,7]]
def spjM0 :List (Option (List Nat)):=[]
def spjN1 :List (Option (List Nat)):=[some [3,4,8,9,10,15,16,17],some [5,6,7,8,9,10,11,16],some [21,22,23],some [6,7]]
def spjM1 :List (Option (List Nat)):=[]
def y3i :List (Option (List Nat)):=[some [0,5,6,7],some [6,8],some [21,22,23],some [6,7]]
def y3j :List (Option (List Nat)):=[some [5,7,9,10,11],none,none,none,none,none,none,none,none]
def Wa (q:Op) (l0:List R2) (l1:List R2):spjS→Xf spjS
 | .h0 v3 v17=>(bif (decide (v17<(l0.length:Int))) then (bif ((decide (0≤v17∧v17<(l0.length:Int)))&&true) then (bif (Nat.beq 3 3&&((decide (0+v3.length=v3.length))&&decide ((v3.length+2+1)*(24+1)≤Ju))) then (.to (.h0 (v3++[(R3.mk (rd l0 v17.toNat).a 0 1),(R3.mk (rd l0 v17.toNat).b 0 (-1))]) (wrap .i64 (v17+1)))) else .stuck) else .stuck) else (.to (.h1 v3 0)))
 | .h1 v3 v17=>(bif (decide (v17<(l1.length:Int))) then (bif ((decide (0≤v17∧v17<(l1.length:Int)))&&true) then (bif (Nat.beq 3 3&&((decide (0+v3.length=v3.length))&&decide ((v3.length+2+1)*(24+1)≤Ju))) then (.to (.h1 (v3++[(R3.mk (rd l1 v17.toNat).a 1 1),(R3.mk (rd l1 v17.toNat).b 1 (-1))]) (wrap .i64 (v17+1)))) else .stuck) else .stuck) else (bif (y0x (cvT v3)) then (bif (decide (v3.length<4611686018427387904)) then (bif (decide (v3.length=v3.length)) then (.to (.h2 (z0q (cvT v3)) (v3.length:Int) 0 0 0 0 false ([]:List R2))) else .stuck) else .stuck) else .stuck))
 | .h2 v5 v6 v7 aA aI aM aF aC=>(bif (decide (v7<v6)) then (bif ((decide (0≤v7∧v7<(v5.length:Int)))&&true) then (bif (decide ((0+v7.toNat)<v5.length)) then (bif (!aF) then (bif (decide ((rd v5 (0+v7.toNat)).b =Int.ofNat 0)) then (.to (.h2 v5 v6 (wrap .i64 (v7+1)) (wrap .i64 (aA+(rd v5 (0+v7.toNat)).c)) aI (rd v5 (0+v7.toNat)).a ((cV q) (decide ((wrap .i64 (aA+(rd v5 (0+v7.toNat)).c))>0)) (decide (aI>0))) aC)) else (bif (decide ((rd v5 (0+v7.toNat)).b =Int.ofNat 1)) then (.to (.h2 v5 v6 (wrap .i64 (v7+1)) aA (wrap .i64 (aI+(rd v5 (0+v7.toNat)).c)) (rd v5 (0+v7.toNat)).a ((cV q) (decide (aA>0)) (decide ((wrap .i64 (aI+(rd v5 (0+v7.toNat)).c))>0))) aC)) else .stuck)) else (bif (aM == (rd v5 (0+v7.toNat)).a) then (bif (decide ((rd v5 (0+v7.toNat)).b =Int.ofNat 0)) then (.to (.h2 v5 v6 (wrap .i64 (v7+1)) (wrap .i64 (aA+(rd v5 (0+v7.toNat)).c)) aI (rd v5 (0+v7.toNat)).a ((cV q) (decide ((wrap .i64 (aA+(rd v5 (0+v7.toNat)).c))>0)) (decide (aI>0))) aC)) else (bif (decide ((rd v5 (0+v7.toNat)).b =Int.ofNat 1)) then (.to (.h2 v5 v6 (wrap .i64 (v7+1)) aA (wrap .i64 (aI+(rd v5 (0+v7.toNat)).c)) (rd v5 (0+v7.toNat)).a ((cV q) (decide (aA>0)) (decide ((wrap .i64 (aI+(rd v5 (0+v7.toNat)).c))>0))) aC)) else .stuck)) else (bif (decide ((aC.length:Int)>0)) then (bif ((decide (0≤(wrap .i64 ((aC.length:Int) - 1))∧(wrap .i64 ((aC.length:Int) - 1))<(aC.length:Int)))&&true) then (bif (decide ((0+(Int.toNat (wrap .i64 ((aC.length:Int) - 1))))<aC.length)) then (bif ((rd aC (0+(Int.toNat (wrap .i64 ((aC.length:Int) - 1))))).b == aM) then (bif (decide ((rd v5 (0+v7.toNat)).b =Int.ofNat 0)) then (.to (.h2 v5 v6 (wrap .i64 (v7+1)) (wrap .i64 (aA+(rd v5 (0+v7.toNat)).c)) aI (rd v5 (0+v7.toNat)).a ((cV q) (decide ((wrap .i64 (aA+(rd v5 (0+v7.toNat)).c))>0)) (decide (aI>0))) (aC.set (0+(Int.toNat (wrap .i64 ((aC.length:Int) - 1)))) (R2.mk (rd aC (0+(Int.toNat (wrap .i64 ((aC.length:Int) - 1))))).a (rd v5 (0+v7.toNat)).a)))) else (bif (decide ((rd v5 (0+v7.toNat)).b =Int.ofNat 1)) then (.to (.h2 v5 v6 (wrap .i64 (v7+1)) aA (wrap .i64 (aI+(rd v5 (0+v7.toNat)).c)) (rd v5 (0+v7.toNat)).a ((cV q) (decide (aA>0)) (decide ((wrap .i64 (aI+(rd v5 (0+v7.toNat)).c))>0))) (aC.set (0+(Int.toNat (wrap .i64 ((aC.length:Int) - 1)))) (R2.mk (rd aC (0+(Int.toNat (wrap .i64 ((aC.length:Int) - 1))))).a (rd v5 (0+v7.toNat)).a)))) else .stuck)) else (bif (Nat.beq 2 2&&((decide (0+aC.length=aC.length))&&decide ((aC.length+1+1)*(16+1)≤Ju))) then (bif (decide ((rd v5 (0+v7.toNat)).b =Int.ofNat 0)) then (.to (.h2 v5 v6 (wrap .i64 (v7+1)) (wrap .i64 (aA+(rd v5 (0+v7.toNat)).c)) aI (rd v5 (0+v7.toNat)).a ((cV q) (decide ((wrap .i64 (aA+(rd v5 (0+v7.toNat)).c))>0)) (decide (aI>0))) (aC++[(R2.mk aM (rd v5 (0+v7.toNat)).a)]))) else (bif (decide ((rd v5 (0+v7.toNat)).b =Int.ofNat 1)) then (.to (.h2 v5 v6 (wrap .i64 (v7+1)) aA (wrap .i64 (aI+(rd v5 (0+v7.toNat)).c)) (rd v5 (0+v7.toNat)).a ((cV q) (decide (aA>0)) (decide ((wrap .i64 (aI+(rd v5 (0+v7.toNat)).c))>0))) (aC++[(R2.mk aM (rd v5 (0+v7.toNat)).a)]))) else .stuck)) else .stuck)) else .stuck) else .stuck) else (bif (Nat.beq 2 2&&((decide (0+aC.length=aC.length))&&decide ((aC.length+1+1)*(16+1)≤Ju))) then (bif (decide ((rd v5 (0+v7.toNat)).b =Int.ofNat 0)) then (.to (.h2 v5 v6 (wrap .i64 (v7+1)) (wrap .i64 (aA+(rd v5 (0+v7.toNat)).c)) aI (rd v5 (0+v7.toNat)).a ((cV q) (decide ((wrap .i64 (aA+(rd v5 (0+v7.toNat)).c))>0)) (decide (aI>0))) (aC++[(R2.mk aM (rd v5 (0+v7.toNat)).a)]))) else (bif (decide ((rd v5 (0+v7.toNat)).b =Int.ofNat 1)) then (.to (.h2 v5 v6 (wrap .i64 (v7+1)) aA (wrap .i64 (aI+(rd v5 (0+v7.toNat)).c)) (rd v5 (0+v7.toNat)).a ((cV q) (decide (aA>0)) (decide ((wrap .i64 (aI+(rd v5 (0+v7.toNat)).c))>0))) (aC++[(R2.mk aM (rd v5 (0+v7.toNat)).a)]))) else .stuck)) else .stuck)))) else .stuck) else .stuck) else (bif (decide ((aC.length:Int)>400)) then (.ret [.nils,(.int .i64 4)]) else (.ret [(.dat aC.length (Zz aC)),(.int .i64 0)])))
def y1k (q:Op) (l0:List R2) (l1:List R2):Xf spjS:=(bif (z3w (cvT l0)) then (bif ((y6c (cvT l0)) != 0) then (.ret [.nils,(.int .i64 (y6c (cvT l0)))]) else (bif (z3w (cvT l1)) then (bif ((y6c (cvT l1)) != 0) then (.ret [.nils,(.int .i64 (y6c (cvT l1)))]) else (.to (.h0 ([]:List R3) 0))) else .stuck)) else .stuck)
theorem w3k (q:Op) (l0:List R2) (l1:List R2): ∀s,Xq prog (Zy prog (nSp q)) (spjC q l0 l1) (spjC q l0 l1 s) (Wa q l0 l1 s):=by cases q <;> refine (?f: ∀q:Op,∀s,Xq prog (Zy prog (nSp q)) (spjC q l0 l1) (spjC q l0 l1 s) (Wa q l0 l1 s)) _ <;> exact fun q=>fun
 | .h0 v3 v17=>(lb (fun k0=>(lo fun o0=>(lo fun o1=>(sl z2b 36 [] ⟨[0,1,2,3,4,5,6,10],[],spjN0,spjM0⟩ ⟨[(3,.len (y7a v3 l0 v17).length)],(kpB 7 [.rowed 3 (y7a v3 l0 v17).length (Zz (y7a v3 l0 v17))]),[]⟩ [true] (pp (xL (v3.length+2) (y7a v3 l0 v17).length) (pp (xL (v3.length+2) (y7a v3 l0 v17).length) (pp (xS (v3.length+2) (Zi (Zz v3) 0 v3.length 3 [(ii (rd l0 (tn v17)).a),(ii 0),(ii 1),(ii (rd l0 (tn v17)).b),(ii 0),(ii (-1))]) (Zz (y7a v3 l0 v17))) (pp (pp (xF (Zi (Zz v3) 0 v3.length 3 [(ii (rd l0 (tn v17)).a),(ii 0),(ii 1),(ii (rd l0 (tn v17)).b),(ii 0),(ii (-1))])) nn) (ww o1 (ww o0 (tt k0 nn))))))))))) (fun k0=>(sl z2b 38 [] ⟨(List.range 8),[],spjN1,spjM1⟩ ⟨[],[],[]⟩ (bl 2 2) (pp (fl v3 nn) (tt k0 nn)))))
 | .h1 v3 v17=>(lb (fun k0=>(lo fun o0=>(lo fun o1=>(sl z2b 36 [] ⟨[0,1,2,3,4,5,6,10],[],spjN1,spjM1⟩ ⟨[(3,.len (y6z v3 l1 v17).length)],(kpB 7 [.rowed 3 (y6z v3 l1 v17).length (Zz (y6z v3 l1 v17))]),[]⟩ [true] (pp (xL (v3.length+2) (y6z v3 l1 v17).length) (pp (xL (v3.length+2) (y6z v3 l1 v17).length) (pp (xS (v3.length+2) (Zi (Zz v3) 0 v3.length 3 [(ii (rd l1 (tn v17)).a),(ii 1),(ii 1),(ii (rd l1 (tn v17)).b),(ii 1),(ii (-1))]) (Zz (y6z v3 l1 v17))) (pp (pp (xF (Zi (Zz v3) 0 v3.length 3 [(ii (rd l1 (tn v17)).a),(ii 1),(ii 1),(ii (rd l1 (tn v17)).b),(ii 1),(ii (-1))])) nn) (ww o1 (ww o0 (tt k0 nn))))))))))) (fun k0=>(lo fun o0=>(lo fun o1=>(lo fun o2=>(sl z2b 54 [(183,2,Zz ([]:List R2))] ⟨[9,1,2,4,5,6,3,7,10],[],y3i,y3j⟩ ⟨[(5,.len (z0q (cvT v3)).length)],(kpB 6 [.cells [.grow 8 2],.rowed 3 (z0q (cvT v3)).length (Zz (z0q (cvT v3))),.keep]),[]⟩ (bl 2 0) (pp (xL v3.length (z0q (cvT v3)).length (by first | exact z7q _ | exact Vy rfl)) (pp (xL v3.length (z0q (cvT v3)).length (by first | exact z7q _ | exact Vy rfl)) (pp (xS v3.length (Zz (z0q (cvT v3))) (Zz (z0q (cvT v3)))) (pp (fl (z0q (cvT v3)) (fl ([]:List R2) nn)) (pp (pp (xG (Nat.beq 3 3)) (pp (xG (Nat.beq 3 3)) (pp (xG (Nat.beq 0 0)) (pp (pp (xG (decide (v3.length=v3.length))) (pp (xr v3) (xG (decide (v3.length<4611686018427387904))))) (xG (y0x (cvT v3))))))) (tt k0 nn))))))))))))
 | .h2 v5 v6 v7 aA aI aM aF aC=>(lb (fun k0=>(lo fun aG=>(lo fun bA=>(lb (fun k1=>(lb (fun k2=>(sl z2b 62 [] ⟨(List.range 9),[],y3i,y3j⟩ ⟨[],[],[]⟩ (trs 5 (bl 3 0)) (pp (fl v5 (fl aC nn)) (ww k2 (tt k1 (ww bA (ww aG (tt k0 nn)))))))) (fun k2=>(lb (fun k3=>(sl z2b 62 [] ⟨(List.range 9),[],y3i,y3j⟩ ⟨[],[],[]⟩ (trs 6 (bl 4 2)) (pp (fl v5 (fl aC nn)) (ww k3 (tt k1 (ww bA (ww aG (tt k0 nn)))))))) (fun k3=>trivial))))) (fun k1=>(lb (fun k2=>(lb (fun k3=>(sl z2b 62 [] ⟨(List.range 9),[],y3i,y3j⟩ ⟨[],[],[]⟩ (bl 8 17) (pp (fl v5 (fl aC nn)) (ww k3 (tt k2 (tt k1 (ww bA (ww aG (tt k0 nn))))))))) (fun k3=>(lb (fun k4=>(sl z2b 62 [] ⟨(List.range 9),[],y3i,y3j⟩ ⟨[],[],[]⟩ (bl 10 177) (pp (fl v5 (fl aC nn)) (ww k4 (tt k2 (tt k1 (ww bA (ww aG (tt k0 nn))))))))) (fun k4=>trivial))))) (fun k2=>(lb (fun k3=>(lo fun bW=>(lo fun cP=>(lb (fun k4=>(lb (fun k5=>(sl z2b 81 [] ⟨(List.range 9),[],y3i,y3j⟩ ⟨[],(kpB 6 [.cells [.len (aC.set (0+(tn (wr ((aC.length:Int) - 1)))) (R2.mk (rd aC (0+(tn (wr ((aC.length:Int) - 1))))).a (rd v5 (0+(tn v7))).a)).length],.keep,.rowed 2 (aC.set (0+(tn (wr ((aC.length:Int) - 1)))) (R2.mk (rd aC (0+(tn (wr ((aC.length:Int) - 1))))).a (rd v5 (0+(tn v7))).a)).length (Zz (aC.set (0+(tn (wr ((aC.length:Int) - 1)))) (R2.mk (rd aC (0+(tn (wr ((aC.length:Int) - 1))))).a (rd v5 (0+(tn v7))).a)))]),[]⟩ (bl 17 16353) (pp (xL aC.length (aC.set (0+(tn (wr ((aC.length:Int) - 1)))) (R2.mk (rd aC (0+(tn (wr ((aC.length:Int) - 1))))).a (rd v5 (0+(tn v7))).a)).length) (pp (xL aC.length (aC.set (0+(tn (wr ((aC.length:Int) - 1)))) (R2.mk (rd aC (0+(tn (wr ((aC.length:Int) - 1))))).a (rd v5 (0+(tn v7))).a)).length) (pp (xS aC.length (Xn (Zz aC) (0+(tn (wr ((aC.length:Int) - 1)))) 1 [(ii (rd v5 (0+(tn v7))).a)]) (Zz (aC.set (0+(tn (wr ((aC.length:Int) - 1)))) (R2.mk (rd aC (0+(tn (wr ((aC.length:Int) - 1))))).a (rd v5 (0+(tn v7))).a)))) (pp (fl v5 (pp (xF (Xn (Zz aC) (0+(tn (wr ((aC.length:Int) - 1)))) 1 [(ii (rd v5 (0+(tn v7))).a)])) nn)) (ww k5 (ww cP (ww bW (tt k4 (ww cP (ww bW (tt k3 (tt k2 (tt k1 (ww bA (ww aG (tt k0 nn)))))))))))))))))) (fun k5=>(lb (fun k6=>(sl z2b 81 [] ⟨(List.range 9),[],y3i,y3j⟩ ⟨[],(kpB 6 [.cells [.len (aC.set (0+(tn (wr ((aC.length:Int) - 1)))) (R2.mk (rd aC (0+(tn (wr ((aC.length:Int) - 1))))).a (rd v5 (0+(tn v7))).a)).length],.keep,.rowed 2 (aC.set (0+(tn (wr ((aC.length:Int) - 1)))) (R2.mk (rd aC (0+(tn (wr ((aC.length:Int) - 1))))).a (rd v5 (0+(tn v7))).a)).length (Zz (aC.set (0+(tn (wr ((aC.length:Int) - 1)))) (R2.mk (rd aC (0+(tn (wr ((aC.length:Int) - 1))))).a (rd v5 (0+(tn v7))).a)))]),[]⟩ (bl 19 98273) (pp (xL aC.length (aC.set (0+(tn (wr ((aC.length:Int) - 1)))) (R2.mk (rd aC (0+(tn (wr ((aC.length:Int) - 1))))).a (rd v5 (0+(tn v7))).a)).length) (pp (xL aC.length (aC.set (0+(tn (wr ((aC.length:Int) - 1)))) (R2.mk (rd aC (0+(tn (wr ((aC.length:Int) - 1))))).a (rd v5 (0+(tn v7))).a)).length) (pp (xS aC.length (Xn (Zz aC) (0+(tn (wr ((aC.length:Int) - 1)))) 1 [(ii (rd v5 (0+(tn v7))).a)]) (Zz (aC.set (0+(tn (wr ((aC.length:Int) - 1)))) (R2.mk (rd aC (0+(tn (wr ((aC.length:Int) - 1))))).a (rd v5 (0+(tn v7))).a)))) (pp (fl v5 (pp (xF (Xn (Zz aC) (0+(tn (wr ((aC.length:Int) - 1)))) 1 [(ii (rd v5 (0+(tn v7))).a)])) nn)) (ww k6 (ww cP (ww bW (tt k4 (ww cP (ww bW (tt k3 (tt k2 (tt k1 (ww bA (ww aG (tt k0 nn)))))))))))))))))) (fun k6=>trivial))))) (fun k4=>(lo fun cO=>(lb (fun k5=>(sl z2b 81 [] ⟨[0,1,2,3,4,5,6,7,12],[],y3i,y3j⟩ ⟨[],(kpB 6 [.cells [.len (Uk aC aM v5 v7).length],.keep,.rowed 2 (Uk aC aM v5 v7).length (Zz (Uk aC aM v5 v7))]),[]⟩ (bl 17 8161) (pp (xL (aC.length+1) (Uk aC aM v5 v7).length) (pp (xL (aC.length+1) (Uk aC aM v5 v7).length) (pp (xS (aC.length+1) (y0d aC aM v5 v7) (Zz (Uk aC aM v5 v7))) (pp (fl v5 (pp (xF (y0d aC aM v5 v7)) nn)) (ww k5 (ww cO (tt k4 (ww cP (ww bW (tt k3 (tt k2 (tt k1 (ww bA (ww aG (tt k0 nn))))))))))))))))) (fun k5=>(lb (fun k6=>(sl z2b 81 [] ⟨[0,1,2,3,4,5,6,7,12],[],y3i,y3j⟩ ⟨[],(kpB 6 [.cells [.len (Uk aC aM v5 v7).length],.keep,.rowed 2 (Uk aC aM v5 v7).length (Zz (Uk aC aM v5 v7))]),[]⟩ (bl 19 90081) (pp (xL (aC.length+1) (Uk aC aM v5 v7).length) (pp (xL (aC.length+1) (Uk aC aM v5 v7).length) (pp (xS (aC.length+1) (y0d aC aM v5 v7) (Zz (Uk aC aM v5 v7))) (pp (fl v5 (pp (xF (y0d aC aM v5 v7)) nn)) (ww k6 (ww cO (tt k4 (ww cP (ww bW (tt k3 (tt k2 (tt k1 (ww bA (ww aG (tt k0 nn))))))))))))))))) (fun k6=>trivial)))))))))) (fun k3=>(lo fun bW=>(lb (fun k4=>(sl z2b 81 [] ⟨[0,1,2,3,4,5,6,7,12],[],y3i,y3j⟩ ⟨[],(kpB 6 [.cells [.len (Uk aC aM v5 v7).length],.keep,.rowed 2 (Uk aC aM v5 v7).length (Zz (Uk aC aM v5 v7))]),[]⟩ (bl 17 1) (pp (xL (aC.length+1) (Uk aC aM v5 v7).length) (pp (xL (aC.length+1) (Uk aC aM v5 v7).length) (pp (xS (aC.length+1) (y0d aC aM v5 v7) (Zz (Uk aC aM v5 v7))) (pp (fl v5 (pp (xF (y0d aC aM v5 v7)) nn)) (ww k4 (ww bW (tt k3 (tt k2 (tt k1 (ww bA (ww aG (tt k0 nn)))))))))))))) (fun k4=>(lb (fun k5=>(sl z2b 81 [] ⟨[0,1,2,3,4,5,6,7,12],[],y3i,y3j⟩ ⟨[],(kpB 6 [.cells [.len (Uk aC aM v5 v7).length],.keep,.rowed 2 (Uk aC aM v5 v7).length (Zz (Uk aC aM v5 v7))]),[]⟩ (bl 19 81921) (pp (xL (aC.length+1) (Uk aC aM v5 v7).length) (pp (xL (aC.length+1) (Uk aC aM v5 v7).length) (pp (xS (aC.length+1) (y0d aC aM v5 v7) (Zz (Uk aC aM v5 v7))) (pp (fl v5 (pp (xF (y0d aC aM v5 v7)) nn)) (ww k5 (ww bW (tt k3 (tt k2 (tt k1 (ww bA (ww aG (tt k0 nn)))))))))))))) (fun k5=>trivial)))))))))))))) (fun k0=>(lb (fun k1=>(lr 11 3 [1,1,1,1,1,1,1,0] 1 28 [(4,.nils),(5,(ii 4))] (sl z2b 37 [] ⟨[],[],[some [4,5]],[]⟩ ⟨[],[],[]⟩ (bl 2 2) (tt k1 (tt k0 nn))))) (fun k1=>(lr 11 3 [1,1,1,1,1,1,1,0] 1 28 [(4,(.dat aC.length (Zz aC))),(5,(ii 0))] (sl z2b 39 [] ⟨[],[8],[some [4,5]],[]⟩ ⟨[(4,.frz aC.length aC.length (Zz aC) (Zz aC))],[],[]⟩ (bl 2 0) (pp (xZ (z6i 2 2 0 aC.length aC.length (Zz aC)) aC.length (Zz aC)) (pp (xL aC.length aC.length) (pp (xS aC.length (Zz aC) (Zz aC)) (pp (fl aC nn) (tt k1 (tt k0 nn))))))))))))
theorem x5l (q:Op) (l0:List R2) (l1:List R2):Xq prog (Zy prog (nSp q)) (spjC q l0 l1) (Zc prog (nSp q) [(.dat l0.length (Zz l0)),(.dat l1.length (Zz l1))] true []) (y1k q l0 l1):=by cases q <;> exact (lo fun bU=>(lb (fun k0=>(lr 11 3 [1,1,1,1,1,1,1,0] 1 28 [(4,.nils),(5,(ii (y6c (cvT l0))))] (sl z2b 40 [] ⟨[],[],[some [4,5]],[]⟩ ⟨[],[],[]⟩ [true] (tt k0 (pp (pp (xr l0) (xw bU)) nn))))) (fun k0=>(lo fun aG=>(lb (fun k1=>(lr 11 3 [1,1,1,1,1,1,1,0] 1 28 [(4,.nils),(5,(ii (y6c (cvT l1))))] (sl z2b 54 [] ⟨[],[],[some [4,5]],[]⟩ ⟨[],[],[]⟩ [false,true] (tt k1 (pp (pp (xr l1) (xw aG)) (tt k0 (pp (pp (xr l0) (xw bU)) nn))))))) (fun k1=>(sl z2b 124 [(246,3,Zz ([]:List R3))] ⟨[6,0,1,2,3,4,5,7],[],spjN0,spjM0⟩ ⟨[(3,.grow 7 3)],[],[]⟩ [false,false,true] (pp (fl ([]:List R3) nn) (tt k1 (pp (pp (xr l1) (xw aG)) (tt k0 (pp (pp (xr l0) (xw bU)) nn))))))))))))
theorem v4n (q:Op) (l0:List R2) (l1:List R2) (n:Nat) (vs:List AVal) (h:Yj (Wa q l0 l1) n (y1k q l0 l1)=.ret vs):Kv prog (Zy prog (nSp q)) (Zc prog (nSp q) [(.dat l0.length (Zz l0)),(.dat l1.length (Zz l1))] true []) vs:=by have:=Zn (w3k q l0 l1) n _ (x5l q l0 l1);rwa [h] at this
def spE (k:Nat) (a b:List R2):Int:=bif y6c a != 0 then y6c a else bif y6c b != 0 then y6c b else y5c (spJ k a b).length
theorem y0p (i:Int) (l:List R2):(Wm i l).length =2*l.length:=by
 induction l with
 | nil=>rfl
 | cons r l ih=>show (_::_::Wm i l).length =_;simp only [AV,ih];omega
theorem y8y (j:Int) (l:List R2) (i:Nat) (h:i<l.length):Wm j (l.drop i)=Wm j [rd l i]++Wm j (l.drop (i+1)):=by rw [Ym h];rfl
theorem z8b {j:Int} {l:List R2} {e:R3} (h:e∈Wm j l):e.b=j∧(e.c=1∨e.c= -1):=by
 obtain ⟨s,_,h⟩:=AO.1 h;simp only [AB,Bm,Ca] at h;rcases h with rfl | rfl
 ·exact ⟨rfl,.inl rfl⟩
 ·exact ⟨rfl,.inr rfl⟩
theorem w0c (f:Bool→Bool→Bool) (e:R3) (r:List R3) (o p last:Int) (inn:Bool) (out:List R2):sw2 f (e::r) o p last inn out=sw2 f r (bif e.b == 0 then o+e.c else o) (bif e.b == 0 then p else p+e.c) e.a (f (decide ((bif e.b == 0 then o+e.c else o)>0)) (decide ((bif e.b == 0 then p else p+e.c)>0))) (Vf out last inn e.a):=rfl
section
variable (q:Op) (a b:List R2)
theorem v9x (L:List R3) (hL:L.length≤2000) (hE: ∀i,i<L.length→((rd L i).b =0∨(rd L i).b =1)∧((rd L i).c =1∨(rd L i).c = -1)): ∀(k i:Nat) (o p last:Int) (inn:Bool) (out:List R2),i+k=L.length→ -(i:Int)≤o→o≤i→ -(i:Int)≤p→p≤i→out.length≤i→
  ∃n,Yj (Wa q a b) n (.to (.h2 L (L.length:Int) (i:Int) o p last inn out))=.ret (Qx (sw2 (opB q.k) (L.drop i) o p last inn out))
 | 0,i,o,p,last,inn,out,h,ho1,ho2,hp1,hp2,hout=>by
  refine ⟨1,?_⟩;rw [Zv,Au (by omega)];unfold Qx;show _=Xf.ret (bif decide ((out.length:Int)>400) then _ else _);rcases Ye (decide ((out.length:Int)>400)) with g | g <;>
  simp (disch:=omega) only [Wa,Yw,g,Ab,Aa,Zg];rfl
 | k + 1,i,o,p,last,inn,out,h,ho1,ho2,hp1,hp2,hout=>by
  obtain ⟨hb,hc⟩:=hE i (by omega);have hcl:=z2y out last inn (rd L i).a;have hcf: ∀x y,cV q x y=opB q.k x y:=fun _ _=>rfl;have hlt:decide ((i:Int)<(L.length:Int))=true:=Ah (by omega);have hw:wrap .i64 (o+(rd L i).c)=o+(rd L i).c :=Zp (by rcases hc with hc | hc <;> omega);have hw':wrap .i64 (p+(rd L i).c)=p+(rd L i).c :=Zp (by rcases hc with hc | hc <;> omega);have key: ∀(o' p':Int) (out':List R2),-((i+1:Nat):Int)≤o'→o'≤((i+1:Nat):Int)→ -((i+1:Nat):Int)≤p'→p'≤((i+1:Nat):Int)→out'=Vf out last inn (rd L i).a →
    Wa q a b (.h2 L (L.length:Int) (i:Int) o p last inn out)=.to (.h2 L (L.length:Int) ((i+1:Nat):Int) o' p' (rd L i).a (opB q.k (decide (o'>0)) (decide (p'>0))) out')→
    sw2 (opB q.k) (L.drop i) o p last inn out=sw2 (opB q.k) (L.drop (i+1)) o' p' (rd L i).a (opB q.k (decide (o'>0)) (decide (p'>0))) out'→
    ∃n,Yj (Wa q a b) n (.to (.h2 L (L.length:Int) (i:Int) o p last inn out))=.ret (Qx (sw2 (opB q.k) (L.drop i) o p last inn out)):=fun o' p' out' b1 b2 b3 b4 eo hs hq=>by
   obtain ⟨n,hn⟩:=v9x L hL hE k (i+1) o' p' (rd L i).a (opB q.k (decide (o'>0)) (decide (p'>0))) out' (by omega) b1 b2 b3 b4 (by rw [eo];omega);refine ⟨n+1,?_⟩;rw [Zv,hs,hq];exact hn
  rcases hb with hb | hb
  ·have hz:decide ((rd L i).b =Int.ofNat 0)=true:=Ah hb;have hb0:((rd L i).b == 0)=true:=by rw [hb];rfl
   refine key (o+(rd L i).c) p (Vf out last inn (rd L i).a) (by rcases hc with hc | hc <;> omega) (by rcases hc with hc | hc <;> omega) (by omega) (by omega) rfl ?_ ?_
   ·unfold Vf;cases inn with
    | false=>simp (disch:=omega) only [Wa,hlt,hz,hw,hw',hcf,Zs,Zt,Yk,Zp,Zx,Zk,Ag,Ai,Ab,Aa,AK]
    | true=>
     rcases Ye (last == (rd L i).a) with g | g
     ·simp (disch:=omega) only [Wa,hlt,hz,hw,hw',hcf,Zs,Zt,Yk,Zp,Zx,Zk,Ag,Ai,Ab,Aa,AG,g]
     ·by_cases h0:0<out.length
      ·rw [Ah h0,Al];rcases Ye ((rd out (out.length - 1)).b == last) with q2 | q2
       ·simp (disch:=omega) only [Wa,hlt,hz,hw,hw',hcf,Zs,Zt,Yk,Zp,Zx,Zk,Ag,Ai,Ab,Aa,AG,g,q2,Yo,Ze]
       ·simp (disch:=omega) only [Wa,hlt,hz,hw,hw',hcf,Zs,Zt,Yk,Zp,Zx,Zk,Ag,Ai,Ab,Aa,AG,Al,g,q2,Yo,Ze,Yp,Zf,Ya,Av]
      ·rw [Ay h0,BC];simp (disch:=omega) only [Wa,hlt,hz,hw,hw',hcf,Zs,Zt,Yk,Zp,Zx,Zk,Ag,Ai,Ab,Aa,AG,Al,g,Xb,Yp,Zf,Ya,Av]
   ·rw [Ym (show i<L.length by omega),w0c,hb0];rfl
  ·have hz0:decide ((rd L i).b =Int.ofNat 0)=false:=Ay (by rw [hb];decide);have hz:decide ((rd L i).b =Int.ofNat 1)=true:=Ah hb;have hb0:((rd L i).b == 0)=false:=by rw [hb];rfl
   refine key o (p+(rd L i).c) (Vf out last inn (rd L i).a) (by omega) (by omega) (by rcases hc with hc | hc <;> omega) (by rcases hc with hc | hc <;> omega) rfl ?_ ?_
   ·unfold Vf;cases inn with
    | false=>simp (disch:=omega) only [Wa,hlt,hz0,hz,hw,hw',hcf,Zs,Zt,Yk,Zp,Zx,Zk,Ag,Ai,Ab,Aa,AK]
    | true=>
     rcases Ye (last == (rd L i).a) with g | g
     ·simp (disch:=omega) only [Wa,hlt,hz0,hz,hw,hw',hcf,Zs,Zt,Yk,Zp,Zx,Zk,Ag,Ai,Ab,Aa,AG,g]
     ·by_cases h0:0<out.length
      ·rw [Ah h0,Al];rcases Ye ((rd out (out.length - 1)).b == last) with q2 | q2
       ·simp (disch:=omega) only [Wa,hlt,hz0,hz,hw,hw',hcf,Zs,Zt,Yk,Zp,Zx,Zk,Ag,Ai,Ab,Aa,AG,g,q2,Yo,Ze]
       ·simp (disch:=omega) only [Wa,hlt,hz0,hz,hw,hw',hcf,Zs,Zt,Yk,Zp,Zx,Zk,Ag,Ai,Ab,Aa,AG,Al,g,q2,Yo,Ze,Yp,Zf,Ya,Av]
      ·rw [Ay h0,BC];simp (disch:=omega) only [Wa,hlt,hz0,hz,hw,hw',hcf,Zs,Zt,Yk,Zp,Zx,Zk,Ag,Ai,Ab,Aa,AG,Al,g,Xb,Yp,Zf,Ya,Av]
   ·rw [Ym (show i<L.length by omega),w0c,hb0];rfl
theorem v9y (ha:a.length≤400) (hb:b.length≤400) (va:a.all z1j=true) (vb:b.all z1j=true): ∀(k i:Nat) (E:List R3),i+k=b.length→E.length=2*a.length+2*i→E++Wm 1 (b.drop i)=Wm 0 a++Wm 1 b→ ∃n,Yj (Wa q a b) n (.to (.h1 E (i:Int)))=.ret (Qx (spJ q.k a b))
 | 0,i,E,h,hl,he=>by
  rw [Au (by omega),show Wm 1 []=[] from rfl,AA] at he;subst he;have hbnd:y0x (Wm 0 a++Wm 1 b)=true:=by have h1:=z8c 0 a va;have h2:=z8c 1 b vb;unfold y0x at*;rw [List.all_append,h1,h2];rfl
  have hsl:=y3e (Wm 0 a++Wm 1 b);obtain ⟨hp,_⟩:=Kn _ hbnd;obtain ⟨n,hn⟩:=v9x q a b (z0q (Wm 0 a++Wm 1 b)) (by rw [hsl];omega) (fun i hi=>by
   have hm:rd (z0q (Wm 0 a++Wm 1 b)) i∈Wm 0 a++Wm 1 b:=hp.mem_iff.1 (by rw [Xp hi];exact AS hi);rcases AC.1 hm with g | g
   ·exact ⟨.inl (z8b g).1,(z8b g).2⟩
   ·exact ⟨.inr (z8b g).1,(z8b g).2⟩) (z0q (Wm 0 a++Wm 1 b)).length 0 0 0 0 false [] (Ag _) (by omega) (by omega) (by omega) (by omega) (AJ _)
  refine ⟨n+1,?_⟩;rw [Zv];have step:Wa q a b (.h1 (Wm 0 a++Wm 1 b) (i:Int))=.to (.h2 (z0q (Wm 0 a++Wm 1 b)) (((Wm 0 a++Wm 1 b).length :Nat):Int) 0 0 0 0 false []):=by simp (disch:=omega) only [Wa,Za,Yw,hbnd,Yk,Av,Ab,Aa]
  rw [step,←hsl];exact hn
 | k+1,i,E,h,hl,he=>by rw [y8y 1 b i (by omega),←AL] at he;obtain ⟨n,hn⟩:=v9y ha hb va vb k (i+1) (E++Wm 1 [rd b i]) (by omega) (by rw [Az,y0p];simp;omega) he;refine ⟨n+1,?_⟩;rw [Zv];simp (disch:=omega) only [Wa,Yp,Zf,Ya,Av,Al,Zs,Zt,Yk,Zp,Zx,Zk,Ag,Ai,Ab,Aa];exact hn
theorem v9z (ha:a.length≤400) (hb:b.length≤400) (va:a.all z1j=true) (vb:b.all z1j=true): ∀(k i:Nat) (E:List R3),i+k=a.length→E.length=2*i→E++Wm 0 (a.drop i)=Wm 0 a→ ∃n,Yj (Wa q a b) n (.to (.h0 E (i:Int)))=.ret (Qx (spJ q.k a b))
 | 0,i,E,h,hl,he=>by rw [Au (by omega),show Wm 0 []=[] from rfl,AA] at he;subst he;obtain ⟨n,hn⟩:=v9y q a b ha hb va vb b.length 0 (Wm 0 a) (Ag _) (by omega) (by rw [A2]);refine ⟨n+1,?_⟩;rw [Zv];simp (disch:=omega) only [Wa,Yw,Aa];exact hn
 | k+1,i,E,h,hl,he=>by rw [y8y 0 a i (by omega),←AL] at he;obtain ⟨n,hn⟩:=v9z ha hb va vb k (i+1) (E++Wm 0 [rd a i]) (by omega) (by rw [Az,y0p];simp;omega) he;refine ⟨n+1,?_⟩;rw [Zv];simp (disch:=omega) only [Wa,Yp,Zf,Ya,Av,Al,Zs,Zt,Yk,Zp,Zx,Zk,Ag,Ai,Ab,Aa];exact hn
theorem u4w : ∃n,Yj (Wa q a b) n (y1k q a b)=.ret (y3q (spE q.k a b) (spJ q.k a b)):=by
 unfold y1k;have o: ∀l,z3w l=true:=fun _=>rfl;simp only [Za,o,Ab];rcases Ye (y6c a != 0) with q1 | q1
 ·exact ⟨0,by simp only [spE,q1,Ab,z2k _ q1];rfl⟩
 rcases Ye (y6c b != 0) with q2 | q2
 ·exact ⟨0,by simp only [spE,q1,q2,Ab,Aa,z2k _ q2];rfl⟩
 obtain ⟨a1,a2,_⟩:=(y1o a).1 (by simpa using q1);obtain ⟨b1,b2,_⟩:=(y1o b).1 (by simpa using q2);obtain ⟨n,hn⟩:=v9z q a b a1 b1 a2 b2 a.length 0 [] (Ag _) rfl (by rw [A2,Bk]);refine ⟨n,?_⟩;simp only [spE,q1,q2,Aa,←z8h];exact hn
end
def z3t (q:Op) (a b:List R2):List R2:=x1a (spE q.k a b) (spJ q.k a b)
def w3l (q:Op) (a b:List R2):Int:=spE q.k a b
def y9o (q:Op) (a b:List R2):Bool:=true
def fSp (q:Op):List AVal→Option (AVal×Bool)
 | [a1,a2]=>match asL R2 a1,asL R2 a2 with
  | some (L1,g1,n1),some (L2,g2,n2)=>some (.tup [.dat (z3t q L1 L2).length (Zz (z3t q L1 L2)),.int .i64 (w3l q L1 L2)],isT R2 n1 g1&&(isT R2 n2 g2&&y9o q L1 L2))
  | _,_=>none
 | _=>none
theorem v2j (q:Op) {S:Specs} (hS:Zj prog S):Zj prog (S.with (nSp q) (fSp q)):=by
 refine w7a hS (by cases q <;> kernel_rfl) fun args v h=> ?_;unfold fSp at h;split at h
 ·rename_i a1 a2;split at h
  ·rename_i L1 g1 n1 L2 g2 n2 e1 e2;simp only [Ae,Ad,Ac] at h;obtain ⟨rfl,ho1,ho2,_⟩:=h;obtain ⟨N,hN⟩:=u4w q L1 L2;exact ⟨_,_,(.cons (Yr e1 ho1) (.cons (Yr e2 ho2) .nil)),z0r _ _,v4n q L1 L2 N _ hN,3,z6d _ _⟩
  ·cases h
 ·cases h
def Ub :Specs:=((Ua.with (nSp .u) (fSp .u)).with (nSp .e) (fSp .e)).with (nSp .d) (fSp .d)
theorem y5u :Zj prog Ub:=v2j .d (v2j .e (v2j .u z2b))
inductive rgcS where
 | h0 (v8:Int)
def rgcC (l0:List R4):rgcS→Cfg
 | .h0 v8=>⟨⟨19,0,true⟩,none,(Zd prog 203 [1,0,1,0,0] 0),none,(Zy prog 5),⟨Yd [(0,(.dat l0.length (Zz l0))),(1,(.fn 199 [])),(7,(ii (l0.length:Int))),(8,(ii v8))],Uy [] 0,0,[],true⟩,[⟨⟨9,0,true⟩,(Up prog 198 [1,0] 2),(Zd prog 198 [1,0] 1),none,(Zy prog 5),Yd [(5,(.dat l0.length (Zz l0))),(6,(.fn 199 []))]⟩,⟨⟨23,0,true⟩,(Up prog 189 [1,1,0,0] 1),(Zd prog 189 [1,1,0,0] 1),none,(Zy prog 3),Yd [(0,(.dat l0.length (Zz l0))),(8,(.dat l0.length (Zz l0)))]⟩],.leaf⟩
def rgcN0 :List (Option (List Nat)):=[some [0,1,7,8],some [5,6],some [0,8]]
def rgcM0 :List (Option (List Nat)):=[]
def z2j (l0:List R4):rgcS→Xf rgcS
 | .h0 v8=>(bif (decide (v8<(l0.length:Int))) then (bif ((decide (0≤v8∧v8<(l0.length:Int)))&&true) then (bif (!(u4l (rd l0 v8.toNat).a (rd l0 v8.toNat).b (rd l0 v8.toNat).c (rd l0 v8.toNat).d)) then (bif (decide (v8≥0)) then (.ret [(.int .i64 8)]) else (bif (Qz (cvT l0)) then (bif ((z0w (cvT l0)) != 0) then (.ret [(.int .i64 8)]) else (bif (Wb (cvT (Wp (cvT l0))) (cvT l0)) then (bif (!(Jh (cvT (Wp (cvT l0))) (cvT l0))) then (.ret [(.int .i64 8)]) else (.ret [(.int .i64 0)])) else .stuck)) else .stuck)) else (.to (.h0 (wrap .i64 (v8+1))))) else .stuck) else (bif (Qz (cvT l0)) then (bif ((z0w (cvT l0)) != 0) then (.ret [(.int .i64 8)]) else (bif (Wb (cvT (Wp (cvT l0))) (cvT l0)) then (bif (!(Jh (cvT (Wp (cvT l0))) (cvT l0))) then (.ret [(.int .i64 8)]) else (.ret [(.int .i64 0)])) else .stuck)) else .stuck))
def z7e (l0:List R4):Xf rgcS:=(bif (decide ((l0.length:Int)>400)) then (.ret [(.int .i64 4)]) else (.to (.h0 0)))
theorem w4h (l0:List R4): ∀s,Xq prog (Zy prog 189) (rgcC l0) (rgcC l0 s) (z2j l0 s)
 | .h0 v8=>(lb (fun k0=>(lo fun aG=>(lb (fun k1=>(lb (fun k2=>(lr 23 189 [1,1,0,1,0,0] 1 3 [(2,(ii 8))] (sl y5u 53 [] ⟨[],[],[some [2]],[]⟩ ⟨[],[],[]⟩ (trs 3 []) (tt k2 (tt k1 (ww aG (tt k0 nn))))))) (fun k2=>(lo fun cG=>(lb (fun k3=>(lr 23 189 [1,1,1,0,1,1,0,0] 1 3 [(2,(ii 8))] (sl y5u 77 [] ⟨[],[],[some [2]],[]⟩ ⟨[],[],[]⟩ (bl 8 251) (tt k3 (pp (pp (xr l0) (xw cG)) (tt k2 (tt k1 (ww aG (tt k0 nn))))))))) (fun k3=>(lo fun bW=>(lb (fun k4=>(lr 23 189 [1,1,1,0,1,1,0,0] 1 3 [(2,(ii 8))] (sl y5u 77 [] ⟨[],[],[some [2]],[]⟩ ⟨[],[],[]⟩ (bl 8 131) (tt k4 (pp (pp (xI R4 (Wp (cvT l0)).length (Zz (Wp (cvT l0)))) (pp (xr l0) (xw bW))) (tt k3 (pp (pp (xr l0) (xw cG)) (tt k2 (tt k1 (ww aG (tt k0 nn))))))))))) (fun k4=>(lr 23 3 [1,1,1,1,1,1,1,0] 1 3 [(2,(ii 0))] (sl y5u 78 [] ⟨[],[],[some [2]],[]⟩ ⟨[],[],[]⟩ (bl 8 3) (tt k4 (pp (pp (xI R4 (Wp (cvT l0)).length (Zz (Wp (cvT l0)))) (pp (xr l0) (xw bW))) (tt k3 (pp (pp (xr l0) (xw cG)) (tt k2 (tt k1 (ww aG (tt k0 nn))))))))))))))))))) (fun k1=>(sl y5u 44 [] ⟨[],[],rgcN0,rgcM0⟩ ⟨[],[],[]⟩ (bl 2 1) (tt k1 (ww aG (tt k0 nn)))))))) (fun k0=>(lo fun aG=>(lb (fun k1=>(lr 23 189 [1,1,1,0,1,1,0,0] 1 3 [(2,(ii 8))] (sl y5u 46 [] ⟨[],[],[some [2]],[]⟩ ⟨[],[],[]⟩ (bl 7 124) (tt k1 (pp (pp (xr l0) (xw aG)) (tt k0 nn)))))) (fun k1=>(lo fun bT=>(lb (fun k2=>(lr 23 189 [1,1,1,0,1,1,0,0] 1 3 [(2,(ii 8))] (sl y5u 46 [] ⟨[],[],[some [2]],[]⟩ ⟨[],[],[]⟩ (bl 7 64) (tt k2 (pp (pp (xI R4 (Wp (cvT l0)).length (Zz (Wp (cvT l0)))) (pp (xr l0) (xw bT))) (tt k1 (pp (pp (xr l0) (xw aG)) (tt k0 nn)))))))) (fun k2=>(lr 23 3 [1,1,1,1,1,1,1,0] 1 3 [(2,(ii 0))] (sl y5u 47 [] ⟨[],[],[some [2]],[]⟩ ⟨[],[],[]⟩ (bl 7 0) (tt k2 (pp (pp (xI R4 (Wp (cvT l0)).length (Zz (Wp (cvT l0)))) (pp (xr l0) (xw bT))) (tt k1 (pp (pp (xr l0) (xw aG)) (tt k0 nn)))))))))))))))
theorem x6n (l0:List R4):Xq prog (Zy prog 189) (rgcC l0) (Zc prog 189 [(.dat l0.length (Zz l0))] true []) (z7e l0):=(lb (fun k0=>(lr 23 189 [1,0,1,0,0] 1 3 [(2,(ii 4))] (sl y5u 16 [] ⟨[],[],[some [2]],[]⟩ ⟨[],[],[]⟩ [true] (tt k0 nn)))) (fun k0=>(sl y5u 40 [] ⟨[],[],rgcN0,rgcM0⟩ ⟨[],[],[]⟩ [false] (tt k0 nn))))
theorem v6b (l0:List R4) (n:Nat) (vs:List AVal) (h:Yj (z2j l0) n (z7e l0)=.ret vs):Kv prog (Zy prog 189) (Zc prog 189 [(.dat l0.length (Zz l0))] true []) vs:=by have:=Zn (w4h l0) n _ (x6n l0);rwa [h] at this
def rgcF (l:List R4):Int:=bif z0w l != 0 then 8 else bif Jh (Wp l) l then 0 else 8
def y5x (l:List R4):Int:=bif decide (400<l.length) then 4 else bif l.all Vp then rgcF l else 8
def z3z (l:List R4):Bool:=true
theorem x7p (l:List R4):(Wp l).length ≤400:=by
 unfold Wp u3q x1a y5c;by_cases h:((D4.out l).length :Int)>400
 ·rw [Ah h];exact AJ _
 ·rw [Ay h];show (D4.out l).length ≤400;omega
theorem u1p (l:List R4) (hl:l.length≤400): ∀(k i:Nat),i+k=l.length→(∀s∈l.take i,Vp s=true)→ ∃n,Yj (z2j l) n (.to (.h0 (i:Int)))=.ret (bif l.all Vp then [.int .i64 (rgcF l)] else [.int .i64 8])
 | 0,i,h,ht=>by
  have hv:l.all Vp=true:=As.2 fun s hs=>ht s (by rw [AU (by omega)];exact hs);have w:Qz l=true:=Ah hl;refine ⟨1,?_⟩;rw [Zv,hv,Ab];have w2:Wb (Wp l) l=true:=Ah (by have:=x7p l;omega);unfold rgcF;rcases Ye (z0w l != 0) with q | q
  ·simp (disch:=omega) only [z2j,Za,w,q,Yw,Ab,Aa,Zg]
  ·rcases Ye (Jh (Wp l) l) with q2 | q2 <;>
   simp (disch:=omega) only [z2j,Za,w,w2,q,q2,Yw,AG,AK,Ab,Aa,Zg]
 | k+1,i,h,ht=>by
  have hi:i<l.length:=by omega
  have hs:z2j l (.h0 (i:Int))=bif Vp (rd l i) then .to (.h0 ((i+1:Nat):Int)) else .ret [.int .i64 8]:=by have e:u4l (rd l i).a (rd l i).b (rd l i).c (rd l i).d =Vp (rd l i):=rfl;simp (disch:=omega) only [z2j,e,z6q,x4c,x4d,Zt,Zp,Zx,Zk,Ai,Ab,Aa]
  rcases Ye (Vp (rd l i)) with q | q
  ·obtain ⟨n,hn⟩:=u1p l hl k (i+1) (by omega) (fun s hs=>by
    rw [Bn] at hs;have e:l[i]? =some (rd l i):=by rw [Xp hi];exact Ar _
    rw [e] at hs;simp only [Cd,AC,AM] at hs;rcases hs with hs | rfl
    ·exact ht s hs
    ·exact q)
   refine ⟨n+1,?_⟩;rw [Zv,hs,q,Ab];exact hn
  ·have hv:l.all Vp=false:=A7.2 fun e=>by have:=As.1 e (rd l i) (by rw [Xp hi];exact AS hi);rw [this] at q;cases q
   refine ⟨1,?_⟩;rw [Zv,hv,Aa,hs,q,Aa,Zg]
theorem v6a (l:List R4): ∃n,Yj (z2j l) n (z7e l)=.ret (bif decide (400<l.length) then [.int .i64 4] else bif l.all Vp then [.int .i64 (rgcF l)] else [.int .i64 8]):=by
 unfold z7e;by_cases h:400<l.length
 ·refine ⟨0,?_⟩;rw [Ah h,Yo (show (l.length:Int)>400 by omega)];rfl
 ·obtain ⟨n,hn⟩:=u1p l (by omega) l.length 0 (Ag _) (fun s hs=>by simp at hs);refine ⟨n,?_⟩;rw [Ay h,Xb (show¬(l.length:Int)>400 by omega),Aa,Aa];exact hn
theorem u6m (l:List R4) (h:z3z l=true): ∃n,Yj (z2j l) n (z7e l)=.ret [.int .i64 (y5x l)]:=by obtain ⟨n,hn⟩:=v6a l;refine ⟨n,hn.trans ?_⟩;unfold y5x;cases decide (400<l.length) <;> cases l.all Vp <;> rfl
def fRgc :List AVal→Option (AVal×Bool)
 | [a0]=>match asL R4 a0 with
  | some (L0,g0,n0)=>some (.int .i64 (y5x L0),isT R4 n0 g0&&(z3z L0))
  | _=>none
 | _=>none
theorem u8w {S:Specs} (hS:Zj prog S):Zj prog (S.with w1c fRgc):=by
 refine z3m hS (by kernel_rfl) fun args v h=> ?_;unfold fRgc at h;split at h
 ·rename_i a0;split at h
  ·rename_i L0 g0 n0 e0;simp only [Ae,Ad,Ac] at h;obtain ⟨rfl,ho0,hw⟩:=h;obtain ⟨N,hN⟩:=u6m L0 hw;exact ⟨_,_,(.cons (Yr e0 ho0) .nil),rfl,v6b L0 N _ hN,3,rfl⟩
  ·cases h
 ·cases h
def Uc :Specs:=(Ub.with w1c fRgc)
theorem Kj :Zj prog Uc:=(u8w y5u)
inductive rgjS where
 | h0 (v16:Int) (aA:List Int)
 | h1 (v16:Int) (aA:List Int)
 | h2 (v4:Int) (aF:List R4) (aS:List R2) (aY:Int) (aZ:Int) (aE:Nat) (aH:List Int)
 | h3 (v4:Int) (v38:Int) (aF:List R4) (aS:List R2) (aY:Int) (aZ:Int) (aE:Nat) (aH:List Int) (aO:Int) (bB:Int) (aB:List R2)
 | h4 (v4:Int) (v38:Int) (aF:List R4) (aS:List R2) (aY:Int) (aZ:Int) (aE:Nat) (aH:List Int) (aO:Int) (bB:Int) (aB:List R2) (aK:List R2)
 | h5 (v1:Int) (v2:Int) (v71:List R2) (v72:Int) (v73:Int) (aU:Int) (aD:List R4) (bD:Int) (aE:Nat) (aH:List Int) (aO:List R2) (bB:List R2)
 | h6 (v2:Int) (v8:Int) (cM:Int) (cN:List R2) (aU:Int) (aD:List R4) (bC:List R2) (bD:Int) (bV:Int) (bH:Nat) (bO:List Int) (aB:List R2) (aK:List R2)
def y3p (q:Op) (l0:List R4) (l1:List R4):AFr:=⟨⟨11,0,true⟩,(Up prog (nRg q) [1,0] 2),(Zd prog (nRg q) [1,0] 1),none,(Zy prog 28),Yd [(6,(.dat l0.length (Zz l0))),(7,(.dat l1.length (Zz l1)))]⟩
abbrev y7s (aD:List R4) (v8:Int) (v2:Int):=(aD.set (0+(tn v8)) (R4.mk (rd aD (0+(tn v8))).a (rd aD (0+(tn v8))).b v2 (rd aD (0+(tn v8))).d))
def w9g :=(y6j [(0,⟨.ready,none,49,Yd [(5,(.ptr 1 0)),(6,(.ptr 2 0)),(7,(.ptr 3 0)),(9,(.ptr 4 0))],[23],(Vr prog 122 [1,1,1,0,1,0,0]),(Vr prog 122 [1,1,1,0,1,0,1])⟩)])
abbrev y7r (aA:List Int):=(Wf (Yx aA.length (cOf (Zz (Xv (Yx aA.length (cOf (Zz aA))))))))
def w9f :AFr:=⟨⟨49,0,true⟩,none,(.inRangeFunc 0::(Zd prog 122 [1,1,1,0,1,0] 1)),none,(Zy prog 122),Yd [(6,(.ptr 2 0)),(7,(.ptr 3 0)),(9,(.ptr 4 0))]⟩
def y3o (l0:List R4) (l1:List R4):ABlk:=⟨[(.dat l0.length (Zz l0)),(.dat l1.length (Zz l1))],100,none⟩
def u1o :AFr:=⟨⟨49,0,true⟩,(Up prog 122 [1,1,1,0,0] 3),(Zd prog 122 [1,1,1,0,0] 1),none,(Zy prog 122),Yd [(5,(.ptr 3 0)),(6,(.ptr 4 0)),(7,(.ptr 5 0)),(9,(.ptr 6 0)),(21,(.sl 1 0 2 (.un 1)))]⟩
abbrev y7q (aB:List R2) (l0:List R4) (v38:Int):=(aB++[(R2.mk (rd l0 (tn v38)).b (rd l0 (tn v38)).d)])
abbrev y7p (aK:List R2) (l1:List R4) (v38:Int):=(aK++[(R2.mk (rd l1 (tn v38)).b (rd l1 (tn v38)).d)])
def y3n (q:Op):ABlk:=⟨[(.fn (nSp q) [])],151,none⟩
abbrev z8u (aD:List R4) (v1:Int) (v71:List R2) (v73:Int) (v2:Int):=(aD++[(R4.mk v1 (rd v71 (tn v73)).a v2 (rd v71 (tn v73)).b)])
abbrev z8t (aA:List Int) (l0:List R4) (v16:Int):=(aA++[(rd l0 (tn v16)).a,(rd l0 (tn v16)).c])
abbrev z8s (aA:List Int) (l1:List R4) (v16:Int):=(aA++[(rd l1 (tn v16)).a,(rd l1 (tn v16)).c])
def x0a :ABlk:=⟨[(.sl 8 0 2 (.un 1))],236,none⟩
def w9h :=(Zd prog 190 [1,0,0,1,0,0,1,0,1,0,0,1,1,0,0,1,1,0,0] 0)
def rgjC (q:Op) (l0:List R4) (l1:List R4):rgjS→Cfg
 | .h0 v16 aA=>⟨⟨34,0,true⟩,none,(Zd prog 161 [1,1,0,1,0,0,1,1,0,0,1,1,0,0] 0),none,(Zy prog 3),⟨Yd [(1,(.ptr 0 0)),(3,(.ptr 2 0)),(8,(.sl 1 0 2 (.un 1))),(9,(ii 2)),(10,(ii 0)),(14,(.dat l0.length (Zz l0))),(15,(ii (l0.length:Int))),(16,(ii v16))],Uy [⟨[(.sl 1 0 2 (.un 1))],236,none⟩,(y3o l0 l1),⟨[(.sla 7 1 0 aA.length (.un 1))],93,none⟩,(y3n q),⟨[.nils],100,none⟩,⟨[(ii 0)],26,none⟩,⟨[.nils,.nils,(ii 0),(ii 0)],200,none⟩,⟨rows aA.length (Zz aA),3,some ⟨1,aA.length,(Zz aA)⟩⟩] 0,8,[],true⟩,[u1o,(y3p q l0 l1)],.leaf⟩
 | .h1 v16 aA=>⟨⟨34,0,true⟩,none,(Zd prog 161 [1,1,0,1,0,0,1,1,0,0,1,1,0,0] 0),none,(Zy prog 3),⟨Yd [(1,(.ptr 0 0)),(3,(.ptr 2 0)),(8,(.sl 1 0 2 (.un 1))),(9,(ii 2)),(10,(ii 1)),(14,(.dat l1.length (Zz l1))),(15,(ii (l1.length:Int))),(16,(ii v16))],Uy [⟨[(.sl 1 0 2 (.un 1))],236,none⟩,(y3o l0 l1),⟨[(.sla 7 1 0 aA.length (.un 1))],93,none⟩,(y3n q),⟨[.nils],100,none⟩,⟨[(ii 0)],26,none⟩,⟨[.nils,.nils,(ii 0),(ii 0)],200,none⟩,⟨rows aA.length (Zz aA),3,some ⟨1,aA.length,(Zz aA)⟩⟩] 0,8,[],true⟩,[u1o,(y3p q l0 l1)],.leaf⟩
 | .h2 v4 aF aS aY aZ aE aH=>⟨⟨76,0,true⟩,none,(Zd prog 190 [1,0,0] 0),none,[],⟨Yd [(0,(.yld 0)),(1,(.ptr 5 0)),(2,(.ptr 7 0)),(4,(ii v4))],y0k [(1,(y3n q)),(2,⟨[.nils],100,none⟩),(3,⟨[(ii 0)],26,none⟩),(4,⟨[(.sla 9 4 0 aF.length (.un 4)),(.dat aS.length (Zz aS)),(ii aY),(ii aZ)],200,none⟩),(5,⟨[(.sla 6 1 0 aE (.un 1))],93,none⟩),(6,⟨rows aH.length (Zz aH),3,some ⟨1,aH.length,(Zz aH)⟩⟩),(7,x0a),(8,(y3o l0 l1)),(9,⟨rows aF.length (Zz aF),88,some ⟨4,aF.length,(Zz aF)⟩⟩)],10,[],true⟩,[w9f,(y3p q l0 l1)],w9g⟩
 | .h3 v4 v38 aF aS aY aZ aE aH aO bB aB=>⟨⟨76,0,true⟩,none,w9h,none,[],⟨Yd [(0,(.yld 0)),(1,(.ptr 5 0)),(2,(.ptr 7 0)),(4,(ii v4)),(5,(.ptr 9 0)),(6,(ii 0)),(29,(.sl 8 0 2 (.un 1))),(30,(ii 2)),(31,(ii 0)),(36,(.dat l0.length (Zz l0))),(37,(ii (l0.length:Int))),(38,(ii v38))],y0k [(1,(y3n q)),(2,⟨[.nils],100,none⟩),(3,⟨[(ii 0)],26,none⟩),(4,⟨[(.sla 12 4 0 aF.length (.un 4)),(.dat aS.length (Zz aS)),(ii aY),(ii aZ)],200,none⟩),(5,⟨[(.sla 6 1 0 aE (.un 1))],93,none⟩),(6,⟨rows aH.length (Zz aH),3,some ⟨1,aH.length,(Zz aH)⟩⟩),(7,x0a),(8,(y3o l0 l1)),(9,⟨[(ii aO),(ii bB),(.sl 10 0 2 (.ex 2))],205,none⟩),(10,⟨[(.sla 11 2 0 aB.length (.un 2)),.nils],180,none⟩),(11,⟨rows aB.length (Zz aB),183,some ⟨2,aB.length,(Zz aB)⟩⟩),(12,⟨rows aF.length (Zz aF),88,some ⟨4,aF.length,(Zz aF)⟩⟩)],13,[],true⟩,[w9f,(y3p q l0 l1)],w9g⟩
 | .h4 v4 v38 aF aS aY aZ aE aH aO bB aB aK=>⟨⟨76,0,true⟩,none,w9h,none,[],⟨Yd [(0,(.yld 0)),(1,(.ptr 5 0)),(2,(.ptr 7 0)),(4,(ii v4)),(5,(.ptr 9 0)),(6,(ii 1)),(29,(.sl 8 0 2 (.un 1))),(30,(ii 2)),(31,(ii 1)),(36,(.dat l1.length (Zz l1))),(37,(ii (l1.length:Int))),(38,(ii v38))],y0k [(1,(y3n q)),(2,⟨[.nils],100,none⟩),(3,⟨[(ii 0)],26,none⟩),(4,⟨[(.sla 13 4 0 aF.length (.un 4)),(.dat aS.length (Zz aS)),(ii aY),(ii aZ)],200,none⟩),(5,⟨[(.sla 6 1 0 aE (.un 1))],93,none⟩),(6,⟨rows aH.length (Zz aH),3,some ⟨1,aH.length,(Zz aH)⟩⟩),(7,x0a),(8,(y3o l0 l1)),(9,⟨[(ii aO),(ii bB),(.sl 10 0 2 (.ex 2))],205,none⟩),(10,⟨[(.sla 11 2 0 aB.length (.un 2)),(.sla 12 2 0 aK.length (.un 2))],180,none⟩),(11,⟨rows aB.length (Zz aB),183,some ⟨2,aB.length,(Zz aB)⟩⟩),(12,⟨rows aK.length (Zz aK),183,some ⟨2,aK.length,(Zz aK)⟩⟩),(13,⟨rows aF.length (Zz aF),88,some ⟨4,aF.length,(Zz aF)⟩⟩)],14,[],true⟩,[w9f,(y3p q l0 l1)],w9g⟩
 | .h5 v1 v2 v71 v72 v73 aU aD bD aE aH aO bB=>⟨⟨94,0,true⟩,none,(Zd prog 158 [1,1,1,0,0] 0),none,[],⟨Yd [(0,(.ptr 0 0)),(1,(ii v1)),(2,(ii v2)),(71,(.dat v71.length (Zz v71))),(72,(ii v72)),(73,(ii v73))],y0k [(0,⟨[(.sla 10 4 0 aD.length (.un 4)),(.dat v71.length (Zz v71)),(ii bD),(ii v2)],200,none⟩),(2,(y3n q)),(3,⟨[.nils],100,none⟩),(4,⟨[(ii 0)],26,none⟩),(5,⟨[(.sla 6 1 0 aE (.un 1))],93,none⟩),(6,⟨rows aH.length (Zz aH),3,some ⟨1,aH.length,(Zz aH)⟩⟩),(7,x0a),(8,(y3o l0 l1)),(9,⟨[(.dat aO.length (Zz aO)),(.dat bB.length (Zz bB))],180,none⟩),(10,⟨rows aD.length (Zz aD),88,some ⟨4,aD.length,(Zz aD)⟩⟩)],11,[],true⟩,[⟨⟨49,0,true⟩,(Up prog 122 [1,1,1,0,1,0,1,0,1,1] 5),(Zd prog 122 [1,1,1,0,1,0,1,0,1,1] 1),(some 1),[],Yd [(9,(.ptr 0 0)),(41,(ii v1)),(43,(ii v2)),(44,(.dat v71.length (Zz v71)))]⟩,⟨⟨76,0,true⟩,(Up prog 190 [1,0,0,1,0,0,1,1,0] 2),(Zd prog 190 [1,0,0,1,0,0,1,1,0] 1),none,[],Yd [(0,(.yld 1)),(1,(.ptr 5 0)),(2,(.ptr 7 0)),(4,(ii aU)),(72,(.yld 1)),(73,(.agg [(ii v1),(ii v2),(.sl 9 0 2 (.ex 2))]))]⟩,⟨⟨49,0,true⟩,none,(.inRangeFunc 1::(Zd prog 122 [1,1,1,0,1,0] 1)),none,(Zy prog 122),Yd [(6,(.ptr 3 0)),(7,(.ptr 4 0)),(9,(.ptr 0 0))]⟩,(y3p q l0 l1)],(y6j [(1,⟨.busy,none,49,Yd [(5,(.ptr 2 0)),(6,(.ptr 3 0)),(7,(.ptr 4 0)),(9,(.ptr 0 0))],[23],(Vr prog 122 [1,1,1,0,1,0,0]),(Vr prog 122 [1,1,1,0,1,0,1])⟩)])⟩
 | .h6 v2 v8 cM cN aU aD bC bD bV bH bO aB aK=>⟨⟨94,0,true⟩,none,(Zd prog 158 [0,1,0,0,1,0,0] 0),none,[],⟨Yd [(0,(.ptr 0 0)),(2,(ii v2)),(8,(ii v8))],y0k [(0,⟨[(.sla 1 4 0 aD.length (.un 4)),(.dat bC.length (Zz bC)),(ii bD),(ii bV)],200,none⟩),(1,⟨rows aD.length (Zz aD),88,some ⟨4,aD.length,(Zz aD)⟩⟩),(3,(y3n q)),(4,⟨[.nils],100,none⟩),(5,⟨[(ii 0)],26,none⟩),(6,⟨[(.sla 7 1 0 bH (.un 1))],93,none⟩),(7,⟨rows bO.length (Zz bO),3,some ⟨1,bO.length,(Zz bO)⟩⟩),(8,⟨[(.sl 9 0 2 (.un 1))],236,none⟩),(9,(y3o l0 l1)),(10,⟨[(.dat aB.length (Zz aB)),(.dat aK.length (Zz aK))],180,none⟩)],11,[],true⟩,[⟨⟨49,0,true⟩,(Up prog 122 [1,1,1,0,1,0,1,0,1,1] 5),(Zd prog 122 [1,1,1,0,1,0,1,0,1,1] 1),(some 2),[],Yd [(9,(.ptr 0 0)),(41,(ii cM)),(43,(ii v2)),(44,(.dat cN.length (Zz cN)))]⟩,⟨⟨76,0,true⟩,(Up prog 190 [1,0,0,1,0,0,1,1,0] 2),(Zd prog 190 [1,0,0,1,0,0,1,1,0] 1),none,[],Yd [(0,(.yld 2)),(1,(.ptr 6 0)),(2,(.ptr 8 0)),(4,(ii aU)),(72,(.yld 2)),(73,(.agg [(ii cM),(ii v2),(.sl 10 0 2 (.ex 2))]))]⟩,⟨⟨49,0,true⟩,none,(.inRangeFunc 2::(Zd prog 122 [1,1,1,0,1,0] 1)),none,(Zy prog 122),Yd [(6,(.ptr 4 0)),(7,(.ptr 5 0)),(9,(.ptr 0 0))]⟩,(y3p q l0 l1)],(y6j [(2,⟨.busy,none,49,Yd [(5,(.ptr 3 0)),(6,(.ptr 4 0)),(7,(.ptr 5 0)),(9,(.ptr 0 0))],[23],(Vr prog 122 [1,1,1,0,1,0,0]),(Vr prog 122 [1,1,1,0,1,0,1])⟩)])⟩
def rgjN0 :List (Option (List Nat)):=[some [1,3,8,9,10,14,15,16],some [5,6,7,9,21],some [6,7]]
def rgjM0 :List (Option (List Nat)):=[]
def rgjN1 :List (Option (List Nat)):=[some [1,3,8,9,10,14,15,16],some [5,6,7,9,21],some [6,7]]
def rgjM1 :List (Option (List Nat)):=[]
def u6k :List (Option (List Nat)):=[some [0,1,2,4],some [6,7,9],some [6,7]]
def u6l :List (Option (List Nat)):=[some [5,6,7,9],none,none,none,none,none,none,none,none,none]
def v5w :List (Option (List Nat)):=[some [0,1,2,4,5,6,29,30,31,36,37,38],some [6,7,9],some [6,7]]
def v5z :List (Option (List Nat)):=[some [5,6,7,9],none,none,none,none,none,none,none,none,none,none,none,none]
def v5v :List (Option (List Nat)):=[some [0,1,2,4,5,6,29,30,31,36,37,38],some [6,7,9],some [6,7]]
def v5y :List (Option (List Nat)):=[some [5,6,7,9],none,none,none,none,none,none,none,none,none,none,none,none,none]
def v5u :List (Option (List Nat)):=[some [0,1,2,71,72,73],some [9,41,43,44],some [0,1,2,4,72,73],some [6,7,9],some [6,7]]
def v5x :List (Option (List Nat)):=[none,some [5,6,7,9],none,none,none,none,none,none,none,none,none]
def rgjN6 :List (Option (List Nat)):=[some [0,2,8],some [9,41,43,44],some [0,1,2,4,72,73],some [6,7,9],some [6,7]]
def rgjM6 :List (Option (List Nat)):=[none,none,some [5,6,7,9],none,none,none,none,none,none,none,none]
def Yi (q:Op) (l0:List R4) (l1:List R4):rgjS→Xf rgjS
 | .h0 v16 aA=>(bif (decide (v16<(l0.length:Int))) then (bif ((decide (0≤v16∧v16<(l0.length:Int)))&&true) then (bif (Nat.beq 1 1&&((decide (0+aA.length=aA.length))&&decide ((aA.length+2+1)*(8+1)≤Ju))) then (.to (.h0 (wrap .i64 (v16+1)) (aA++[(rd l0 v16.toNat).a,(rd l0 v16.toNat).c]))) else .stuck) else .stuck) else (.to (.h1 0 aA)))
 | .h1 v16 aA=>(bif (decide (v16<(l1.length:Int))) then (bif ((decide (0≤v16∧v16<(l1.length:Int)))&&true) then (bif (Nat.beq 1 1&&((decide (0+aA.length=aA.length))&&decide ((aA.length+2+1)*(8+1)≤Ju))) then (.to (.h1 (wrap .i64 (v16+1)) (aA++[(rd l1 v16.toNat).a,(rd l1 v16.toNat).c]))) else .stuck) else .stuck) else (bif (decide (aA.length<4611686018427387904)) then (bif (decide (aA.length=aA.length)) then (.to (.h2 1 ([]:List R4) ([]:List R2) 0 0 (v3e (Yx aA.length (cOf (Zz (Xv (Yx aA.length (cOf (Zz aA)))))))) (Wf (Yx aA.length (cOf (Zz (Xv (Yx aA.length (cOf (Zz aA)))))))))) else .stuck) else .stuck))
 | .h2 v4 aF aS aY aZ aE aH=>(bif (decide (v4<((aE:Nat):Int))) then (bif ((decide (0≤(wrap .i64 (v4 - 1))∧(wrap .i64 (v4 - 1))<((aE:Nat):Int)))&&true) then (bif (decide ((0+(Int.toNat (wrap .i64 (v4 - 1))))<aH.length)) then (bif ((decide (0≤v4∧v4<((aE:Nat):Int)))&&true) then (bif (decide ((0+v4.toNat)<aH.length)) then (.to (.h3 v4 0 aF aS aY aZ aE aH (rd aH (0+(Int.toNat (wrap .i64 (v4 - 1))))) (rd aH (0+v4.toNat)) ([]:List R2))) else .stuck) else .stuck) else .stuck) else .stuck) else (bif (decide ((aF.length:Int)>400)) then (.ret [.nils,(.int .i64 4)]) else (.ret [(.dat aF.length (Zz aF)),(.int .i64 0)])))
 | .h3 v4 v38 aF aS aY aZ aE aH aO bB aB=>(bif (decide (v38<(l0.length:Int))) then (bif ((decide (0≤v38∧v38<(l0.length:Int)))&&true) then (bif (decide ((rd l0 v38.toNat).a ≤aO)) then (bif (decide (aO<(rd l0 v38.toNat).c)) then (bif (Nat.beq 2 2&&((decide (0+aB.length=aB.length))&&decide ((aB.length+1+1)*(16+1)≤Ju))) then (.to (.h3 v4 (wrap .i64 (v38+1)) aF aS aY aZ aE aH aO bB (aB++[(R2.mk (rd l0 v38.toNat).b (rd l0 v38.toNat).d)]))) else .stuck) else (.to (.h3 v4 (wrap .i64 (v38+1)) aF aS aY aZ aE aH aO bB aB))) else (.to (.h3 v4 (wrap .i64 (v38+1)) aF aS aY aZ aE aH aO bB aB))) else .stuck) else (.to (.h4 v4 0 aF aS aY aZ aE aH aO bB aB ([]:List R2))))
 | .h4 v4 v38 aF aS aY aZ aE aH aO bB aB aK=>(bif (decide (v38<(l1.length:Int))) then (bif ((decide (0≤v38∧v38<(l1.length:Int)))&&true) then (bif (decide ((rd l1 v38.toNat).a ≤aO)) then (bif (decide (aO<(rd l1 v38.toNat).c)) then (bif (Nat.beq 2 2&&((decide (0+aK.length=aK.length))&&decide ((aK.length+1+1)*(16+1)≤Ju))) then (.to (.h4 v4 (wrap .i64 (v38+1)) aF aS aY aZ aE aH aO bB aB (aK++[(R2.mk (rd l1 v38.toNat).b (rd l1 v38.toNat).d)]))) else .stuck) else (.to (.h4 v4 (wrap .i64 (v38+1)) aF aS aY aZ aE aH aO bB aB aK))) else (.to (.h4 v4 (wrap .i64 (v38+1)) aF aS aY aZ aE aH aO bB aB aK))) else .stuck) else (bif ((y9o q) (cvT aB) (cvT aK)) then (bif (((w3l q) (cvT aB) (cvT aK)) != 0) then (.ret [.nils,(.int .i64 ((w3l q) (cvT aB) (cvT aK)))]) else (bif (decide (((((z3t q) (cvT aB) (cvT aK)).length :Nat):Int)>0)) then (bif (aZ == aO) then (bif (Vn (cvT aS) (cvT ((z3t q) (cvT aB) (cvT aK)))) then (bif (Ko (cvT aS) (cvT ((z3t q) (cvT aB) (cvT aK)))) then (.to (.h6 bB aY aO ((z3t q) (cvT aB) (cvT aK)) v4 aF aS aY aZ aE aH aB aK)) else (.to (.h5 aO bB ((z3t q) (cvT aB) (cvT aK)) ((((z3t q) (cvT aB) (cvT aK)).length :Nat):Int) 0 v4 aF (aF.length:Int) aE aH aB aK))) else .stuck) else (.to (.h5 aO bB ((z3t q) (cvT aB) (cvT aK)) ((((z3t q) (cvT aB) (cvT aK)).length :Nat):Int) 0 v4 aF (aF.length:Int) aE aH aB aK))) else (.to (.h5 aO bB ((z3t q) (cvT aB) (cvT aK)) ((((z3t q) (cvT aB) (cvT aK)).length :Nat):Int) 0 v4 aF (aF.length:Int) aE aH aB aK)))) else .stuck))
 | .h5 v1 v2 v71 v72 v73 aU aD bD aE aH aO bB=>(bif (decide (v73<v72)) then (bif ((decide (0≤v73∧v73<(v71.length:Int)))&&true) then (bif (Nat.beq 4 4&&((decide (0+aD.length=aD.length))&&decide ((aD.length+1+1)*(32+1)≤Ju))) then (.to (.h5 v1 v2 v71 v72 (wrap .i64 (v73+1)) aU (aD++[(R4.mk v1 (rd v71 v73.toNat).a v2 (rd v71 v73.toNat).b)]) bD aE aH aO bB)) else .stuck) else .stuck) else (.to (.h2 (wrap .i64 (aU+1)) aD v71 bD v2 aE aH)))
 | .h6 v2 v8 cM cN aU aD bC bD bV bH bO aB aK=>(bif (decide (v8<(aD.length:Int))) then (bif ((decide (0≤v8∧v8<(aD.length:Int)))&&true) then (bif (decide ((0+v8.toNat)<aD.length)) then (.to (.h6 v2 (wrap .i64 (v8+1)) cM cN aU (aD.set (0+v8.toNat) (R4.mk (rd aD (0+v8.toNat)).a (rd aD (0+v8.toNat)).b v2 (rd aD (0+v8.toNat)).d)) bC bD bV bH bO aB aK)) else .stuck) else .stuck) else (.to (.h2 (wrap .i64 (aU+1)) aD bC bD v2 bH bO)))
def y1w (q:Op) (l0:List R4) (l1:List R4):Xf rgjS:=(bif (z3z (cvT l0)) then (bif ((y5x (cvT l0)) != 0) then (.ret [.nils,(.int .i64 (y5x (cvT l0)))]) else (bif (z3z (cvT l1)) then (bif ((y5x (cvT l1)) != 0) then (.ret [.nils,(.int .i64 (y5x (cvT l1)))]) else (.to (.h0 0 ([]:List Int)))) else .stuck)) else .stuck)
theorem w4g (q:Op) (l0:List R4) (l1:List R4): ∀s,Xq prog (Zy prog (nRg q)) (rgjC q l0 l1) (rgjC q l0 l1 s) (Yi q l0 l1 s):=by cases q <;> refine (?f: ∀q:Op,∀s,Xq prog (Zy prog (nRg q)) (rgjC q l0 l1) (rgjC q l0 l1 s) (Yi q l0 l1 s)) _ <;> exact fun q=>fun
 | .h0 v16 aA=>(lb (fun k0=>(lo fun o0=>(lo fun o1=>(sl Kj 32 [] ⟨[0,1,2,3,4,5,6,10],[],rgjN0,rgjM0⟩ ⟨[],[.keep,.keep,.cells [.len (z8t aA l0 v16).length],.keep,.keep,.keep,.keep,.rowed 1 (z8t aA l0 v16).length (Zz (z8t aA l0 v16))],[]⟩ [true] (pp (xL (aA.length+2) (z8t aA l0 v16).length) (pp (xL (aA.length+2) (z8t aA l0 v16).length) (pp (xS (aA.length+2) (Zi (Zz aA) 0 aA.length 1 [(ii (rd l0 (tn v16)).a),(ii (rd l0 (tn v16)).c)]) (Zz (z8t aA l0 v16))) (pp (pp (xF (Zi (Zz aA) 0 aA.length 1 [(ii (rd l0 (tn v16)).a),(ii (rd l0 (tn v16)).c)])) nn) (ww o1 (ww o0 (tt k0 nn))))))))))) (fun k0=>(sl Kj 36 [] ⟨(List.range 8),[],rgjN1,rgjM1⟩ ⟨[],[],[]⟩ (bl 2 2) (pp (fl aA nn) (tt k0 nn)))))
 | .h1 v16 aA=>(lb (fun k0=>(lo fun o0=>(lo fun o1=>(sl Kj 32 [] ⟨[0,1,2,3,4,5,6,10],[],rgjN1,rgjM1⟩ ⟨[],[.keep,.keep,.cells [.len (z8s aA l1 v16).length],.keep,.keep,.keep,.keep,.rowed 1 (z8s aA l1 v16).length (Zz (z8s aA l1 v16))],[]⟩ [true] (pp (xL (aA.length+2) (z8s aA l1 v16).length) (pp (xL (aA.length+2) (z8s aA l1 v16).length) (pp (xS (aA.length+2) (Zi (Zz aA) 0 aA.length 1 [(ii (rd l1 (tn v16)).a),(ii (rd l1 (tn v16)).c)]) (Zz (z8s aA l1 v16))) (pp (pp (xF (Zi (Zz aA) 0 aA.length 1 [(ii (rd l1 (tn v16)).a),(ii (rd l1 (tn v16)).c)])) nn) (ww o1 (ww o0 (tt k0 nn))))))))))) (fun k0=>(lo fun o0=>(lo fun o1=>(sl Kj 46 [(88,4,Zz ([]:List R4))] ⟨[8,3,4,5,6,2,7,0,1,9],[],u6k,u6l⟩ ⟨[],(kpB 4 [.cells [.grow 9 4,.list 0 (Zz ([]:List R2)),.keep,.keep],.keep,.rowed 1 (y7r aA).length (Zz (y7r aA)),.keep,.keep,.keep]),[]⟩ (bl 2 0) (pp (xL aA.length (y7r aA).length (by first | exact z1w _ _ | exact Vy rfl)) (pp (xS aA.length (Zz (y7r aA)) (Zz (y7r aA))) (pp (fl (y7r aA) (fl ([]:List R4) nn)) (pp (pp (xG (Nat.beq 1 1)) (pp (xG (Nat.beq 1 1)) (pp (xG (Nat.beq 0 0)) (pp (xG (decide (aA.length=aA.length))) (pp (xG (isI (Zz (Xv (Yx aA.length (cOf (Zz aA))))))) (xG (decide (aA.length<4611686018427387904)))))))) (pp (pp (xG (Nat.beq 1 1)) (pp (xG (Nat.beq 1 1)) (pp (xG (Nat.beq 0 0)) (pp (xG (decide (aA.length=aA.length))) (pp (xG (isI (Zz aA))) (xG (decide (aA.length<4611686018427387904)))))))) (tt k0 nn)))))))))))
 | .h2 v4 aF aS aY aZ aE aH=>(lb (fun k0=>(lo fun o0=>(lo fun o1=>(lo fun o2=>(lo fun o3=>(sl Kj 48 [(183,2,Zz ([]:List R2))] ⟨[0,1,2,3,4,5,6,7,8,10,11,12,9],[],v5w,v5z⟩ ⟨[],(kpB 10 [.cells [.grow 11 2,.keep],.keep,.keep]),[]⟩ (trs 3 []) (pp (fl aH (fl ([]:List R2) (fl aF nn))) (ww o3 (ww o2 (ww o1 (ww o0 (tt k0 nn)))))))))))) (fun k0=>(lb (fun k1=>(lr 11 3 [1,1,1,1,1,1,1,0] 1 28 [(4,.nils),(5,(ii 4))] (sl Kj 49 [] ⟨[],[],[some [4,5]],[]⟩ ⟨[],[],[]⟩ (bl 2 2) (tt k1 (tt k0 nn))))) (fun k1=>(lr 11 3 [1,1,1,1,1,1,1,0] 1 28 [(4,(.dat aF.length (Zz aF))),(5,(ii 0))] (sl Kj 54 [] ⟨[],[9],[some [4,5]],[]⟩ ⟨[(4,.frz aF.length aF.length (Zz aF) (Zz aF))],[],[]⟩ (bl 2 0) (pp (xZ (z6i 4 4 0 aF.length aF.length (Zz aF)) aF.length (Zz aF)) (pp (xL aF.length aF.length) (pp (xS aF.length (Zz aF) (Zz aF)) (pp (fl aF nn) (tt k1 (tt k0 nn))))))))))))
 | .h3 v4 v38 aF aS aY aZ aE aH aO bB aB=>(lb (fun k0=>(lo fun aG=>(lb (fun k1=>(lb (fun k2=>(lo fun o0=>(sl Kj 39 [] ⟨[0,1,2,3,4,5,6,7,8,9,10,15,12],[],v5w,v5z⟩ ⟨[],(kpB 10 [.cells [.len (y7q aB l0 v38).length,.keep],.rowed 2 (y7q aB l0 v38).length (Zz (y7q aB l0 v38)),.keep]),[]⟩ (trs 7 []) (pp (xL (aB.length+1) (y7q aB l0 v38).length) (pp (xL (aB.length+1) (y7q aB l0 v38).length) (pp (xS (aB.length+1) (Zi (Zz aB) 0 aB.length 2 [(ii (rd l0 (tn v38)).b),(ii (rd l0 (tn v38)).d)]) (Zz (y7q aB l0 v38))) (pp (fl aH (pp (xF (Zi (Zz aB) 0 aB.length 2 [(ii (rd l0 (tn v38)).b),(ii (rd l0 (tn v38)).d)])) (fl aF nn))) (ww o0 (tt k2 (tt k1 (ww aG (tt k0 nn)))))))))))) (fun k2=>(sl Kj 39 [] ⟨(List.range 13),[],v5w,v5z⟩ ⟨[],[],[]⟩ (trs 6 [false]) (pp (fl aH (fl aB (fl aF nn))) (tt k2 (tt k1 (ww aG (tt k0 nn))))))))) (fun k1=>(sl Kj 39 [] ⟨(List.range 13),[],v5w,v5z⟩ ⟨[],[],[]⟩ (bl 7 1) (pp (fl aH (fl aB (fl aF nn))) (tt k1 (ww aG (tt k0 nn))))))))) (fun k0=>(sl Kj 38 [(183,2,Zz ([]:List R2))] ⟨[0,1,2,3,4,5,6,7,8,9,10,11,13,12],[],v5v,v5y⟩ ⟨[],(kpB 10 [.cells [.keep,.grow 12 2],.keep,.keep,.keep]),[]⟩ (bl 2 2) (pp (fl aH (fl aB (fl ([]:List R2) (fl aF nn)))) (tt k0 nn)))))
 | .h4 v4 v38 aF aS aY aZ aE aH aO bB aB aK=>(lb (fun k0=>(lo fun aG=>(lb (fun k1=>(lb (fun k2=>(lo fun o0=>(sl Kj 39 [] ⟨[0,1,2,3,4,5,6,7,8,9,10,11,16,13],[],v5v,v5y⟩ ⟨[],(kpB 10 [.cells [.keep,.len (y7p aK l1 v38).length],.keep,.rowed 2 (y7p aK l1 v38).length (Zz (y7p aK l1 v38)),.keep]),[]⟩ (trs 7 []) (pp (xL (aK.length+1) (y7p aK l1 v38).length) (pp (xL (aK.length+1) (y7p aK l1 v38).length) (pp (xS (aK.length+1) (Zi (Zz aK) 0 aK.length 2 [(ii (rd l1 (tn v38)).b),(ii (rd l1 (tn v38)).d)]) (Zz (y7p aK l1 v38))) (pp (fl aH (fl aB (pp (xF (Zi (Zz aK) 0 aK.length 2 [(ii (rd l1 (tn v38)).b),(ii (rd l1 (tn v38)).d)])) (fl aF nn)))) (ww o0 (tt k2 (tt k1 (ww aG (tt k0 nn)))))))))))) (fun k2=>(sl Kj 39 [] ⟨(List.range 14),[],v5v,v5y⟩ ⟨[],[],[]⟩ (trs 6 [false]) (pp (fl aH (fl aB (fl aK (fl aF nn)))) (tt k2 (tt k1 (ww aG (tt k0 nn))))))))) (fun k1=>(sl Kj 39 [] ⟨(List.range 14),[],v5v,v5y⟩ ⟨[],[],[]⟩ (bl 7 1) (pp (fl aH (fl aB (fl aK (fl aF nn)))) (tt k1 (ww aG (tt k0 nn))))))))) (fun k0=>(Xa (sl Kj (C':=⟨⟨49,0,true⟩,none,(Zd prog 122 [1,1,1,0,1,0,1,0,0] 0),(some 0),[],⟨Yd [(5,(.ptr 1 0)),(6,(.ptr 2 0)),(7,(.ptr 3 0)),(9,(.ptr 4 0)),(10,(.ptr 6 0))],y0k [(1,⟨[(.fn (nSp q) [])],151,none⟩),(2,⟨[.nils],100,none⟩),(3,⟨[(ii 0)],26,none⟩),(4,⟨[(.sla 5 4 0 aF.length (.un 4)),(.dat aS.length (Zz aS)),(ii aY),(ii aZ)],200,none⟩),(5,⟨rows aF.length (Zz aF),88,some ⟨4,aF.length,(Zz aF)⟩⟩),(6,⟨[(ii aO),(ii bB),(.sl 7 0 2 (.ex 2))],205,none⟩),(7,⟨[(.dat aB.length (Zz aB)),(.dat aK.length (Zz aK))],180,none⟩),(8,⟨[(.sla 9 1 0 aE (.un 1))],93,none⟩),(9,⟨rows aH.length (Zz aH),3,some ⟨1,aH.length,(Zz aH)⟩⟩),(10,⟨[(.sl 11 0 2 (.un 1))],236,none⟩),(11,⟨[(.dat l0.length (Zz l0)),(.dat l1.length (Zz l1))],100,none⟩)],12,[],true⟩,[⟨⟨76,0,true⟩,(Up prog 190 [1,0,0,1,0,0,1,1,0] 2),(Zd prog 190 [1,0,0,1,0,0,1,1,0] 1),none,[],Yd [(0,(.yld 0)),(1,(.ptr 8 0)),(2,(.ptr 10 0)),(4,(ii v4)),(72,(.yld 0)),(73,(.agg [(ii aO),(ii bB),(.sl 7 0 2 (.ex 2))]))]⟩,⟨⟨49,0,true⟩,none,(.inRangeFunc 0::(Zd prog 122 [1,1,1,0,1,0] 1)),none,(Zy prog 122),Yd [(6,(.ptr 2 0)),(7,(.ptr 3 0)),(9,(.ptr 4 0))]⟩,⟨⟨11,0,true⟩,(Up prog (nRg q) [1,0] 2),(Zd prog (nRg q) [1,0] 1),none,(Zy prog 28),Yd [(6,(.dat l0.length (Zz l0))),(7,(.dat l1.length (Zz l1)))]⟩],(y6j [(0,⟨.busy,none,49,Yd [(5,(.ptr 1 0)),(6,(.ptr 2 0)),(7,(.ptr 3 0)),(9,(.ptr 4 0))],[23],(Vr prog 122 [1,1,1,0,1,0,0]),(Vr prog 122 [1,1,1,0,1,0,1])⟩)])⟩) 32 [] ⟨[0,1,2,3,4,13,14,10,5,6,7,8],[11,12],[some [5,6,7,9,10],some [0,1,2,4,72,73],some [6,7,9],some [6,7]],[some [5,6,7,9],none,none,none,none,none,none,none,none,none,none,none]⟩ ⟨[],[.keep,.keep,.keep,.keep,.keep,.keep,.keep,.cells [.frz aB.length aB.length (Zz aB) (Zz aB),.frz aK.length aK.length (Zz aK) (Zz aK)],.keep,.keep,.keep,.keep],[]⟩ (bl 2 0) (pp (xZ (z6i 2 2 0 aB.length aB.length (Zz aB)) aB.length (Zz aB)) (pp (xL aB.length aB.length) (pp (xS aB.length (Zz aB) (Zz aB)) (pp (xZ (z6i 2 2 0 aK.length aK.length (Zz aK)) aK.length (Zz aK)) (pp (xL aK.length aK.length) (pp (xS aK.length (Zz aK) (Zz aK)) (pp (fl aF (fl aH nn)) (pp (fl aB (fl aK nn)) (tt k0 nn)))))))))) (lo fun aG=>(lb (fun k1=>(lr 11 3 [1,1,1,1,1,1,1,0] 1 28 [(4,.nils),(5,(ii ((w3l q) (cvT aB) (cvT aK))))] (sl Kj 26 [] ⟨[],[],[some [4,5]],[]⟩ ⟨[],[],[]⟩ (bl 2 3) (tt k1 (pp (pp (xr aB) (pp (xr aK) (xw aG))) nn))))) (fun k1=>(lb (fun k2=>(lb (fun k3=>(lo fun bW=>(lb (fun k4=>(sl Kj 51 [] ⟨[4,5,0,1,2,3,8,9,10,11,7],[],rgjN6,rgjM6⟩ ⟨[],[],[]⟩ (bl 14 16382) (pp (fl aF (fl aH nn)) (tt k4 (pp (pp (xr aS) (pp (xI R2 ((z3t q) (cvT aB) (cvT aK)).length (Zz ((z3t q) (cvT aB) (cvT aK)))) (xw bW))) (tt k3 (tt k2 (tt k1 (pp (pp (xr aB) (pp (xr aK) (xw aG))) nn))))))))) (fun k4=>(sl Kj 71 [] ⟨[4,0,1,2,3,8,9,10,11,7,5],[],v5u,v5x⟩ ⟨[],[],[]⟩ (bl 14 8190) (pp (fl aH (fl aF nn)) (tt k4 (pp (pp (xr aS) (pp (xI R2 ((z3t q) (cvT aB) (cvT aK)).length (Zz ((z3t q) (cvT aB) (cvT aK)))) (xw bW))) (tt k3 (tt k2 (tt k1 (pp (pp (xr aB) (pp (xr aK) (xw aG))) nn)))))))))))) (fun k3=>(sl Kj 71 [] ⟨[4,0,1,2,3,8,9,10,11,7,5],[],v5u,v5x⟩ ⟨[],[],[]⟩ (bl 14 126) (pp (fl aH (fl aF nn)) (tt k3 (tt k2 (tt k1 (pp (pp (xr aB) (pp (xr aK) (xw aG))) nn))))))))) (fun k2=>(sl Kj 71 [] ⟨[4,0,1,2,3,8,9,10,11,7,5],[],v5u,v5x⟩ ⟨[],[],[]⟩ (bl 14 0) (pp (fl aH (fl aF nn)) (tt k2 (tt k1 (pp (pp (xr aB) (pp (xr aK) (xw aG))) nn)))))))))))))
 | .h5 v1 v2 v71 v72 v73 aU aD bD aE aH aO bB=>(lb (fun k0=>(lo fun o0=>(lo fun o1=>(sl Kj 23 [] ⟨[0,1,2,3,4,5,6,7,8,9,13],[],v5u,v5x⟩ ⟨[],[.cells [.len (z8u aD v1 v71 v73 v2).length,.keep,.keep,.keep],.keep,.keep,.keep,.keep,.keep,.keep,.keep,.keep,.keep,.rowed 4 (z8u aD v1 v71 v73 v2).length (Zz (z8u aD v1 v71 v73 v2))],[]⟩ [true] (pp (xL (aD.length+1) (z8u aD v1 v71 v73 v2).length) (pp (xL (aD.length+1) (z8u aD v1 v71 v73 v2).length) (pp (xS (aD.length+1) (Zi (Zz aD) 0 aD.length 4 [(ii v1),(ii (rd v71 (tn v73)).a),(ii v2),(ii (rd v71 (tn v73)).b)]) (Zz (z8u aD v1 v71 v73 v2))) (pp (fl aH (pp (xF (Zi (Zz aD) 0 aD.length 4 [(ii v1),(ii (rd v71 (tn v73)).a),(ii v2),(ii (rd v71 (tn v73)).b)])) nn)) (ww o1 (ww o0 (tt k0 nn))))))))))) (fun k0=>(sl Kj 22 [] ⟨[1,2,3,4,0,5,6,7,8,10],[],u6k,u6l⟩ ⟨[],[],[]⟩ (bl 2 0) (pp (fl aH (fl aD nn)) (tt k0 nn)))))
 | .h6 v2 v8 cM cN aU aD bC bD bV bH bO aB aK=>(lb (fun k0=>(lo fun o0=>(lo fun o1=>(sl Kj 33 [] ⟨(List.range 11),[],rgjN6,rgjM6⟩ ⟨[],[.cells [.len (y7s aD v8 v2).length,.keep,.keep,.keep],.rowed 4 (y7s aD v8 v2).length (Zz (y7s aD v8 v2)),.keep,.keep,.keep,.keep,.keep,.keep,.keep,.keep,.keep],[]⟩ [true] (pp (xL aD.length (y7s aD v8 v2).length) (pp (xL aD.length (y7s aD v8 v2).length) (pp (xS aD.length (Xn (Zz aD) (0+(tn v8)) 2 [(ii v2)]) (Zz (y7s aD v8 v2))) (pp (pp (xF (Xn (Zz aD) (0+(tn v8)) 2 [(ii v2)])) (fl bO nn)) (ww o1 (ww o0 (tt k0 nn))))))))))) (fun k0=>(sl Kj 36 [] ⟨[2,3,4,5,0,6,7,8,9,1],[],u6k,u6l⟩ ⟨[],[],[]⟩ (bl 2 0) (pp (fl bO (fl aD nn)) (tt k0 nn)))))
theorem x6m (q:Op) (l0:List R4) (l1:List R4):Xq prog (Zy prog (nRg q)) (rgjC q l0 l1) (Zc prog (nRg q) [(.dat l0.length (Zz l0)),(.dat l1.length (Zz l1))] true []) (y1w q l0 l1):=by cases q <;> exact (lo fun bU=>(lb (fun k0=>(lr 11 3 [1,1,1,1,1,1,1,0] 1 28 [(4,.nils),(5,(ii (y5x (cvT l0))))] (sl Kj 65 [] ⟨[],[],[some [4,5]],[]⟩ ⟨[],[],[]⟩ [true,true] (tt k0 (tt k0 (pp (pp (xr l0) (xw bU)) nn)))))) (fun k0=>(lo fun aG=>(lb (fun k1=>(lr 11 3 [1,1,1,1,1,1,1,0] 1 28 [(4,.nils),(5,(ii (y5x (cvT l1))))] (sl Kj 67 [] ⟨[],[],[some [4,5]],[]⟩ ⟨[],[],[]⟩ [false,true] (tt k1 (pp (pp (xr l1) (xw aG)) (tt k0 (pp (pp (xr l0) (xw bU)) nn))))))) (fun k1=>(sl Kj 108 [(3,1,Zz ([]:List Int))] ⟨[5,4,6,0,1,2,3,7],[],rgjN0,rgjM0⟩ ⟨[],[.keep,.keep,.cells [.grow 7 1],.keep,.keep,.keep,.keep,.keep],[]⟩ [false,false,true] (pp (fl ([]:List Int) nn) (tt k1 (pp (pp (xr l1) (xw aG)) (tt k0 (pp (pp (xr l0) (xw bU)) nn))))))))))))
theorem v5t (q:Op) (l0:List R4) (l1:List R4) (n:Nat) (vs:List AVal) (h:Yj (Yi q l0 l1) n (y1w q l0 l1)=.ret vs):Kv prog (Zy prog (nRg q)) (Zc prog (nRg q) [(.dat l0.length (Zz l0)),(.dat l1.length (Zz l1))] true []) vs:=by have:=Zn (w4g q l0 l1) n _ (x6m q l0 l1);rwa [h] at this
end Go.Am
end
