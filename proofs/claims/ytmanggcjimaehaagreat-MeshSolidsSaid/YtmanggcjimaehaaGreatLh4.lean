/- A part of a proof: several texts in one. -/
import Derived.Test.YtmanggcjimaehaaGreatLh3
set_option maxRecDepth 1000000
set_option maxHeartbeats 8000000
set_option linter.unusedVariables false
set_option linter.unusedSimpArgs false
noncomputable section
namespace Go.Am
open IntKind (wrap)
open Go.Proofs.Tryz
open Go.Proofs Go.Sort Go.Shelf Go.RowKit Go.Lib
theorem x4s {i n:Nat} (h:i<n):decide ((i:Int)<(n:Int))=true:=Ah (by omega)
theorem z8k {σ:Type} (step:σ→Xv σ) (a b:Nat) (s:Xv σ):Zs step (a+b) s=Zs step a (Zs step b s):=by
 induction b generalizing s with
 | zero=>cases s <;> simp [Zs]
 | succ b ih=>cases s with
  | to s=>exact ih (step s)
  | ret vs=>simp only [Zp]
  | stuck=>cases a <;> cases b <;> rfl
theorem x4t {i:Nat}:decide ((i:Int)≥0)=true:=Ah (by omega)
def Qx {α:Type} [Ys α] (out:List α):List AVal:=bif decide ((out.length:Int)>400) then [.nils,.int .i64 4] else [.dat out.length (Zz out),.int .i64 0]
def y1a {α:Type} [Ys α] (e:Int) (L:List α):List AVal:=bif e != 0 then [.nils,.int .i64 e] else [.dat L.length (Zz L),.int .i64 0]
def y6t {α:Type} (e:Int) (L:List α):List α:=bif e != 0 then [] else L
theorem z2v {α:Type} [Ys α] (e:Int) (L:List α) (ρ:Rho) (u:Value) (hu:Yy ρ (Ku (y1a e L)) u):Yy ρ (.tup [.dat (y6t e L).length (Zz (y6t e L)),.int .i64 e]) u:=by
 unfold y1a at hu;unfold y6t;by_cases h:e=0
 ·subst h;exact hu
 ·have h:(e != 0)=true:=by simpa using h
  rw [h] at hu ⊢;exact z5s (.cons (z6q α) (RLe.refl _)) ρ u hu
theorem z6k {α:Type} [Ys α] (e:Int) (L:List α):pf 3 (Ku (y1a e L))=true:=by unfold y1a;cases (e != 0) <;> rfl
def y9s (n:Nat):Int:=bif decide ((n:Int)>400) then 4 else 0
theorem z8y {α:Type} [Ys α] (L:List α):Qx L=y1a (y9s L.length) L:=by unfold Qx y1a y9s;cases decide ((L.length:Int)>400) <;> rfl
theorem z0x {α:Type} [Ys α] {e:Int} (L:List α) (h:(e != 0)=true):y1a e L=[.nils,.int .i64 e]:=by unfold y1a;rw [h];rfl
theorem y7m : ∀(L:List R3) (o last:Int) (inn:Bool) (out:List R2),(swF L o last inn out).length ≤out.length+L.length
 | [],_,_,_,out=>Ao _
 | e::r,o,last,inn,out=>by rw [y2c];have:=y7m r (o+e.c) e.a (decide (o+e.c>0)) (Vj out last inn e.a);have:=z3l out last inn e.a;simp only [AW];omega
theorem y4a (l:List R3):(z0w l).length =l.length:=by
 by_cases h:y1q l=true
 ·exact (Ks l h).1.length_eq
 ·unfold z0w;rw [dif_neg h]
theorem x6g (l:List R2):(Xr l).length ≤800:=by
 unfold Xr;by_cases h:400<l.length
 ·rw [Ah h];exact AA _
 ·rw [Ay h];cases l.all z1o
  ·exact AA _
  ·show (swV l).length ≤800;have h1:=y7m (z0w (Km l)) 0 0 false [];rw [y4a,z4t] at h1;simp only [Bq] at h1;unfold swV;omega
def Vo (r:R4):Bool:=decide (r.a<r.c)&&(decide (r.b<r.d)&&(decide (r.a≥ -1000000)&&(decide (r.a≤1000000)&&(decide (r.c≥ -1000000)&&(decide (r.c≤1000000)&&(decide (r.b≥ -1000000)&&(decide (r.b≤1000000)&&(decide (r.d≥ -1000000)&&decide (r.d≤1000000)))))))))
def D4 :Dim R4 R2:=⟨R4.a,R4.c,fun r=>⟨r.b,r.d⟩,fun x x' s=>⟨x,s.a,x',s.b⟩,fun x r=>⟨r.a,r.b,x,r.d⟩,Xr,Kc⟩
theorem D4_sec (l:List R4) (x:Int):(D4.sec l x).length ≤1000:=AL (x6g _) (by omega)
section
variable (l:List R4) (hl:l.length≤400)
include hl
theorem u6m (i:Nat) (out:List R4) (last:List R2) (first fin x x':Int): ∀(k j:Nat) (acc:List R2),j+k=l.length→acc.length≤j→
  ∃n,∀N,Zs (Xi l) (N+n) (.to (.h2 (i:Int) (j:Int) out last first fin ((D4.cuts l).length) (Wc (Xc (D4.ends l))) x x' acc))=Zs (Xi l) N (.to (.h2 (i:Int) (l.length:Int) out last first fin ((D4.cuts l).length) (Wc (Xc (D4.ends l))) x x' (acc++D4.inn (l.drop j) x)))
 | 0,j,acc,h,ha=>by refine ⟨0,fun N=> ?_⟩;rw [At (by omega),show D4.inn ([]:List R4) x=[] from rfl,Az,A5,show j=l.length by omega]
 | k+1,j,acc,h,ha=>by
  have hj:j<l.length:=by omega
  obtain ⟨n,hn⟩:=u6m i out last first fin x x' k (j+1) (acc++D4.inn [rd l j] x) (by omega) (by have:=D4.inn_length [rd l j] x;simp only [Ar,Bl] at*;omega)
  refine ⟨n+1,fun N=> ?_⟩;have e:D4.inn (l.drop j) x=D4.inn [rd l j] x++D4.inn (l.drop (j+1)) x:=by rw [Yj hj,←D4.inn_append];rfl
  rw [e,←AD,Zv,←AH,←hn N];by_cases h1:D4.lo (rd l j)≤x
  ·by_cases h2:x<D4.hi (rd l j)
   ·rw [D4.inn_t _ _ h1 h2];simp only [D4] at h1 h2 ⊢;simp (disch:=omega) only [Xi,Wz,Zg,Zq,Zn,Zo,Yc,Yk,Yp,Zf,Zk,Zx,Ym,Zj,Ag,Av,Ai,Al,Ab,Aa]
   ·rw [D4.inn_f2 _ _ h2,Az];simp only [D4] at h1 h2;simp (disch:=omega) only [Xi,Wz,Yz,Zg,Zq,Zn,Zo,Yc,Yk,Yp,Zf,Zk,Zx,Ym,Zj,Ag,Av,Ai,Al,Ab,Aa]
  ·rw [D4.inn_f1 _ _ h1,Az];simp only [D4] at h1;simp (disch:=omega) only [Xi,w0e,Zg,Zq,Zn,Zo,Yc,Yk,Yp,Zf,Zk,Zx,Ym,Zj,Ag,Av,Ai,Al,Ab,Aa]
theorem u6l (i:Nat) (hi:i≤1000) (x x':Int) (s last:List R2) (first:Int) (inn:List R2) (hs:s.length≤1000): ∀(k j:Nat) (out:List R4),j+k=s.length→out.length≤10000000+j→
  ∃n,∀N,Zs (Xi l) (N+n) (.to (.h3 x x' s (s.length:Int) (j:Int) s (i:Int) out last first ((D4.cuts l).length) (Wc (Xc (D4.ends l))) inn))=Zs (Xi l) N (.to (.h1 ((i+1:Nat):Int) (out++(s.drop j).map (D4.put x x')) last first x' ((D4.cuts l).length) (Wc (Xc (D4.ends l)))))
 | 0,j,out,h,ho=>by have _u:=hl;refine ⟨1,fun N=> ?_⟩;rw [At (by omega),Zv];simp (disch:=omega) only [Xi,Yz,Zk,Zx,Aa,Bb,Az]
 | k+1,j,out,h,ho=>by
  obtain ⟨n,hn⟩:=u6l i hi x x' s last first inn hs k (j+1) (out++[D4.put x x' (rd s j)]) (by omega) (by simp;omega)
  refine ⟨n+1,fun N=> ?_⟩;have:=hn N;rw [Yj (show j<s.length by omega),A4,←AD,Zv];simp (disch:=omega) only [Xi,Zg,Zq,Zn,Zo,Yc,Yk,Yp,Zf,Zk,Zx,Ym,Zj,Ag,Av,Ai,Al,Ab,Aa];rw [AH] at this;exact this
theorem u6k (i:Nat) (hi:i≤1000) (x x' fin:Int) (s last:List R2) (first:Int) (inn:List R2): ∀(k j:Nat) (out:List R4),j+k=out.length→out.length≤10000000→
  ∃n,∀N,Zs (Xi l) (N+n) (.to (.h4 x' (j:Int) x s (i:Int) out last first fin ((D4.cuts l).length) (Wc (Xc (D4.ends l))) inn))=Zs (Xi l) N (.to (.h1 ((i+1:Nat):Int) (D4.grow out j x') last first x' ((D4.cuts l).length) (Wc (Xc (D4.ends l)))))
 | 0,j,out,h,ho=>by have _u:=hl;refine ⟨1,fun N=> ?_⟩;rw [D4.grow_nil _ _ _ (by omega),Zv];simp (disch:=omega) only [Xi,Yz,Zk,Zx,Aa]
 | k+1,j,out,h,ho=>by
  obtain ⟨n,hn⟩:=u6k i hi x x' fin s last first inn k (j+1) (out.set j (D4.ext x' (rd out j))) (by simp;omega) (by simpa using ho)
  refine ⟨n+1,fun N=> ?_⟩;have:=hn N;rw [D4.grow_set out j _ (by omega)] at this;rw [←AD,Zv];simp (disch:=omega) only [Xi,Zg,Zq,Zn,Zo,Yc,Yk,Yp,Zf,Zk,Zx,Ym,Zj,Ag,Av,Ai,Al,Ab,Aa];exact this
theorem v2w : ∀(k i:Nat) (s:Sw R4 R2),k=(D4.cuts l).length - 1 - i→i≤(D4.cuts l).length →s.out.length≤i*1000→s.last.length≤1000→s.first≤s.out.length→
  ∃n,Zs (Xi l) n (.to (.h1 ((i+1:Nat):Int) s.out s.last (s.first:Int) s.fin ((D4.cuts l).length) (Wc (Xc (D4.ends l)))))=.ret (Qx (D4.go l k i s).out)
 | 0,i,s,h,hi,ho,hla,hf=>by
  have hc:=D4.cuts_length l;refine ⟨1,?_⟩;rw [Zv,show D4.go l 0 i s=s from rfl];unfold Qx;by_cases q:(s.out.length:Int)>400
  ·simp (disch:=omega) only [Xi,Yz,Yn,Ab,Aa,Zp]
  ·simp (disch:=omega) only [Xi,Yz,Xm,Ab,Aa,Zp]
 | k +1,i,s,h,hi,ho,hla,hf=>by
  have hc:=D4.cuts_length l;have hi1:i+1<(D4.cuts l).length :=by omega
  have hpl:(Wc (Xc (D4.ends l))).length =2*l.length:=by rw [Uq,Vq,D4.ends_length]
  have r0:rd (Wc (Xc (D4.ends l))) i=rd (D4.cuts l) i:=z4k _ _ (by show i<(D4.cuts l).length;omega);have r1:rd (Wc (Xc (D4.ends l))) (i+1)=rd (D4.cuts l) (i+1):=z4k _ _ (by show i+1<(D4.cuts l).length;omega);have hbig:i*1000≤1000*1000:=AJ _ (by omega);have hsl:=D4_sec l (rd (D4.cuts l) i);have hsd:D4.sec l (rd (D4.cuts l) i)=Xr (D4.inn l (rd (D4.cuts l) i)):=rfl;obtain ⟨n3,h3⟩:=u6m l hl (i+1) s.out s.last (s.first:Int) s.fin (rd (D4.cuts l) i) (rd (D4.cuts l) (i+1)) l.length 0 [] (Ag _) (Ao _);simp only [A3,Bf,Qo] at h3;have w1:y4b (D4.inn l (rd (D4.cuts l) i))=true:=rfl;have w2:Vm s.last (Xr (D4.inn l (rd (D4.cuts l) i)))=true:=Ah (by omega);have ol:=D4.one_length l (rd (D4.cuts l) i) (rd (D4.cuts l) (i+1)) s;have st0: ∀N,Zs (Xi l) (N+n3+1) (.to (.h1 ((i+1:Nat):Int) s.out s.last (s.first:Int) s.fin ((D4.cuts l).length) (Wc (Xc (D4.ends l)))))=Zs (Xi l) N (.to (.h2 ((i+1:Nat):Int) (l.length:Int) s.out s.last (s.first:Int) s.fin ((D4.cuts l).length) (Wc (Xc (D4.ends l))) (rd (D4.cuts l) i) (rd (D4.cuts l) (i+1)) (D4.inn l (rd (D4.cuts l) i)))):=fun N=>by
   rw [←h3 N,Zv];have e1:wrap .i64 (((i+1:Nat):Int) - 1)=(i:Int):=by rw [Zt];exact Zk (by omega)
   simp (disch:=omega) only [Xi,e1,r0,r1,Zg,Zq,Zn,Zo,Yc,Yk,Yp,Zf,Zk,Zx,Ym,Zj,Ag,Av,Ai,Al,Ab,Aa]
  rcases Yd (decide (0<(D4.sec l (rd (D4.cuts l) i)).length)&&((s.fin == rd (D4.cuts l) i)&&D4.same s.last (D4.sec l (rd (D4.cuts l) i)))) with q | q
  ·obtain ⟨n5,h5⟩:=u6k l hl (i+1) (by omega) (rd (D4.cuts l) i) (rd (D4.cuts l) (i+1)) s.fin (D4.sec l (rd (D4.cuts l) i)) s.last (s.first:Int) (D4.inn l (rd (D4.cuts l) i)) (s.out.length - s.first) s.first s.out (by omega) (by omega)
   have e:D4.one l (rd (D4.cuts l) i) (rd (D4.cuts l) (i+1)) s=⟨D4.grow s.out s.first (rd (D4.cuts l) (i+1)),s.last,s.first,rd (D4.cuts l) (i+1)⟩:=by unfold Dim.one;rw [q];rfl
   obtain ⟨n0,h0⟩:=v2w k (i+1) (D4.one l (rd (D4.cuts l) i) (rd (D4.cuts l) (i+1)) s) (by omega) (by omega) (by omega) (by rw [e];exact hla) (by rw [e];simpa [Dim.grow_length] using hf);refine ⟨n0+n5+1+n3+1,?_⟩;rw [st0 (n0+n5+1),Zv];simp only [Ac,As] at q;obtain ⟨q1,q2,q3⟩:=q;have q3':Kc s.last (Xr (D4.inn l (rd (D4.cuts l) i)))=true:=q3;rw [hsd] at q1;simp (disch:=omega) only [Xi,Zg,Zq,Yz,Yn,q2,q3',w1,w2,Ab,Aa];rw [←hsd,h5 n0];simp only [Dim.go];rw [e] at h0 ⊢;exact h0
  ·obtain ⟨n4,h4⟩:=u6l l hl (i+1) (by omega) (rd (D4.cuts l) i) (rd (D4.cuts l) (i+1)) (D4.sec l (rd (D4.cuts l) i)) (D4.sec l (rd (D4.cuts l) i)) (s.out.length:Int) (D4.inn l (rd (D4.cuts l) i)) hsl (D4.sec l (rd (D4.cuts l) i)).length 0 s.out (Ag _) (by omega);simp only [A3,Qo] at h4;have e:D4.one l (rd (D4.cuts l) i) (rd (D4.cuts l) (i+1)) s=⟨s.out++(D4.sec l (rd (D4.cuts l) i)).map (D4.put (rd (D4.cuts l) i) (rd (D4.cuts l) (i+1))),D4.sec l (rd (D4.cuts l) i),s.out.length,rd (D4.cuts l) (i+1)⟩:=by unfold Dim.one;rw [q];rfl
   obtain ⟨n0,h0⟩:=v2w k (i+1) (D4.one l (rd (D4.cuts l) i) (rd (D4.cuts l) (i+1)) s) (by omega) (by omega) (by omega) (by rw [e];exact hsl) (by rw [e];simp);have hg:Zs (Xi l) 1 (.to (.h2 ((i+1:Nat):Int) (l.length:Int) s.out s.last (s.first:Int) s.fin ((D4.cuts l).length) (Wc (Xc (D4.ends l))) (rd (D4.cuts l) i) (rd (D4.cuts l) (i+1)) (D4.inn l (rd (D4.cuts l) i))))=.to (.h3 (rd (D4.cuts l) i) (rd (D4.cuts l) (i+1)) (D4.sec l (rd (D4.cuts l) i)) ((D4.sec l (rd (D4.cuts l) i)).length :Int) 0 (D4.sec l (rd (D4.cuts l) i)) ((i+1:Nat):Int) s.out (D4.sec l (rd (D4.cuts l) i)) (s.out.length:Int) ((D4.cuts l).length) (Wc (Xc (D4.ends l))) (D4.inn l (rd (D4.cuts l) i))):=by
    rw [show (1:Nat)=0+1 from rfl,Zv];rw [hsd] at q ⊢;have e3:D4.same s.last (Xr (D4.inn l (rd (D4.cuts l) i)))=Kc s.last (Xr (D4.inn l (rd (D4.cuts l) i))):=rfl;rw [e3] at q;by_cases q1:0<(Xr (D4.inn l (rd (D4.cuts l) i))).length
    ·rw [Ah q1,Al] at q;rcases Yd (s.fin == rd (D4.cuts l) i) with q2 | q2
     ·rw [q2,Al] at q;simp (disch:=omega) only [Xi,Zg,Zq,Yz,Yn,q2,q,w1,w2,Ab,Aa];rfl
     ·simp (disch:=omega) only [Xi,Zg,Zq,Yz,Yn,q2,w1,w2,Ab,Aa];rfl
    ·simp (disch:=omega) only [Xi,Zg,Zq,Yz,Xm,w1,w2,Ab,Aa];rfl
   refine ⟨n0+n4+1+n3+1,?_⟩;rw [st0 (n0+n4+1),z8k _ (n0+n4) 1,hg,h4 n0];simp only [Dim.go];rw [e] at h0 ⊢;exact h0
theorem u6n : ∀(k i:Nat) (acc:List Int),i+k=l.length→acc=D4.ends (l.take i)→ ∃n,Zs (Xi l) n (.to (.h0 (i:Int) acc))=.ret (Qx (D4.go l ((D4.cuts l).length - 1) 0 ⟨[],[],0,0⟩).out)
 | 0,i,acc,h,ha=>by
  have e:acc=D4.ends l:=by rw [ha,AP (by omega)]
  subst e;have hle:=D4.ends_length l;obtain ⟨n,hn⟩:=v2w l hl ((D4.cuts l).length - 1) 0 ⟨[],[],0,0⟩ (by omega) (AA _) (AA _) (AA _) (AA _);refine ⟨n+1,?_⟩;rw [Zv];simp (disch:=omega) only [Xi,Jd,z0f,y0f,Yz,Yk,Yp,Av,Ab,Aa];exact hn
 | k+1,i,acc,h,ha=>by
  have hle:=D4.ends_length (l.take i);have eW:acc.length≤2*i:=by rw [ha,hle];simp;omega
  obtain ⟨n,hn⟩:=u6n k (i+1) (acc++D4.ends [rd l i]) (by omega) (by
   rw [ha,A9];have:l[i]? =some (rd l i):=by rw [Yo (show i<l.length by omega)];exact Aq _
   rw [this,D4.ends_append];rfl)
  refine ⟨n+1,?_⟩;rw [Zv];simp (disch:=omega) only [Xi,Zg,Zq,Zn,Zo,Yc,Yk,Yp,Zf,Zk,Zx,Ym,Zj,Ag,Av,Ai,Al,Ab,Aa];exact hn
end
def u6q (l:List R4):Int:=y9s (D4.out l).length
def Wk (l:List R4):List R4:=y6t (u6q l) (D4.out l)
def z1c (l:List R4):Int:=u6q l
def Qz (l:List R4):Bool:=decide (l.length≤400)
theorem j1n (l:List R4) (h:Qz l=true): ∃n,Zs (Xi l) n (x0z l)=.ret (y1a (u6q l) (D4.out l)):=by rw [show y1a (u6q l) (D4.out l)=Qx (D4.out l) from (z8y _).symm];exact u6n l (AC h) l.length 0 [] (Ag _) rfl
def u7o (a b c d:Int):Bool:=Vo ⟨a,b,c,d⟩
theorem u7n (a b c d:Int): ∃N,Zs (x5u a b c d) N (y2a a b c d)=.ret [.bool (u7o a b c d)]:=⟨0,by
 unfold y2a u7o Vo;simp only [y0h];cases decide (a<c) <;> cases decide (b<d) <;> cases decide (a≥ -1000000) <;> cases decide (a≤1000000) <;> cases decide (c≥ -1000000) <;> cases decide (c≤1000000) <;> cases decide (b≥ -1000000) <;> cases decide (b≤1000000) <;> cases decide (d≥ -1000000) <;> rfl⟩
def fVl4 :List AVal→Option (AVal×Bool)
 | [.agg [.int .i64 aO,.int .i64 aN,.int .i64 aM,.int .i64 bD]]=>some (.bool (u7o aO aN aM bD),true)
 | _=>none
theorem j2g {S:Specs} (hS:Zu prog S):Zu prog (S.with w2s fVl4):=by
 refine z0l hS (by kernel_rfl) fun args v h=> ?_;unfold fVl4 at h;split at h
 ·rename_i aO aN aM bD;simp only [Ae,Ad,Cg] at h;subst h;obtain ⟨N,hN⟩:=u7n aO aN aM bD;exact ⟨_,_,(.cons (.refl _) .nil),rfl,v6m aO aN aM bD N _ hN,3,rfl⟩
 ·cases h
def fMad :List AVal→Option (AVal×Bool)
 | [a0]=>match asL R4 a0 with
  | some (L0,g0,n0)=>some (.tup [.dat (Wk L0).length (Zz (Wk L0)),.int .i64 (z1c L0)],isT R4 n0 g0&&(Qz L0))
  | _=>none
 | _=>none
theorem j3i {S:Specs} (hS:Zu prog S):Zu prog (S.with v2i fMad):=by
 refine w8u hS (by kernel_rfl) fun args v h=> ?_;unfold fMad at h;split at h
 ·rename_i a0;split at h
  ·rename_i L0 g0 n0 e0;simp only [Ae,Ad,Ac] at h;obtain ⟨rfl,ho0,hw⟩:=h;obtain ⟨N,hN⟩:=j1n L0 hw;exact ⟨_,_,(.cons (asL_le e0 ho0) .nil),z2v _ _,v9y L0 N _ hN,3,z6k _ _⟩
  ·cases h
 ·cases h
def T6v :Specs:=(T6.with w2s fVl4)
theorem T6v_ok :Zu prog T6v:=(j2g Kq)
def T6m :Specs:=(T6v.with v2i fMad)
theorem y6r :Zu prog T6m:=(j3i T6v_ok)
inductive rgmS where
 | h0 (v8:Int)
def rgmC (l0:List R4):rgmS→Cfg
 | .h0 v8=>⟨⟨19,0,true⟩,none,(Zb prog 154 [1,0,1,0,0] 0),none,(Zy prog 5),⟨Yg [(0,(.dat l0.length (Zz l0))),(1,(.fn 119 [])),(7,(ii (l0.length:Int))),(8,(ii v8))],Wh [] 0,0,[],true⟩,[⟨⟨9,0,true⟩,(Uv prog 118 [1,0] 2),(Zb prog 118 [1,0] 1),none,(Zy prog 5),Yg [(5,(.dat l0.length (Zz l0))),(6,(.fn 119 []))]⟩,⟨⟨13,0,true⟩,(Uv prog 65 [1,1,0,0] 1),(Zb prog 65 [1,1,0,0] 1),none,(Zy prog 15),Yg [(0,(.dat l0.length (Zz l0))),(7,(.dat l0.length (Zz l0)))]⟩],.leaf⟩
def rgmN0 :List (Option (List Nat)):=[some [0,1,7,8],some [5,6],some [0,7]]
def rgmM0 :List (Option (List Nat)):=[]
def z4h (l0:List R4):rgmS→Xv rgmS
 | .h0 v8=>(bif (decide (v8<(l0.length:Int))) then (bif ((decide (0≤v8∧v8<(l0.length:Int)))&&true) then (bif (!(u7o (rd l0 v8.toNat).a (rd l0 v8.toNat).b (rd l0 v8.toNat).c (rd l0 v8.toNat).d)) then (bif (decide (v8≥0)) then (.ret [.nils,(.int .i64 8)]) else (bif (Qz (cvT l0)) then (.ret [(.dat (Wk (cvT l0)).length (Zz (Wk (cvT l0)))),(.int .i64 (z1c (cvT l0)))]) else .stuck)) else (.to (.h0 (wrap .i64 (v8+1))))) else .stuck) else (bif (Qz (cvT l0)) then (.ret [(.dat (Wk (cvT l0)).length (Zz (Wk (cvT l0)))),(.int .i64 (z1c (cvT l0)))]) else .stuck))
def z7t (l0:List R4):Xv rgmS:=(bif (decide ((l0.length:Int)>400)) then (.ret [.nils,(.int .i64 4)]) else (.to (.h0 0)))
theorem w5y (l0:List R4): ∀s,Yt prog (Zy prog 65) (rgmC l0) (rgmC l0 s) (z4h l0 s)
 | .h0 v8=>(lb (fun k0=>(lo fun aG=>(lb (fun k1=>(lb (fun k2=>(lr 13 65 [1,1,0,1,0,0] 1 15 [(2,.nils),(3,(ii 8))] (sl y6r 54 [] ⟨[],[],[some [2,3]],[]⟩ ⟨[],[],[]⟩ (trs 3 []) (tt k2 (tt k1 (ww aG (tt k0 nn))))))) (fun k2=>(lo fun o0=>(lr 13 3 [1,1,1,1,1,1,1,0] 1 15 [(2,(.dat (Wk (cvT l0)).length (Zz (Wk (cvT l0))))),(3,(ii (z1c (cvT l0))))] (sl y6r 59 [] ⟨[],[],[some [2,3]],[]⟩ ⟨[],[],[]⟩ (bl 3 3) (pp (pp (xr l0) (xw o0)) (tt k2 (tt k1 (ww aG (tt k0 nn))))))))))) (fun k1=>(sl y6r 44 [] ⟨[],[],rgmN0,rgmM0⟩ ⟨[],[],[]⟩ (bl 2 1) (tt k1 (ww aG (tt k0 nn)))))))) (fun k0=>(lo fun o0=>(lr 13 3 [1,1,1,1,1,1,1,0] 1 15 [(2,(.dat (Wk (cvT l0)).length (Zz (Wk (cvT l0))))),(3,(ii (z1c (cvT l0))))] (sl y6r 28 [] ⟨[],[],[some [2,3]],[]⟩ ⟨[],[],[]⟩ (bl 2 0) (pp (pp (xr l0) (xw o0)) (tt k0 nn)))))))
theorem x7q (l0:List R4):Yt prog (Zy prog 65) (rgmC l0) (Za prog 65 [(.dat l0.length (Zz l0))] true []) (z7t l0):=(lb (fun k0=>(lr 13 65 [1,0,1,0,0] 1 15 [(2,.nils),(3,(ii 4))] (sl y6r 18 [] ⟨[],[],[some [2,3]],[]⟩ ⟨[],[],[]⟩ [true] (tt k0 nn)))) (fun k0=>(sl y6r 41 [] ⟨[],[],rgmN0,rgmM0⟩ ⟨[],[],[]⟩ [false] (tt k0 nn))))
theorem v8h (l0:List R4) (n:Nat) (vs:List AVal) (h:Zs (z4h l0) n (z7t l0)=.ret vs):Jy prog (Zy prog 65) (Za prog 65 [(.dat l0.length (Zz l0))] true []) vs:=by have:=Zd (w5y l0) n _ (x7q l0);rwa [h] at this
theorem u4m (l:List R4) (hl:l.length≤400): ∀(k i:Nat),i+k=l.length→(∀s∈l.take i,Vo s=true)→ ∃n,Zs (z4h l) n (.to (.h0 (i:Int)))=.ret (bif l.all Vo then [.dat (Wk l).length (Zz (Wk l)),.int .i64 (z1c l)] else [.nils,.int .i64 8])
 | 0,i,h,ht=>by have hv:l.all Vo=true:=Au.2 fun s hs=>ht s (by rw [AP (by omega)];exact hs);have w:Qz l=true:=Ah hl;refine ⟨1,?_⟩;rw [Zv,hv,Ab];simp (disch:=omega) only [z4h,Zg,w,Yz,Ab,Aa,Zp]
 | k+1,i,h,ht=>by
  have hi:i<l.length:=by omega
  have hs:z4h l (.h0 (i:Int))=bif Vo (rd l i) then .to (.h0 ((i+1:Nat):Int)) else .ret [.nils,.int .i64 8]:=by have e:u7o (rd l i).a (rd l i).b (rd l i).c (rd l i).d =Vo (rd l i):=rfl;simp (disch:=omega) only [z4h,e,z6z,x4s,x4t,Zo,Zk,Zx,Zj,Ai,Ab,Aa]
  rcases Yd (Vo (rd l i)) with q | q
  ·obtain ⟨n,hn⟩:=u4m l hl k (i+1) (by omega) (fun s hs=>by
    rw [A9] at hs;have e:l[i]? =some (rd l i):=by rw [Yo hi];exact Aq _
    rw [e] at hs;simp only [Cb,AF,AT] at hs;rcases hs with hs | rfl
    ·exact ht s hs
    ·exact q)
   refine ⟨n+1,?_⟩;rw [Zv,hs,q,Ab];exact hn
  ·have hv:l.all Vo=false:=A8.2 fun e=>by have:=Au.1 e (rd l i) (by rw [Yo hi];exact AR hi);rw [this] at q;cases q
   refine ⟨1,?_⟩;rw [Zv,hv,Aa,hs,q,Aa,Zp]
theorem v8g (l:List R4): ∃n,Zs (z4h l) n (z7t l)=.ret (bif decide (400<l.length) then [.nils,.int .i64 4] else bif l.all Vo then [.dat (Wk l).length (Zz (Wk l)),.int .i64 (z1c l)] else [.nils,.int .i64 8]):=by
 unfold z7t;by_cases h:400<l.length
 ·refine ⟨0,?_⟩;rw [Ah h,Yn (show (l.length:Int)>400 by omega)];rfl
 ·obtain ⟨n,hn⟩:=u4m l (by omega) l.length 0 (Ag _) (fun s hs=>by simp at hs);refine ⟨n,?_⟩;rw [Ay h,Xm (show¬(l.length:Int)>400 by omega),Aa,Aa];exact hn
def Zc (l:List R4):List R4:=bif decide (400<l.length) then [] else bif l.all Vo then (bif decide (((D4.out l).length :Int)>400) then [] else D4.out l) else []
def Xn (l:List R4):Int:=bif decide (400<l.length) then 4 else bif l.all Vo then (bif decide (((D4.out l).length :Int)>400) then 4 else 0) else 8
def Uj (l:List R4):Bool:=true
theorem j0a (l:List R4) (h:Uj l=true): ∃n,Zs (z4h l) n (z7t l)=.ret (bif decide (400<l.length) then [.nils,.int .i64 4] else bif l.all Vo then [.dat (Zc l).length (Zz (Zc l)),.int .i64 (Xn l)] else [.nils,.int .i64 8]):=by
 obtain ⟨n,hn⟩:=v8g l;refine ⟨n,hn.trans ?_⟩;cases h1:decide (400<l.length) <;> cases h2:l.all Vo <;> simp only [Ab,Aa];have e0:Wk l=Zc l:=by unfold Wk u6q y6t y9s Zc;rw [h1,h2];cases decide (((D4.out l).length :Int)>400) <;> rfl
 have e1:z1c l=Xn l:=by unfold z1c u6q y9s Xn;rw [h1,h2];rfl
 rw [e0,e1]
def fRgm :List AVal→Option (AVal×Bool)
 | [a0]=>match asL R4 a0 with
  | some (L0,g0,n0)=>some (.tup [.dat (Zc L0).length (Zz (Zc L0)),.int .i64 (Xn L0)],isT R4 n0 g0&&(Uj L0))
  | _=>none
 | _=>none
theorem j2w {S:Specs} (hS:Zu prog S):Zu prog (S.with w2u fRgm):=by
 refine w8u hS (by kernel_rfl) fun args v h=> ?_;unfold fRgm at h;split at h
 ·rename_i a0;split at h
  ·rename_i L0 g0 n0 e0;simp only [Ae,Ad,Ac] at h;obtain ⟨rfl,ho0,hw⟩:=h;obtain ⟨N,hN⟩:=j0a L0 hw;refine ⟨_,_,(.cons (asL_le e0 ho0) .nil),?_,v8h L0 N _ hN,3,?_⟩
   ·cases h1:decide (400<L0.length) <;> cases h2:L0.all Vo <;> simp only [Zc,Xn,h1,h2,Ab,Aa]
    ·exact fun ρ u hu=>z5s (.cons (z6q R4) (RLe.refl _)) ρ u hu
    ·exact fun ρ u hu=>hu
    ·exact fun ρ u hu=>z5s (.cons (z6q R4) (RLe.refl _)) ρ u hu
    ·exact fun ρ u hu=>z5s (.cons (z6q R4) (RLe.refl _)) ρ u hu
   ·cases decide (400<L0.length) <;> cases L0.all Vo <;> rfl
  ·cases h
 ·cases h
def T7 :Specs:=(T6m.with w2u fRgm)
theorem x5j :Zu prog T7:=(j2w y6r)
inductive vl6S where
def vl6C (aO:Int) (aN:Int) (aM:Int) (bD:Int) (bJ:Int) (bK:Int):vl6S→Cfg
 :=nofun
def x5s (aO:Int) (aN:Int) (aM:Int) (bD:Int) (bJ:Int) (bK:Int):vl6S→Xv vl6S
 :=nofun
def y1z (aO:Int) (aN:Int) (aM:Int) (bD:Int) (bJ:Int) (bK:Int):Xv vl6S:=(bif (decide (aO<bD)) then (bif (decide (aN<bJ)) then (bif (decide (aM<bK)) then (bif (decide ((y1f (y1f aO aN) aM)≥(-1000000))) then (bif (decide ((y1p (y1p aO aN) aM)≤1000000)) then (bif (decide ((y1f (y1f bD bJ) bK)≥(-1000000))) then (.ret [(.bool (decide ((y1p (y1p bD bJ) bK)≤1000000)))]) else (.ret [(.bool false)])) else (.ret [(.bool false)])) else (.ret [(.bool false)])) else (.ret [(.bool false)])) else (.ret [(.bool false)])) else (.ret [(.bool false)]))
theorem w4g (aO:Int) (aN:Int) (aM:Int) (bD:Int) (bJ:Int) (bK:Int): ∀s,Yt prog (Zy prog 94) (vl6C aO aN aM bD bJ bK) (vl6C aO aN aM bD bJ bK s) (x5s aO aN aM bD bJ bK s)
 :=nofun
theorem x5t (aO:Int) (aN:Int) (aM:Int) (bD:Int) (bJ:Int) (bK:Int):Yt prog (Zy prog 94) (vl6C aO aN aM bD bJ bK) (Za prog 94 [(.agg [(.int .i64 aO),(.int .i64 aN),(.int .i64 aM),(.int .i64 bD),(.int .i64 bJ),(.int .i64 bK)])] true []) (y1z aO aN aM bD bJ bK):=(lb (fun k0=>(lb (fun k1=>(lb (fun k2=>(lb (fun k3=>(lb (fun k4=>(lb (fun k5=>(lr 38 3 [1,1,1,1,1,1,1,0] 1 3 [(2,(.bool (decide ((y1p (y1p bD bJ) bK)≤1000000))))] (sl x5j 100 [] ⟨[],[],[some [2]],[]⟩ ⟨[],[],[]⟩ (trs 36 []) (tt k5 (tt k4 (tt k3 (tt k2 (tt k1 (tt k0 nn))))))))) (fun k5=>(lr 38 3 [1,1,1,1,1,1,1,0] 1 3 [(2,(.bool false))] (sl x5j 100 [] ⟨[],[],[some [2]],[]⟩ ⟨[],[],[]⟩ (trs 28 [false,false,false,false,false,false,false,false]) (tt k5 (tt k4 (tt k3 (tt k2 (tt k1 (tt k0 nn))))))))))) (fun k4=>(lr 38 3 [1,1,1,1,1,1,1,0] 1 3 [(2,(.bool false))] (sl x5j 72 [] ⟨[],[],[some [2]],[]⟩ ⟨[],[],[]⟩ (trs 25 [false,false,false]) (tt k4 (tt k3 (tt k2 (tt k1 (tt k0 nn)))))))))) (fun k3=>(lr 38 3 [1,1,1,1,1,1,1,0] 1 3 [(2,(.bool false))] (sl x5j 72 [] ⟨[],[],[some [2]],[]⟩ ⟨[],[],[]⟩ (trs 17 [false,false,false,false,false,false,false,false,false,false,false]) (tt k3 (tt k2 (tt k1 (tt k0 nn))))))))) (fun k2=>(lr 38 3 [1,1,1,1,1,1,1,0] 1 3 [(2,(.bool false))] (sl x5j 44 [] ⟨[],[],[some [2]],[]⟩ ⟨[],[],[]⟩ (trs 14 [false,false,false,false,false,false]) (tt k2 (tt k1 (tt k0 nn)))))))) (fun k1=>(lr 38 3 [1,1,1,1,1,1,1,0] 1 3 [(2,(.bool false))] (sl x5j 44 [] ⟨[],[],[some [2]],[]⟩ ⟨[],[],[]⟩ (trs 7 [false,false,false,false,false,false,false,false,false,false,false,false,false]) (tt k1 (tt k0 nn))))))) (fun k0=>(lr 38 3 [1,1,1,1,1,1,1,0] 1 3 [(2,(.bool false))] (sl x5j 44 [] ⟨[],[],[some [2]],[]⟩ ⟨[],[],[]⟩ [false,false,false,false,false,false,false,false,false,false,false,false,false,false,false,false,false,false,false,false] (tt k0 nn)))))
theorem v6l (aO:Int) (aN:Int) (aM:Int) (bD:Int) (bJ:Int) (bK:Int) (n:Nat) (vs:List AVal) (h:Zs (x5s aO aN aM bD bJ bK) n (y1z aO aN aM bD bJ bK)=.ret vs):Jy prog (Zy prog 94) (Za prog 94 [(.agg [(.int .i64 aO),(.int .i64 aN),(.int .i64 aM),(.int .i64 bD),(.int .i64 bJ),(.int .i64 bK)])] true []) vs:=by have:=Zd (w4g aO aN aM bD bJ bK) n _ (x5t aO aN aM bD bJ bK);rwa [h] at this
def z1i (r:R6):Bool:=decide (r.a<r.d)&&(decide (r.b<r.e)&&(decide (r.c<r.f)&&(decide ((y1f (y1f r.a r.b) r.c)≥(-1000000))&&(decide ((y1p (y1p r.a r.b) r.c)≤1000000)&&(decide ((y1f (y1f r.d r.e) r.f)≥(-1000000))&&decide ((y1p (y1p r.d r.e) r.f)≤1000000))))))
def u7m (a b c d e f:Int):Bool:=z1i ⟨a,b,c,d,e,f⟩
theorem u7l (a b c d e f:Int): ∃N,Zs (x5s a b c d e f) N (y1z a b c d e f)=.ret [.bool (u7m a b c d e f)]:=⟨0,by
 unfold y1z u7m z1i;simp only [y0h];cases decide (a<d) <;> cases decide (b<e) <;> cases decide (c<f) <;> cases decide ((y1f (y1f a b) c)≥(-1000000)) <;> cases decide ((y1p (y1p a b) c)≤1000000) <;> cases decide ((y1f (y1f d e) f)≥(-1000000)) <;> rfl⟩
def fVl6 :List AVal→Option (AVal×Bool)
 | [.agg [.int .i64 aO,.int .i64 aN,.int .i64 aM,.int .i64 bD,.int .i64 bJ,.int .i64 bK]]=>some (.bool (u7m aO aN aM bD bJ bK),true)
 | _=>none
theorem j2f {S:Specs} (hS:Zu prog S):Zu prog (S.with w2r fVl6):=by
 refine z0l hS (by kernel_rfl) fun args v h=> ?_;unfold fVl6 at h;split at h
 ·rename_i aO aN aM bD bJ bK;simp only [Ae,Ad,Cg] at h;subst h;obtain ⟨N,hN⟩:=u7l aO aN aM bD bJ bK;exact ⟨_,_,(.cons (.refl _) .nil),rfl,v6l aO aN aM bD bJ bK N _ hN,3,rfl⟩
 ·cases h
def T7v :Specs:=(T7.with w2r fVl6)
theorem Vk :Zu prog T7v:=(j2f x5j)
inductive sckS where
 | h0 (v8:Int)
 | h1 (v16:Int) (aA:List Int)
 | h2 (v4:Int) (aF:List R6) (aR:List R4) (aY:Int) (aZ:Int) (aE:Nat) (aH:List Int)
 | h3 (v4:Int) (v38:Int) (aF:List R6) (aR:List R4) (aY:Int) (aZ:Int) (aE:Nat) (aH:List Int) (aQ:Int) (bA:Int) (aB:List R4)
 | h4 (v1:Int) (v2:Int) (v72:List R4) (v73:Int) (v74:Int) (bG:List R4) (aT:Int) (aD:List R6) (bB:List R4) (bC:Int) (aE:Nat) (aH:List Int) (aQ:List R4)
 | h5 (v2:Int) (v8:Int) (bU:Int) (bG:List R4) (aT:Int) (aD:List R6) (bB:List R4) (bC:Int) (bS:Int) (bF:Nat) (bM:List Int) (aB:List R4)
abbrev y8a (aD:List R6) (v8:Int) (v2:Int):=(aD.set (0+(tn v8)) (R6.mk (rd aD (0+(tn v8))).a (rd aD (0+(tn v8))).b (rd aD (0+(tn v8))).c (rd aD (0+(tn v8))).d (rd aD (0+(tn v8))).e v2))
def v0g (l0:List R6):AFr:=⟨⟨25,0,true⟩,(Uv prog 51 [1,1,1,0,0] 3),(Zb prog 51 [1,1,1,0,0] 1),none,(Zy prog 3),Yg [(0,(.dat l0.length (Zz l0))),(11,(.agg [.nilf])),(13,(.sl 8 0 1 (.un 1)))]⟩
abbrev y7z (aA:List Int):=(Wc (Yu aA.length (cOf (Zz (Xc (Yu aA.length (cOf (Zz aA))))))))
abbrev y7y (aB:List R4) (l0:List R6) (v38:Int):=(aB++[(R4.mk (rd l0 (tn v38)).a (rd l0 (tn v38)).b (rd l0 (tn v38)).d (rd l0 (tn v38)).e)])
abbrev y7x (aD:List R6) (v72:List R4) (v74:Int) (v1:Int) (v2:Int):=(aD++[(R6.mk (rd v72 (tn v74)).a (rd v72 (tn v74)).b v1 (rd v72 (tn v74)).c (rd v72 (tn v74)).d v2)])
def u3f :=(y7b [(0,⟨.ready,none,65,Yg [(2,(.ptr 1 0)),(4,(.ptr 2 0)),(5,(.ptr 3 0)),(6,(.ptr 4 0))],[15],(Vb prog 95 [1,1,0,1,0,0]),(Vb prog 95 [1,1,0,1,0,1])⟩)])
def z1u (l0:List R6):AVal:=(.dat l0.length (Zz l0))
def u3e :AFr:=⟨⟨65,0,true⟩,none,(.inRangeFunc 0::(Zb prog 95 [1,1,0,1,0] 1)),none,(Zy prog 95),Yg [(4,(.ptr 2 0)),(5,(.ptr 3 0)),(6,(.ptr 4 0))]⟩
abbrev y7w (aA:List Int) (l0:List R6) (v16:Int):=(aA++[(rd l0 (tn v16)).c,(rd l0 (tn v16)).f])
def sckC (l0:List R6):sckS→Cfg
 | .h0 v8=>⟨⟨19,0,true⟩,none,(Zb prog 133 [1,0,1,0,0] 0),none,(Zy prog 5),⟨Yg [(0,(z1u l0)),(1,(.fn 98 [])),(7,(ii (l0.length:Int))),(8,(ii v8))],Wh [] 0,0,[],true⟩,[⟨⟨9,0,true⟩,(Uv prog 89 [1,0] 2),(Zb prog 89 [1,0] 1),none,(Zy prog 5),Yg [(5,(z1u l0)),(6,(.fn 98 []))]⟩,⟨⟨25,0,true⟩,(Uv prog 51 [1,1,0,0] 1),(Zb prog 51 [1,1,0,0] 1),none,(Zy prog 3),Yg [(0,(z1u l0)),(8,(z1u l0))]⟩],.leaf⟩
 | .h1 v16 aA=>⟨⟨36,0,true⟩,none,(Zb prog 136 [1,1,0,1,0,0,1,1,0,0,1,1,0,0] 0),none,(Zy prog 3),⟨Yg [(1,(.ptr 0 0)),(3,(.ptr 2 0)),(8,(.sl 1 0 1 (.un 1))),(9,(ii 1)),(10,(ii 0)),(14,(z1u l0)),(15,(ii (l0.length:Int))),(16,(ii v16))],Wh [⟨[(.sl 1 0 1 (.un 1))],166,none⟩,⟨[(z1u l0)],22,none⟩,⟨[(.sla 7 1 0 aA.length (.un 1))],93,none⟩,⟨[.nilf],117,none⟩,⟨[.nils],38,none⟩,⟨[(ii 0)],26,none⟩,⟨[.nils,.nils,(ii 0),(ii 0)],168,none⟩,⟨Yx aA.length (Zz aA),3,some ⟨1,aA.length,(Zz aA)⟩⟩] 0,8,[],true⟩,[⟨⟨65,0,true⟩,(Uv prog 95 [1,1,0,0] 1),(Zb prog 95 [1,1,0,0] 1),none,(Zy prog 95),Yg [(2,(.ptr 3 0)),(4,(.ptr 4 0)),(5,(.ptr 5 0)),(6,(.ptr 6 0)),(13,(.sl 1 0 1 (.un 1)))]⟩,⟨⟨25,0,true⟩,(Uv prog 51 [1,1,1,0,0] 3),(Zb prog 51 [1,1,1,0,0] 1),none,(Zy prog 3),Yg [(0,(z1u l0)),(11,(.agg [.nilf])),(13,(.sl 1 0 1 (.un 1)))]⟩],.leaf⟩
 | .h2 v4 aF aR aY aZ aE aH=>⟨⟨86,0,true⟩,none,(Zb prog 171 [1,0,0] 0),none,[],⟨Yg [(0,(.yld 0)),(1,(.ptr 5 0)),(2,(.ptr 7 0)),(4,(ii v4))],y1c [(1,⟨[.nilf],117,none⟩),(2,⟨[.nils],38,none⟩),(3,⟨[(ii 0)],26,none⟩),(4,⟨[(.sla 9 6 0 aF.length (.un 6)),(.dat aR.length (Zz aR)),(ii aY),(ii aZ)],168,none⟩),(5,⟨[(.sla 6 1 0 aE (.un 1))],93,none⟩),(6,⟨Yx aH.length (Zz aH),3,some ⟨1,aH.length,(Zz aH)⟩⟩),(7,⟨[(.sl 8 0 1 (.un 1))],166,none⟩),(8,⟨[(z1u l0)],22,none⟩),(9,⟨Yx aF.length (Zz aF),67,some ⟨6,aF.length,(Zz aF)⟩⟩)],10,[],true⟩,[u3e,(v0g l0)],u3f⟩
 | .h3 v4 v38 aF aR aY aZ aE aH aQ bA aB=>⟨⟨86,0,true⟩,none,(Zb prog 171 [1,0,0,1,0,0,1,0,1,0,0,1,1,0,0,1,1,0,0] 0),none,[],⟨Yg [(0,(.yld 0)),(1,(.ptr 5 0)),(2,(.ptr 7 0)),(4,(ii v4)),(5,(.ptr 9 0)),(6,(ii 0)),(29,(.sl 8 0 1 (.un 1))),(30,(ii 1)),(31,(ii 0)),(36,(z1u l0)),(37,(ii (l0.length:Int))),(38,(ii v38))],y1c [(1,⟨[.nilf],117,none⟩),(2,⟨[.nils],38,none⟩),(3,⟨[(ii 0)],26,none⟩),(4,⟨[(.sla 12 6 0 aF.length (.un 6)),(.dat aR.length (Zz aR)),(ii aY),(ii aZ)],168,none⟩),(5,⟨[(.sla 6 1 0 aE (.un 1))],93,none⟩),(6,⟨Yx aH.length (Zz aH),3,some ⟨1,aH.length,(Zz aH)⟩⟩),(7,⟨[(.sl 8 0 1 (.un 1))],166,none⟩),(8,⟨[(z1u l0)],22,none⟩),(9,⟨[(ii aQ),(ii bA),(.sl 10 0 1 (.ex 1))],173,none⟩),(10,⟨[(.sla 11 4 0 aB.length (.un 4))],99,none⟩),(11,⟨Yx aB.length (Zz aB),88,some ⟨4,aB.length,(Zz aB)⟩⟩),(12,⟨Yx aF.length (Zz aF),67,some ⟨6,aF.length,(Zz aF)⟩⟩)],13,[],true⟩,[u3e,(v0g l0)],u3f⟩
 | .h4 v1 v2 v72 v73 v74 bG aT aD bB bC aE aH aQ=>⟨⟨101,0,true⟩,none,(Zb prog 137 [1,1,1,0,0] 0),none,[],⟨Yg [(0,(.ptr 0 0)),(1,(ii v1)),(2,(ii v2)),(72,(.dat v72.length (Zz v72))),(73,(ii v73)),(74,(ii v74))],y1c [(0,⟨[(.sla 10 6 0 aD.length (.un 6)),(.dat bB.length (Zz bB)),(ii bC),(ii v2)],168,none⟩),(2,⟨[.nilf],117,none⟩),(3,⟨[.nils],38,none⟩),(4,⟨[(ii 0)],26,none⟩),(5,⟨[(.sla 6 1 0 aE (.un 1))],93,none⟩),(6,⟨Yx aH.length (Zz aH),3,some ⟨1,aH.length,(Zz aH)⟩⟩),(7,⟨[(.sl 8 0 1 (.un 1))],166,none⟩),(8,⟨[(z1u l0)],22,none⟩),(9,⟨[(.dat aQ.length (Zz aQ))],99,none⟩),(10,⟨Yx aD.length (Zz aD),67,some ⟨6,aD.length,(Zz aD)⟩⟩)],11,[],true⟩,[⟨⟨65,0,true⟩,(Uv prog 95 [1,1,0,1,0,1,0,1,1,1] 5),(Zb prog 95 [1,1,0,1,0,1,0,1,1,1] 1),(some 1),[],Yg [(6,(.ptr 0 0)),(54,(ii v1)),(56,(ii v2)),(57,(.dat bG.length (Zz bG)))]⟩,⟨⟨86,0,true⟩,(Uv prog 171 [1,0,0,1,0,0,1,1,0] 2),(Zb prog 171 [1,0,0,1,0,0,1,1,0] 1),none,[],Yg [(0,(.yld 1)),(1,(.ptr 5 0)),(2,(.ptr 7 0)),(4,(ii aT)),(82,(.yld 1)),(83,(.agg [(ii v1),(ii v2),(.sl 9 0 1 (.ex 1))]))]⟩,⟨⟨65,0,true⟩,none,(.inRangeFunc 1::(Zb prog 95 [1,1,0,1,0] 1)),none,(Zy prog 95),Yg [(4,(.ptr 3 0)),(5,(.ptr 4 0)),(6,(.ptr 0 0))]⟩,(v0g l0)],(y7b [(1,⟨.busy,none,65,Yg [(2,(.ptr 2 0)),(4,(.ptr 3 0)),(5,(.ptr 4 0)),(6,(.ptr 0 0))],[15],(Vb prog 95 [1,1,0,1,0,0]),(Vb prog 95 [1,1,0,1,0,1])⟩)])⟩
 | .h5 v2 v8 bU bG aT aD bB bC bS bF bM aB=>⟨⟨101,0,true⟩,none,(Zb prog 137 [0,1,0,0,1,0,0] 0),none,[],⟨Yg [(0,(.ptr 0 0)),(2,(ii v2)),(8,(ii v8))],y1c [(0,⟨[(.sla 1 6 0 aD.length (.un 6)),(.dat bB.length (Zz bB)),(ii bC),(ii bS)],168,none⟩),(1,⟨Yx aD.length (Zz aD),67,some ⟨6,aD.length,(Zz aD)⟩⟩),(3,⟨[.nilf],117,none⟩),(4,⟨[.nils],38,none⟩),(5,⟨[(ii 0)],26,none⟩),(6,⟨[(.sla 7 1 0 bF (.un 1))],93,none⟩),(7,⟨Yx bM.length (Zz bM),3,some ⟨1,bM.length,(Zz bM)⟩⟩),(8,⟨[(.sl 9 0 1 (.un 1))],166,none⟩),(9,⟨[(z1u l0)],22,none⟩),(10,⟨[(.dat aB.length (Zz aB))],99,none⟩)],11,[],true⟩,[⟨⟨65,0,true⟩,(Uv prog 95 [1,1,0,1,0,1,0,1,1,1] 5),(Zb prog 95 [1,1,0,1,0,1,0,1,1,1] 1),(some 2),[],Yg [(6,(.ptr 0 0)),(54,(ii bU)),(56,(ii v2)),(57,(.dat bG.length (Zz bG)))]⟩,⟨⟨86,0,true⟩,(Uv prog 171 [1,0,0,1,0,0,1,1,0] 2),(Zb prog 171 [1,0,0,1,0,0,1,1,0] 1),none,[],Yg [(0,(.yld 2)),(1,(.ptr 6 0)),(2,(.ptr 8 0)),(4,(ii aT)),(82,(.yld 2)),(83,(.agg [(ii bU),(ii v2),(.sl 10 0 1 (.ex 1))]))]⟩,⟨⟨65,0,true⟩,none,(.inRangeFunc 2::(Zb prog 95 [1,1,0,1,0] 1)),none,(Zy prog 95),Yg [(4,(.ptr 4 0)),(5,(.ptr 5 0)),(6,(.ptr 0 0))]⟩,⟨⟨25,0,true⟩,(Uv prog 51 [1,1,1,0,0] 3),(Zb prog 51 [1,1,1,0,0] 1),none,(Zy prog 3),Yg [(0,(z1u l0)),(11,(.agg [.nilf])),(13,(.sl 9 0 1 (.un 1)))]⟩],(y7b [(2,⟨.busy,none,65,Yg [(2,(.ptr 3 0)),(4,(.ptr 4 0)),(5,(.ptr 5 0)),(6,(.ptr 0 0))],[15],(Vb prog 95 [1,1,0,1,0,0]),(Vb prog 95 [1,1,0,1,0,1])⟩)])⟩
def sckN0 :List (Option (List Nat)):=[some [0,1,7,8],some [5,6],some [0,8]]
def sckM0 :List (Option (List Nat)):=[]
def u8n :List (Option (List Nat)):=[some [1,3,8,9,10,14,15,16],some [2,4,5,6,13],some [0,11,13]]
def u8p :List (Option (List Nat)):=[]
def u8m :List (Option (List Nat)):=[some [0,1,2,4],some [4,5,6],some [0,11,13]]
def u8o :List (Option (List Nat)):=[some [2,4,5,6],none,none,none,none,none,none,none,none,none]
def v7e :List (Option (List Nat)):=[some [0,1,2,4,5,6,29,30,31,36,37,38],some [4,5,6],some [0,11,13]]
def v7g :List (Option (List Nat)):=[some [2,4,5,6],none,none,none,none,none,none,none,none,none,none,none,none]
def v7d :List (Option (List Nat)):=[some [0,1,2,72,73,74],some [6,54,56,57],some [0,1,2,4,82,83],some [4,5,6],some [0,11,13]]
def v7f :List (Option (List Nat)):=[none,some [2,4,5,6],none,none,none,none,none,none,none,none,none]
def sckN5 :List (Option (List Nat)):=[some [0,2,8],some [6,54,56,57],some [0,1,2,4,82,83],some [4,5,6],some [0,11,13]]
def sckM5 :List (Option (List Nat)):=[none,none,some [2,4,5,6],none,none,none,none,none,none,none,none]
def Xj (l0:List R6):sckS→Xv sckS
 | .h0 v8=>(bif (decide (v8<(l0.length:Int))) then (bif ((decide (0≤v8∧v8<(l0.length:Int)))&&true) then (bif (!(u7m (rd l0 v8.toNat).a (rd l0 v8.toNat).b (rd l0 v8.toNat).c (rd l0 v8.toNat).d (rd l0 v8.toNat).e (rd l0 v8.toNat).f)) then (bif (decide (v8≥0)) then (.ret [(.int .i64 8)]) else (.to (.h1 0 ([]:List Int)))) else (.to (.h0 (wrap .i64 (v8+1))))) else .stuck) else (.to (.h1 0 ([]:List Int))))
 | .h1 v16 aA=>(bif (decide (v16<(l0.length:Int))) then (bif ((decide (0≤v16∧v16<(l0.length:Int)))&&true) then (bif (Nat.beq 1 1&&((decide (0+aA.length=aA.length))&&decide ((aA.length+2+1)*(8+1)≤Uw))) then (.to (.h1 (wrap .i64 (v16+1)) (aA++[(rd l0 v16.toNat).c,(rd l0 v16.toNat).f]))) else .stuck) else .stuck) else (bif (decide (aA.length<4611686018427387904)) then (bif (decide (aA.length=aA.length)) then (.to (.h2 1 ([]:List R6) ([]:List R4) 0 0 (w8v (Yu aA.length (cOf (Zz (Xc (Yu aA.length (cOf (Zz aA)))))))) (Wc (Yu aA.length (cOf (Zz (Xc (Yu aA.length (cOf (Zz aA)))))))))) else .stuck) else .stuck))
 | .h2 v4 aF aR aY aZ aE aH=>(bif (decide (v4<((aE:Nat):Int))) then (bif ((decide (0≤(wrap .i64 (v4 - 1))∧(wrap .i64 (v4 - 1))<((aE:Nat):Int)))&&true) then (bif (decide ((0+(Int.toNat (wrap .i64 (v4 - 1))))<aH.length)) then (bif ((decide (0≤v4∧v4<((aE:Nat):Int)))&&true) then (bif (decide ((0+v4.toNat)<aH.length)) then (.to (.h3 v4 0 aF aR aY aZ aE aH (rd aH (0+(Int.toNat (wrap .i64 (v4 - 1))))) (rd aH (0+v4.toNat)) ([]:List R4))) else .stuck) else .stuck) else .stuck) else .stuck) else (bif (decide ((aF.length:Int)>400)) then (.ret [(.int .i64 8)]) else (bif (Nat.beq 6 6&&(decide (0+aF.length≤aF.length)&&z0k (Zz aF))) then (bif (Vp (lst R6 (aF.length) (fun k=>(Zz aF) (0+k))) (cvT l0)) then (bif (!(Kb (lst R6 (aF.length) (fun k=>(Zz aF) (0+k))) (cvT l0))) then (.ret [(.int .i64 8)]) else (.ret [(.int .i64 0)])) else .stuck) else .stuck)))
 | .h3 v4 v38 aF aR aY aZ aE aH aQ bA aB=>(bif (decide (v38<(l0.length:Int))) then (bif ((decide (0≤v38∧v38<(l0.length:Int)))&&true) then (bif (decide ((rd l0 v38.toNat).c ≤aQ)) then (bif (decide (aQ<(rd l0 v38.toNat).f)) then (bif (Nat.beq 4 4&&((decide (0+aB.length=aB.length))&&decide ((aB.length+1+1)*(32+1)≤Uw))) then (.to (.h3 v4 (wrap .i64 (v38+1)) aF aR aY aZ aE aH aQ bA (aB++[(R4.mk (rd l0 v38.toNat).a (rd l0 v38.toNat).b (rd l0 v38.toNat).d (rd l0 v38.toNat).e)]))) else .stuck) else (.to (.h3 v4 (wrap .i64 (v38+1)) aF aR aY aZ aE aH aQ bA aB))) else (.to (.h3 v4 (wrap .i64 (v38+1)) aF aR aY aZ aE aH aQ bA aB))) else .stuck) else (bif (Uj (cvT aB)) then (bif ((Xn (cvT aB)) != 0) then (.ret [(.int .i64 8)]) else (bif (decide ((((Zc (cvT aB)).length :Nat):Int)>0)) then (bif (aZ == aQ) then (bif (Wg (cvT aR) (cvT (Zc (cvT aB)))) then (bif (Ur (cvT aR) (cvT (Zc (cvT aB)))) then (.to (.h5 bA aY aQ (Zc (cvT aB)) v4 aF aR aY aZ aE aH aB)) else (.to (.h4 aQ bA (Zc (cvT aB)) (((Zc (cvT aB)).length :Nat):Int) 0 (Zc (cvT aB)) v4 aF (Zc (cvT aB)) (aF.length:Int) aE aH aB))) else .stuck) else (.to (.h4 aQ bA (Zc (cvT aB)) (((Zc (cvT aB)).length :Nat):Int) 0 (Zc (cvT aB)) v4 aF (Zc (cvT aB)) (aF.length:Int) aE aH aB))) else (.to (.h4 aQ bA (Zc (cvT aB)) (((Zc (cvT aB)).length :Nat):Int) 0 (Zc (cvT aB)) v4 aF (Zc (cvT aB)) (aF.length:Int) aE aH aB)))) else .stuck))
 | .h4 v1 v2 v72 v73 v74 bG aT aD bB bC aE aH aQ=>(bif (decide (v74<v73)) then (bif ((decide (0≤v74∧v74<(v72.length:Int)))&&true) then (bif (Nat.beq 6 6&&((decide (0+aD.length=aD.length))&&decide ((aD.length+1+1)*(48+1)≤Uw))) then (.to (.h4 v1 v2 v72 v73 (wrap .i64 (v74+1)) bG aT (aD++[(R6.mk (rd v72 v74.toNat).a (rd v72 v74.toNat).b v1 (rd v72 v74.toNat).c (rd v72 v74.toNat).d v2)]) bB bC aE aH aQ)) else .stuck) else .stuck) else (.to (.h2 (wrap .i64 (aT+1)) aD bB bC v2 aE aH)))
 | .h5 v2 v8 bU bG aT aD bB bC bS bF bM aB=>(bif (decide (v8<(aD.length:Int))) then (bif ((decide (0≤v8∧v8<(aD.length:Int)))&&true) then (bif (decide ((0+v8.toNat)<aD.length)) then (.to (.h5 v2 (wrap .i64 (v8+1)) bU bG aT (aD.set (0+v8.toNat) (R6.mk (rd aD (0+v8.toNat)).a (rd aD (0+v8.toNat)).b (rd aD (0+v8.toNat)).c (rd aD (0+v8.toNat)).d (rd aD (0+v8.toNat)).e v2)) bB bC bS bF bM aB)) else .stuck) else .stuck) else (.to (.h2 (wrap .i64 (aT+1)) aD bB bC v2 bF bM)))
def y2g (l0:List R6):Xv sckS:=(bif (decide ((l0.length:Int)>400)) then (.ret [(.int .i64 4)]) else (.to (.h0 0)))
theorem w5a (l0:List R6): ∀s,Yt prog (Zy prog 51) (sckC l0) (sckC l0 s) (Xj l0 s)
 | .h0 v8=>(lb (fun k0=>(lo fun aG=>(lb (fun k1=>(lb (fun k2=>(lr 25 51 [1,1,0,1,0,0] 1 3 [(2,(ii 8))] (sl Vk 53 [] ⟨[],[],[some [2]],[]⟩ ⟨[],[],[]⟩ (trs 3 []) (tt k2 (tt k1 (ww aG (tt k0 nn))))))) (fun k2=>(sl Vk 113 [(3,1,Zz ([]:List Int))] ⟨[6,1,7,2,3,4,5,8],[],u8n,u8p⟩ ⟨[],[.keep,.keep,.cells [.grow 7 1],.keep,.keep,.keep,.keep,.keep],[]⟩ (bl 4 11) (pp (fl ([]:List Int) nn) (tt k2 (tt k1 (ww aG (tt k0 nn))))))))) (fun k1=>(sl Vk 44 [] ⟨[],[],sckN0,sckM0⟩ ⟨[],[],[]⟩ (bl 2 1) (tt k1 (ww aG (tt k0 nn)))))))) (fun k0=>(sl Vk 82 [(3,1,Zz ([]:List Int))] ⟨[5,0,6,1,2,3,4,7],[],u8n,u8p⟩ ⟨[],[.keep,.keep,.cells [.grow 7 1],.keep,.keep,.keep,.keep,.keep],[]⟩ (bl 3 4) (pp (fl ([]:List Int) nn) (tt k0 nn)))))
 | .h1 v16 aA=>(lb (fun k0=>(lo fun o0=>(lo fun o1=>(sl Vk 34 [] ⟨[0,1,2,3,4,5,6,10],[],u8n,u8p⟩ ⟨[],[.keep,.keep,.cells [.len (y7w aA l0 v16).length],.keep,.keep,.keep,.keep,.rowed 1 (y7w aA l0 v16).length (Zz (y7w aA l0 v16))],[]⟩ [true] (pp (xL (aA.length+2) (y7w aA l0 v16).length) (pp (xL (aA.length+2) (y7w aA l0 v16).length) (pp (xS (aA.length+2) (Ze (Zz aA) 0 aA.length 1 [(ii (rd l0 (tn v16)).c),(ii (rd l0 (tn v16)).f)]) (Zz (y7w aA l0 v16))) (pp (pp (xF (Ze (Zz aA) 0 aA.length 1 [(ii (rd l0 (tn v16)).c),(ii (rd l0 (tn v16)).f)])) nn) (ww o1 (ww o0 (tt k0 nn))))))))))) (fun k0=>(lo fun o0=>(lo fun o1=>(sl Vk 46 [(67,6,Zz ([]:List R6))] ⟨[8,3,4,5,6,2,7,0,1,9],[],u8m,u8o⟩ ⟨[],(kpB 4 [.cells [.grow 9 6,.list 0 (Zz ([]:List R4)),.keep,.keep],.keep,.rowed 1 (y7z aA).length (Zz (y7z aA)),.keep,.keep,.keep]),[]⟩ (bl 2 0) (pp (xL aA.length (y7z aA).length (by first | exact z2e _ _ | exact Va rfl)) (pp (xS aA.length (Zz (y7z aA)) (Zz (y7z aA))) (pp (fl (y7z aA) (fl ([]:List R6) nn)) (pp (pp (xG (Nat.beq 1 1)) (pp (xG (Nat.beq 1 1)) (pp (xG (Nat.beq 0 0)) (pp (xG (decide (aA.length=aA.length))) (pp (xG (isI (Zz (Xc (Yu aA.length (cOf (Zz aA))))))) (xG (decide (aA.length<4611686018427387904)))))))) (pp (pp (xG (Nat.beq 1 1)) (pp (xG (Nat.beq 1 1)) (pp (xG (Nat.beq 0 0)) (pp (xG (decide (aA.length=aA.length))) (pp (xG (isI (Zz aA))) (xG (decide (aA.length<4611686018427387904)))))))) (tt k0 nn)))))))))))
 | .h2 v4 aF aR aY aZ aE aH=>(lb (fun k0=>(lo fun o0=>(lo fun o1=>(lo fun o2=>(lo fun o3=>(sl Vk 48 [(88,4,Zz ([]:List R4))] ⟨[0,1,2,3,4,5,6,7,8,10,11,12,9],[],v7e,v7g⟩ ⟨[],(kpB 10 [.cells [.grow 11 4],.keep,.keep]),[]⟩ (trs 3 []) (pp (fl aH (fl ([]:List R4) (fl aF nn))) (ww o3 (ww o2 (ww o1 (ww o0 (tt k0 nn)))))))))))) (fun k0=>(lb (fun k1=>(lr 25 51 [1,1,1,0,1,1,0,0] 1 3 [(2,(ii 8))] (sl Vk 50 [] ⟨[],[],[some [2]],[]⟩ ⟨[],[],[]⟩ (bl 7 126) (tt k1 (tt k0 nn))))) (fun k1=>(lo fun bW=>(lo fun cO=>(lb (fun k2=>(lr 25 51 [1,1,1,0,1,1,0,0] 1 3 [(2,(ii 8))] (sl Vk 53 [] ⟨[],[],[some [2]],[]⟩ ⟨[],[],[]⟩ (bl 7 64) (tt k2 (pp (pp (pp (xw bW) (pp nn nn)) (pp (xI R6 (aF.length) (fun k=>(Zz aF) (0+k))) (pp (xr l0) (xw cO)))) (tt k1 (tt k0 nn))))))) (fun k2=>(lr 25 3 [1,1,1,1,1,1,1,0] 1 3 [(2,(ii 0))] (sl Vk 54 [] ⟨[],[],[some [2]],[]⟩ ⟨[],[],[]⟩ (bl 7 0) (tt k2 (pp (pp (pp (xw bW) (pp nn nn)) (pp (xI R6 (aF.length) (fun k=>(Zz aF) (0+k))) (pp (xr l0) (xw cO)))) (tt k1 (tt k0 nn))))))))))))))
 | .h3 v4 v38 aF aR aY aZ aE aH aQ bA aB=>(lb (fun k0=>(lo fun aG=>(lb (fun k1=>(lb (fun k2=>(lo fun o0=>(sl Vk 41 [] ⟨[0,1,2,3,4,5,6,7,8,9,10,15,12],[],v7e,v7g⟩ ⟨[],(kpB 10 [.cells [.len (y7y aB l0 v38).length],.rowed 4 (y7y aB l0 v38).length (Zz (y7y aB l0 v38)),.keep]),[]⟩ (trs 8 []) (pp (xL (aB.length+1) (y7y aB l0 v38).length) (pp (xL (aB.length+1) (y7y aB l0 v38).length) (pp (xS (aB.length+1) (Ze (Zz aB) 0 aB.length 4 [(ii (rd l0 (tn v38)).a),(ii (rd l0 (tn v38)).b),(ii (rd l0 (tn v38)).d),(ii (rd l0 (tn v38)).e)]) (Zz (y7y aB l0 v38))) (pp (fl aH (pp (xF (Ze (Zz aB) 0 aB.length 4 [(ii (rd l0 (tn v38)).a),(ii (rd l0 (tn v38)).b),(ii (rd l0 (tn v38)).d),(ii (rd l0 (tn v38)).e)])) (fl aF nn))) (ww o0 (tt k2 (tt k1 (ww aG (tt k0 nn)))))))))))) (fun k2=>(sl Vk 41 [] ⟨(List.range 13),[],v7e,v7g⟩ ⟨[],[],[]⟩ (trs 7 [false]) (pp (fl aH (fl aB (fl aF nn))) (tt k2 (tt k1 (ww aG (tt k0 nn))))))))) (fun k1=>(sl Vk 41 [] ⟨(List.range 13),[],v7e,v7g⟩ ⟨[],[],[]⟩ (bl 8 1) (pp (fl aH (fl aB (fl aF nn))) (tt k1 (ww aG (tt k0 nn))))))))) (fun k0=>(Xb (sl Vk (C':=⟨⟨65,0,true⟩,(Uv prog 95 [1,1,0,1,0,1,0,0] 4),(Zb prog 95 [1,1,0,1,0,1,0,0] 1),(some 0),[],⟨Yg [(2,(.ptr 1 0)),(4,(.ptr 2 0)),(5,(.ptr 3 0)),(6,(.ptr 4 0)),(7,(.ptr 6 0)),(20,(.dat aB.length (Zz aB)))],y1c [(1,⟨[.nilf],117,none⟩),(2,⟨[.nils],38,none⟩),(3,⟨[(ii 0)],26,none⟩),(4,⟨[(.sla 5 6 0 aF.length (.un 6)),(.dat aR.length (Zz aR)),(ii aY),(ii aZ)],168,none⟩),(5,⟨Yx aF.length (Zz aF),67,some ⟨6,aF.length,(Zz aF)⟩⟩),(6,⟨[(ii aQ),(ii bA),(.sl 7 0 1 (.ex 1))],173,none⟩),(7,⟨[(.dat aB.length (Zz aB))],99,none⟩),(8,⟨[(.sla 9 1 0 aE (.un 1))],93,none⟩),(9,⟨Yx aH.length (Zz aH),3,some ⟨1,aH.length,(Zz aH)⟩⟩),(10,⟨[(.sl 11 0 1 (.un 1))],166,none⟩),(11,⟨[(.dat l0.length (Zz l0))],22,none⟩)],12,[],true⟩,[⟨⟨86,0,true⟩,(Uv prog 171 [1,0,0,1,0,0,1,1,0] 2),(Zb prog 171 [1,0,0,1,0,0,1,1,0] 1),none,[],Yg [(0,(.yld 0)),(1,(.ptr 8 0)),(2,(.ptr 10 0)),(4,(ii v4)),(82,(.yld 0)),(83,(.agg [(ii aQ),(ii bA),(.sl 7 0 1 (.ex 1))]))]⟩,⟨⟨65,0,true⟩,none,(.inRangeFunc 0::(Zb prog 95 [1,1,0,1,0] 1)),none,(Zy prog 95),Yg [(4,(.ptr 2 0)),(5,(.ptr 3 0)),(6,(.ptr 4 0))]⟩,⟨⟨25,0,true⟩,(Uv prog 51 [1,1,1,0,0] 3),(Zb prog 51 [1,1,1,0,0] 1),none,(Zy prog 3),Yg [(0,(.dat l0.length (Zz l0))),(11,(.agg [.nilf])),(13,(.sl 11 0 1 (.un 1)))]⟩],(y7b [(0,⟨.busy,none,65,Yg [(2,(.ptr 1 0)),(4,(.ptr 2 0)),(5,(.ptr 3 0)),(6,(.ptr 4 0))],[15],(Vb prog 95 [1,1,0,1,0,0]),(Vb prog 95 [1,1,0,1,0,1])⟩)])⟩) 37 [] ⟨[0,1,2,3,4,12,13,10,5,6,7,8],[11],[some [2,4,5,6,7,20],some [0,1,2,4,82,83],some [4,5,6],some [0,11,13]],[some [2,4,5,6],none,none,none,none,none,none,none,none,none,none,none]⟩ ⟨[(20,.frz aB.length aB.length (Zz aB) (Zz aB))],[.keep,.keep,.keep,.keep,.keep,.keep,.keep,.cells [.frz aB.length aB.length (Zz aB) (Zz aB)],.keep,.keep,.keep,.keep],[]⟩ (bl 2 0) (pp (xZ (z1p 4 4 0 aB.length aB.length (Zz aB)) aB.length (Zz aB)) (pp (xL aB.length aB.length) (pp (xS aB.length (Zz aB) (Zz aB)) (pp (xZ (z1p 4 4 0 aB.length aB.length (Zz aB)) aB.length (Zz aB)) (pp (xL aB.length aB.length) (pp (xS aB.length (Zz aB) (Zz aB)) (pp (fl aF (fl aH nn)) (pp (fl aB nn) (tt k0 nn)))))))))) (lo fun aG=>(lb (fun k1=>(lr 25 51 [1,1,1,0,1,1,0,0] 1 3 [(2,(ii 8))] (sl Vk 67 [] ⟨[],[],[some [2]],[]⟩ ⟨[],[],[]⟩ (bl 8 254) (tt k1 (tt k1 (pp (pp (xr aB) (xw aG)) nn)))))) (fun k1=>(lb (fun k2=>(lb (fun k3=>(lo fun bX=>(lb (fun k4=>(sl Vk 75 [] ⟨[4,5,0,1,2,3,8,9,10,11,7],[],sckN5,sckM5⟩ ⟨[],[],[]⟩ (bl 15 32764) (pp (fl aF (fl aH nn)) (tt k4 (pp (pp (xr aR) (pp (xI R4 (Zc (cvT aB)).length (Zz (Zc (cvT aB)))) (xw bX))) (tt k3 (tt k2 (tt k1 (pp (pp (xr aB) (xw aG)) nn))))))))) (fun k4=>(sl Vk 95 [] ⟨[4,0,1,2,3,8,9,10,11,7,5],[],v7d,v7f⟩ ⟨[],[],[]⟩ (bl 15 16380) (pp (fl aH (fl aF nn)) (tt k4 (pp (pp (xr aR) (pp (xI R4 (Zc (cvT aB)).length (Zz (Zc (cvT aB)))) (xw bX))) (tt k3 (tt k2 (tt k1 (pp (pp (xr aB) (xw aG)) nn)))))))))))) (fun k3=>(sl Vk 95 [] ⟨[4,0,1,2,3,8,9,10,11,7,5],[],v7d,v7f⟩ ⟨[],[],[]⟩ (bl 15 252) (pp (fl aH (fl aF nn)) (tt k3 (tt k2 (tt k1 (pp (pp (xr aB) (xw aG)) nn))))))))) (fun k2=>(sl Vk 95 [] ⟨[4,0,1,2,3,8,9,10,11,7,5],[],v7d,v7f⟩ ⟨[],[],[]⟩ (bl 15 0) (pp (fl aH (fl aF nn)) (tt k2 (tt k1 (pp (pp (xr aB) (xw aG)) nn)))))))))))))
 | .h4 v1 v2 v72 v73 v74 bG aT aD bB bC aE aH aQ=>(lb (fun k0=>(lo fun o0=>(lo fun o1=>(sl Vk 23 [] ⟨[0,1,2,3,4,5,6,7,8,9,13],[],v7d,v7f⟩ ⟨[],[.cells [.len (y7x aD v72 v74 v1 v2).length,.keep,.keep,.keep],.keep,.keep,.keep,.keep,.keep,.keep,.keep,.keep,.keep,.rowed 6 (y7x aD v72 v74 v1 v2).length (Zz (y7x aD v72 v74 v1 v2))],[]⟩ [true] (pp (xL (aD.length+1) (y7x aD v72 v74 v1 v2).length) (pp (xL (aD.length+1) (y7x aD v72 v74 v1 v2).length) (pp (xS (aD.length+1) (Ze (Zz aD) 0 aD.length 6 [(ii (rd v72 (tn v74)).a),(ii (rd v72 (tn v74)).b),(ii v1),(ii (rd v72 (tn v74)).c),(ii (rd v72 (tn v74)).d),(ii v2)]) (Zz (y7x aD v72 v74 v1 v2))) (pp (fl aH (pp (xF (Ze (Zz aD) 0 aD.length 6 [(ii (rd v72 (tn v74)).a),(ii (rd v72 (tn v74)).b),(ii v1),(ii (rd v72 (tn v74)).c),(ii (rd v72 (tn v74)).d),(ii v2)])) nn)) (ww o1 (ww o0 (tt k0 nn))))))))))) (fun k0=>(sl Vk 22 [] ⟨[1,2,3,4,0,5,6,7,8,10],[],u8m,u8o⟩ ⟨[],[],[]⟩ (bl 2 0) (pp (fl aH (fl aD nn)) (tt k0 nn)))))
 | .h5 v2 v8 bU bG aT aD bB bC bS bF bM aB=>(lb (fun k0=>(lo fun o0=>(lo fun o1=>(sl Vk 34 [] ⟨(List.range 11),[],sckN5,sckM5⟩ ⟨[],[.cells [.len (y8a aD v8 v2).length,.keep,.keep,.keep],.rowed 6 (y8a aD v8 v2).length (Zz (y8a aD v8 v2)),.keep,.keep,.keep,.keep,.keep,.keep,.keep,.keep,.keep],[]⟩ [true] (pp (xL aD.length (y8a aD v8 v2).length) (pp (xL aD.length (y8a aD v8 v2).length) (pp (xS aD.length (Xo (Zz aD) (0+(tn v8)) 5 [(ii v2)]) (Zz (y8a aD v8 v2))) (pp (pp (xF (Xo (Zz aD) (0+(tn v8)) 5 [(ii v2)])) (fl bM nn)) (ww o1 (ww o0 (tt k0 nn))))))))))) (fun k0=>(sl Vk 36 [] ⟨[2,3,4,5,0,6,7,8,9,1],[],u8m,u8o⟩ ⟨[],[],[]⟩ (bl 2 0) (pp (fl bM (fl aD nn)) (tt k0 nn)))))
theorem x6p (l0:List R6):Yt prog (Zy prog 51) (sckC l0) (Za prog 51 [(.dat l0.length (Zz l0))] true []) (y2g l0):=(lb (fun k0=>(lr 25 51 [1,0,1,0,0] 1 3 [(2,(ii 4))] (sl Vk 16 [] ⟨[],[],[some [2]],[]⟩ ⟨[],[],[]⟩ [true] (tt k0 nn)))) (fun k0=>(sl Vk 40 [] ⟨[],[],sckN0,sckM0⟩ ⟨[],[],[]⟩ [false] (tt k0 nn))))
theorem v7c (l0:List R6) (n:Nat) (vs:List AVal) (h:Zs (Xj l0) n (y2g l0)=.ret vs):Jy prog (Zy prog 51) (Za prog 51 [(.dat l0.length (Zz l0))] true []) vs:=by have:=Zd (w5a l0) n _ (x6p l0);rwa [h] at this
theorem x7s (l:List R4):(Zc l).length ≤400:=by
 unfold Zc;by_cases h:400<l.length
 ·rw [Ah h];exact AA _
 ·rw [Ay h];cases l.all Vo
  ·exact AA _
  ·show (bif decide (((D4.out l).length :Int)>400) then [] else D4.out l).length ≤400;by_cases h2:((D4.out l).length :Int)>400
   ·rw [Ah h2];exact AA _
   ·rw [Ay h2];show (D4.out l).length ≤400;omega
def D6 :Dim R6 R4:=⟨R6.c,R6.f,fun r=>⟨r.a,r.b,r.d,r.e⟩,fun x x' s=>⟨s.a,s.b,x,s.c,s.d,x'⟩,fun x r=>⟨r.a,r.b,r.c,r.d,r.e,x⟩,Zc,Ur⟩
theorem u7j (l:List R6) (x:Int):(D6.sec l x).length ≤1000:=AL (x7s _) (by omega)
def sckErr :List AVal:=[.int .i64 8]
def x2w (l out:List R6):List AVal:=bif decide ((out.length:Int)>400) then [.int .i64 8] else bif Kb out l then [.int .i64 0] else [.int .i64 8]
def j4t (l:List R6) (x:Int):Bool:=Xn (D6.inn l x) != 0
def okF (l:List R6):Nat→Nat→Bool
 | 0,_=>true
 | k+1,i=>bif j4t l (rd (D6.cuts l) i) then false else okF l k (i+1)
section
variable (l:List R6) (hl:l.length≤400)
include hl
theorem u3b (i:Nat) (out:List R6) (last:List R4) (first fin x x':Int): ∀(k j:Nat) (acc:List R4),j+k=l.length→acc.length≤j→
  ∃n,∀N,Zs (Xj l) (N+n) (.to (.h3 (i:Int) (j:Int) out last first fin ((D6.cuts l).length) (Wc (Xc (D6.ends l))) x x' acc))=Zs (Xj l) N (.to (.h3 (i:Int) (l.length:Int) out last first fin ((D6.cuts l).length) (Wc (Xc (D6.ends l))) x x' (acc++D6.inn (l.drop j) x)))
 | 0,j,acc,h,ha=>by refine ⟨0,fun N=> ?_⟩;rw [At (by omega),show D6.inn ([]:List R6) x=[] from rfl,Az,A5,show j=l.length by omega]
 | k+1,j,acc,h,ha=>by
  have hj:j<l.length:=by omega
  obtain ⟨n,hn⟩:=u3b i out last first fin x x' k (j+1) (acc++D6.inn [rd l j] x) (by omega) (by have:=D6.inn_length [rd l j] x;simp only [Ar,Bl] at*;omega)
  refine ⟨n+1,fun N=> ?_⟩;have e:D6.inn (l.drop j) x=D6.inn [rd l j] x++D6.inn (l.drop (j+1)) x:=by rw [Yj hj,←D6.inn_append];rfl
  rw [e,←AD,Zv,←AH,←hn N];by_cases h1:D6.lo (rd l j)≤x
  ·by_cases h2:x<D6.hi (rd l j)
   ·rw [D6.inn_t _ _ h1 h2];simp only [D6] at h1 h2 ⊢;simp (disch:=omega) only [Xj,Wz,Zg,Zq,Zn,Zo,Yc,Yk,Yp,Zf,Zk,Zx,Ym,Zj,Ag,Av,Ai,Al,Ab,Aa]
   ·rw [D6.inn_f2 _ _ h2,Az];simp only [D6] at h1 h2;simp (disch:=omega) only [Xj,Wz,Yz,Zg,Zq,Zn,Zo,Yc,Yk,Yp,Zf,Zk,Zx,Ym,Zj,Ag,Av,Ai,Al,Ab,Aa]
  ·rw [D6.inn_f1 _ _ h1,Az];simp only [D6] at h1;simp (disch:=omega) only [Xj,w0e,Zg,Zq,Zn,Zo,Yc,Yk,Yp,Zf,Zk,Zx,Ym,Zj,Ag,Av,Ai,Al,Ab,Aa]
theorem u3a (i:Nat) (hi:i≤1000) (x x':Int) (s last:List R4) (first:Int) (inn:List R4) (hs:s.length≤1000): ∀(k j:Nat) (out:List R6),j+k=s.length→out.length≤10000000+j→
  ∃n,∀N,Zs (Xj l) (N+n) (.to (.h4 x x' s (s.length:Int) (j:Int) s (i:Int) out last first ((D6.cuts l).length) (Wc (Xc (D6.ends l))) inn))=Zs (Xj l) N (.to (.h2 ((i+1:Nat):Int) (out++(s.drop j).map (D6.put x x')) last first x' ((D6.cuts l).length) (Wc (Xc (D6.ends l)))))
 | 0,j,out,h,ho=>by have _u:=hl;refine ⟨1,fun N=> ?_⟩;rw [At (by omega),Zv];simp (disch:=omega) only [Xj,Yz,Zk,Zx,Aa,Bb,Az]
 | k+1,j,out,h,ho=>by
  obtain ⟨n,hn⟩:=u3a i hi x x' s last first inn hs k (j+1) (out++[D6.put x x' (rd s j)]) (by omega) (by simp;omega)
  refine ⟨n+1,fun N=> ?_⟩;have:=hn N;rw [Yj (show j<s.length by omega),A4,←AD,Zv];simp (disch:=omega) only [Xj,Zg,Zq,Zn,Zo,Yc,Yk,Yp,Zf,Zk,Zx,Ym,Zj,Ag,Av,Ai,Al,Ab,Aa];rw [AH] at this;exact this
theorem u2z (i:Nat) (hi:i≤1000) (x x' fin:Int) (s last:List R4) (first:Int) (inn:List R4): ∀(k j:Nat) (out:List R6),j+k=out.length→out.length≤10000000→
  ∃n,∀N,Zs (Xj l) (N+n) (.to (.h5 x' (j:Int) x s (i:Int) out last first fin ((D6.cuts l).length) (Wc (Xc (D6.ends l))) inn))=Zs (Xj l) N (.to (.h2 ((i+1:Nat):Int) (D6.grow out j x') last first x' ((D6.cuts l).length) (Wc (Xc (D6.ends l)))))
 | 0,j,out,h,ho=>by have _u:=hl;refine ⟨1,fun N=> ?_⟩;rw [D6.grow_nil _ _ _ (by omega),Zv];simp (disch:=omega) only [Xj,Yz,Zk,Zx,Aa]
 | k+1,j,out,h,ho=>by
  obtain ⟨n,hn⟩:=u2z i hi x x' fin s last first inn k (j+1) (out.set j (D6.ext x' (rd out j))) (by simp;omega) (by simpa using ho)
  refine ⟨n+1,fun N=> ?_⟩;have:=hn N;rw [D6.grow_set out j _ (by omega)] at this;rw [←AD,Zv];simp (disch:=omega) only [Xj,Zg,Zq,Zn,Zo,Yc,Yk,Yp,Zf,Zk,Zx,Ym,Zj,Ag,Av,Ai,Al,Ab,Aa];exact this
theorem v0e : ∀(k i:Nat) (s:Sw R6 R4),k=(D6.cuts l).length - 1 - i→i≤(D6.cuts l).length →s.out.length≤i*1000→s.last.length≤1000→s.first≤s.out.length→
  ∃n,Zs (Xj l) n (.to (.h2 ((i+1:Nat):Int) s.out s.last (s.first:Int) s.fin ((D6.cuts l).length) (Wc (Xc (D6.ends l)))))=.ret ((bif okF l k i then x2w l (D6.go l k i s).out else sckErr))
 | 0,i,s,h,hi,ho,hla,hf=>by
  have hc:=D6.cuts_length l;refine ⟨1,?_⟩;rw [Zv,show D6.go l 0 i s=s from rfl,show okF l 0 i=true from rfl,Ab];unfold x2w;by_cases q:(s.out.length:Int)>400
  ·simp (disch:=omega) only [Xj,Yz,Yn,Ab,Aa,Zp]
  ·have e:lst R6 s.out.length (fun k=>(Zz s.out) k)=s.out:=Zq s.out;have w:Vp s.out l=true:=Ah (by omega);have f:z0k (Zz s.out)=true:=Xp _;rcases Yd (Kb s.out l) with q2 | q2 <;>
   simp (disch:=omega) only [Xj,Zg,e,w,f,q2,Yz,Xm,Yc,Ym,Ag,AG,AK,Ai,Ab,Aa,Zp]
 | k +1,i,s,h,hi,ho,hla,hf=>by
  have hc:=D6.cuts_length l;have hi1:i+1<(D6.cuts l).length :=by omega
  have hpl:(Wc (Xc (D6.ends l))).length =2*l.length:=by rw [Uq,Vq,D6.ends_length]
  have r0:rd (Wc (Xc (D6.ends l))) i=rd (D6.cuts l) i:=z4k _ _ (by show i<(D6.cuts l).length;omega);have r1:rd (Wc (Xc (D6.ends l))) (i+1)=rd (D6.cuts l) (i+1):=z4k _ _ (by show i+1<(D6.cuts l).length;omega);have hbig:i*1000≤1000*1000:=AJ _ (by omega);have hsl:=u7j l (rd (D6.cuts l) i);have hsd:D6.sec l (rd (D6.cuts l) i)=Zc (D6.inn l (rd (D6.cuts l) i)):=rfl;obtain ⟨n3,h3⟩:=u3b l hl (i+1) s.out s.last (s.first:Int) s.fin (rd (D6.cuts l) i) (rd (D6.cuts l) (i+1)) l.length 0 [] (Ag _) (Ao _);simp only [A3,Bf,Qo] at h3;have w1:Uj (D6.inn l (rd (D6.cuts l) i))=true:=rfl;have w2:Wg s.last (Zc (D6.inn l (rd (D6.cuts l) i)))=true:=Ah (by omega);have ol:=D6.one_length l (rd (D6.cuts l) i) (rd (D6.cuts l) (i+1)) s;have st0: ∀N,Zs (Xj l) (N+n3+1) (.to (.h2 ((i+1:Nat):Int) s.out s.last (s.first:Int) s.fin ((D6.cuts l).length) (Wc (Xc (D6.ends l)))))=Zs (Xj l) N (.to (.h3 ((i+1:Nat):Int) (l.length:Int) s.out s.last (s.first:Int) s.fin ((D6.cuts l).length) (Wc (Xc (D6.ends l))) (rd (D6.cuts l) i) (rd (D6.cuts l) (i+1)) (D6.inn l (rd (D6.cuts l) i)))):=fun N=>by
   rw [←h3 N,Zv];have e1:wrap .i64 (((i+1:Nat):Int) - 1)=(i:Int):=by rw [Zt];exact Zk (by omega)
   simp (disch:=omega) only [Xj,e1,r0,r1,Zg,Zq,Zn,Zo,Yc,Yk,Yp,Zf,Zk,Zx,Ym,Zj,Ag,Av,Ai,Al,Ab,Aa]
  rcases Yd (j4t l (rd (D6.cuts l) i)) with q0 | q0
  ·refine ⟨1+n3+1,?_⟩;rw [st0 1,Zv];simp only [okF,q0,Ab,Aa];have q0':(Xn (D6.inn l (rd (D6.cuts l) i)) != 0)=true:=q0;simp (disch:=omega) only [Xj,Zg,Zq,Yz,q0',w1,Ab,Aa,Zp];rfl
  have q0':(Xn (D6.inn l (rd (D6.cuts l) i)) != 0)=false:=q0;rcases Yd (decide (0<(D6.sec l (rd (D6.cuts l) i)).length)&&((s.fin == rd (D6.cuts l) i)&&D6.same s.last (D6.sec l (rd (D6.cuts l) i)))) with q | q
  ·obtain ⟨n5,h5⟩:=u2z l hl (i+1) (by omega) (rd (D6.cuts l) i) (rd (D6.cuts l) (i+1)) s.fin (D6.sec l (rd (D6.cuts l) i)) s.last (s.first:Int) (D6.inn l (rd (D6.cuts l) i)) (s.out.length - s.first) s.first s.out (by omega) (by omega)
   have e:D6.one l (rd (D6.cuts l) i) (rd (D6.cuts l) (i+1)) s=⟨D6.grow s.out s.first (rd (D6.cuts l) (i+1)),s.last,s.first,rd (D6.cuts l) (i+1)⟩:=by unfold Dim.one;rw [q];rfl
   obtain ⟨n0,h0⟩:=v0e k (i+1) (D6.one l (rd (D6.cuts l) i) (rd (D6.cuts l) (i+1)) s) (by omega) (by omega) (by omega) (by rw [e];exact hla) (by rw [e];simpa [Dim.grow_length] using hf);refine ⟨n0+n5+1+n3+1,?_⟩;rw [st0 (n0+n5+1),Zv];simp only [Ac,As] at q;obtain ⟨q1,q2,q3⟩:=q;have q3':Ur s.last (Zc (D6.inn l (rd (D6.cuts l) i)))=true:=q3;rw [hsd] at q1;simp (disch:=omega) only [Xj,Zg,Zq,Yz,Yn,q0',q2,q3',w1,w2,Ab,Aa];rw [←hsd,h5 n0];simp only [okF,q0,Aa];simp only [Dim.go];rw [e] at h0 ⊢;exact h0
  ·obtain ⟨n4,h4⟩:=u3a l hl (i+1) (by omega) (rd (D6.cuts l) i) (rd (D6.cuts l) (i+1)) (D6.sec l (rd (D6.cuts l) i)) (D6.sec l (rd (D6.cuts l) i)) (s.out.length:Int) (D6.inn l (rd (D6.cuts l) i)) hsl (D6.sec l (rd (D6.cuts l) i)).length 0 s.out (Ag _) (by omega);simp only [A3,Qo] at h4;have e:D6.one l (rd (D6.cuts l) i) (rd (D6.cuts l) (i+1)) s=⟨s.out++(D6.sec l (rd (D6.cuts l) i)).map (D6.put (rd (D6.cuts l) i) (rd (D6.cuts l) (i+1))),D6.sec l (rd (D6.cuts l) i),s.out.length,rd (D6.cuts l) (i+1)⟩:=by unfold Dim.one;rw [q];rfl
   obtain ⟨n0,h0⟩:=v0e k (i+1) (D6.one l (rd (D6.cuts l) i) (rd (D6.cuts l) (i+1)) s) (by omega) (by omega) (by omega) (by rw [e];exact hsl) (by rw [e];simp);have hg:Zs (Xj l) 1 (.to (.h3 ((i+1:Nat):Int) (l.length:Int) s.out s.last (s.first:Int) s.fin ((D6.cuts l).length) (Wc (Xc (D6.ends l))) (rd (D6.cuts l) i) (rd (D6.cuts l) (i+1)) (D6.inn l (rd (D6.cuts l) i))))=.to (.h4 (rd (D6.cuts l) i) (rd (D6.cuts l) (i+1)) (D6.sec l (rd (D6.cuts l) i)) ((D6.sec l (rd (D6.cuts l) i)).length :Int) 0 (D6.sec l (rd (D6.cuts l) i)) ((i+1:Nat):Int) s.out (D6.sec l (rd (D6.cuts l) i)) (s.out.length:Int) ((D6.cuts l).length) (Wc (Xc (D6.ends l))) (D6.inn l (rd (D6.cuts l) i))):=by
    rw [show (1:Nat)=0+1 from rfl,Zv];rw [hsd] at q ⊢;have e3:D6.same s.last (Zc (D6.inn l (rd (D6.cuts l) i)))=Ur s.last (Zc (D6.inn l (rd (D6.cuts l) i))):=rfl;rw [e3] at q;by_cases q1:0<(Zc (D6.inn l (rd (D6.cuts l) i))).length
    ·rw [Ah q1,Al] at q;rcases Yd (s.fin == rd (D6.cuts l) i) with q2 | q2
     ·rw [q2,Al] at q;simp (disch:=omega) only [Xj,Zg,Zq,Yz,Yn,q0',q2,q,w1,w2,Ab,Aa];rfl
     ·simp (disch:=omega) only [Xj,Zg,Zq,Yz,Yn,q0',q2,w1,w2,Ab,Aa];rfl
    ·simp (disch:=omega) only [Xj,Zg,Zq,Yz,Xm,q0',w1,w2,Ab,Aa];rfl
   refine ⟨n0+n4+1+n3+1,?_⟩;rw [st0 (n0+n4+1),z8k _ (n0+n4) 1,hg,h4 n0];simp only [okF,q0,Aa];simp only [Dim.go];rw [e] at h0 ⊢;exact h0
theorem u3c : ∀(k i:Nat) (acc:List Int),i+k=l.length→acc=D6.ends (l.take i)→ ∃n,Zs (Xj l) n (.to (.h1 (i:Int) acc))=.ret ((bif okF l ((D6.cuts l).length - 1) 0 then x2w l (D6.go l ((D6.cuts l).length - 1) 0 ⟨[],[],0,0⟩).out else sckErr))
 | 0,i,acc,h,ha=>by
  have e:acc=D6.ends l:=by rw [ha,AP (by omega)]
  subst e;have hle:=D6.ends_length l;obtain ⟨n,hn⟩:=v0e l hl ((D6.cuts l).length - 1) 0 ⟨[],[],0,0⟩ (by omega) (AA _) (AA _) (AA _) (AA _);refine ⟨n+1,?_⟩;rw [Zv];simp (disch:=omega) only [Xj,Jd,z0f,y0f,Yz,Yk,Yp,Av,Ab,Aa];exact hn
 | k+1,i,acc,h,ha=>by
  have hle:=D6.ends_length (l.take i);have eW:acc.length≤2*i:=by rw [ha,hle];simp;omega
  obtain ⟨n,hn⟩:=u3c k (i+1) (acc++D6.ends [rd l i]) (by omega) (by
   rw [ha,A9];have:l[i]? =some (rd l i):=by rw [Yo (show i<l.length by omega)];exact Aq _
   rw [this,D6.ends_append];rfl)
  refine ⟨n+1,?_⟩;rw [Zv];simp (disch:=omega) only [Xj,Zg,Zq,Zn,Zo,Yc,Yk,Yp,Zf,Zk,Zx,Ym,Zj,Ag,Av,Ai,Al,Ab,Aa];exact hn
theorem u3d : ∀(k i:Nat),i+k=l.length→(∀s∈l.take i,z1i s=true)→ ∃n,Zs (Xj l) n (.to (.h0 (i:Int)))=.ret (bif l.all z1i then (bif okF l ((D6.cuts l).length - 1) 0 then x2w l (D6.go l ((D6.cuts l).length - 1) 0 ⟨[],[],0,0⟩).out else sckErr) else sckErr)
 | 0,i,h,ht=>by have hv:l.all z1i=true:=Au.2 fun s hs=>ht s (by rw [AP (by omega)];exact hs);obtain ⟨n,hn⟩:=u3c l hl l.length 0 [] (Ag _) rfl;refine ⟨n+1,?_⟩;rw [Zv,hv,Ab];simp (disch:=omega) only [Xj,Yz,Aa];exact hn
 | k+1,i,h,ht=>by
  have hi:i<l.length:=by omega
  have hs:Xj l (.h0 (i:Int))=bif z1i (rd l i) then .to (.h0 ((i+1:Nat):Int)) else .ret sckErr:=by have e:u7m (rd l i).a (rd l i).b (rd l i).c (rd l i).d (rd l i).e (rd l i).f =z1i (rd l i):=rfl;simp (disch:=omega) only [Xj,e,z6z,x4s,x4t,Zo,Zk,Zx,Zj,Ai,Ab,Aa];rfl
  rcases Yd (z1i (rd l i)) with q | q
  ·obtain ⟨n,hn⟩:=u3d k (i+1) (by omega) (fun s hs=>by
    rw [A9] at hs;have e:l[i]? =some (rd l i):=by rw [Yo hi];exact Aq _
    rw [e] at hs;simp only [Cb,AF,AT] at hs;rcases hs with hs | rfl
    ·exact ht s hs
    ·exact q)
   refine ⟨n+1,?_⟩;rw [Zv,hs,q,Ab];exact hn
  ·have hv:l.all z1i=false:=A8.2 fun e=>by have:=Au.1 e (rd l i) (by rw [Yo hi];exact AR hi);rw [this] at q;cases q
   refine ⟨1,?_⟩;rw [Zv,hv,Aa,hs,q,Aa,Zp]
end
def Vw (l:List R6):Int:=bif decide (400<l.length) then 4 else bif l.all z1i then (bif okF l ((D6.cuts l).length - 1) 0 then (bif decide (((D6.out l).length :Int)>400) then 8 else bif Kb (D6.out l) l then 0 else 8) else 8) else 8
def v0h (l:List R6):Bool:=true
theorem u8l (l:List R6): ∃n,Zs (Xj l) n (y2g l)=.ret [.int .i64 (Vw l)]:=by
 unfold y2g Vw;by_cases h:400<l.length
 ·refine ⟨0,?_⟩;rw [Ah h,Yn (show (l.length:Int)>400 by omega)];rfl
 ·obtain ⟨n,hn⟩:=u3d l (by omega) l.length 0 (Ag _) (fun s hs=>by simp at hs);refine ⟨n,?_⟩;rw [Ay h,Xm (show¬(l.length:Int)>400 by omega),Aa,Aa];rw [Qo] at hn;rw [hn];unfold sckErr x2w;cases l.all z1i <;> simp only [Ab,Aa];cases okF l ((D6.cuts l).length - 1) 0 <;> simp only [Ab,Aa];show Xv.ret (bif decide (((D6.out l).length :Int)>400) then _ else bif Kb (D6.out l) l then _ else _)=_;cases decide (((D6.out l).length :Int)>400) <;> simp only [Ab,Aa];cases Kb (D6.out l) l <;> rfl
def fSck :List AVal→Option (AVal×Bool)
 | [a1]=>match asL R6 a1 with
  | some (L1,g1,n1)=>some (.int .i64 (Vw L1),isT R6 n1 g1&&v0h L1)
  | _=>none
 | _=>none
theorem j2m {S:Specs} (hS:Zu prog S):Zu prog (S.with x3w fSck):=by
 refine z0l hS (by kernel_rfl) fun args v h=> ?_;unfold fSck at h;split at h
 ·rename_i a1;split at h
  ·rename_i L1 g1 n1 e1;simp only [Ae,Ad,Ac] at h;obtain ⟨rfl,ho1,hw⟩:=h;obtain ⟨N,hN⟩:=u8l L1;exact ⟨_,_,(.cons (asL_le e1 ho1) .nil),rfl,v7c L1 N _ hN,3,rfl⟩
  ·cases h
 ·cases h
def T8 :Specs:=T7v.with x3w fSck
theorem z0r :Zu prog T8:=j2m Vk
inductive rchkS where
 | h0 (v3:Int)
def j0l (l0:List R6):rchkS→Cfg
 | .h0 v3=>⟨⟨34,0,true⟩,none,(Zb prog 53 [1,1,0,1,0,0] 0),none,(Zy prog 3),⟨Yg [(0,(.dat l0.length (Zz l0))),(3,(ii v3))],Wh [] 0,0,[],true⟩,[],.leaf⟩
def u5f :List (Option (List Nat)):=[some [0,3]]
def u5g :List (Option (List Nat)):=[]
def z0y (l0:List R6):rchkS→Xv rchkS
 | .h0 v3=>(bif (decide (v3<(l0.length:Int))) then (bif ((decide (0≤v3∧v3<(l0.length:Int)))&&true) then (bif (decide ((rd l0 v3.toNat).a ≥(-1000000))) then (bif (decide ((rd l0 v3.toNat).b ≥(-1000000))) then (bif (decide ((rd l0 v3.toNat).c ≥(-1000000))) then (bif (decide ((rd l0 v3.toNat).a ≤1000000)) then (bif (decide ((rd l0 v3.toNat).b ≤1000000)) then (bif (decide ((rd l0 v3.toNat).c ≤1000000)) then (bif (decide ((rd l0 v3.toNat).d ≥(-1000000))) then (bif (decide ((rd l0 v3.toNat).e ≥(-1000000))) then (bif (decide ((rd l0 v3.toNat).f ≥(-1000000))) then (bif (decide ((rd l0 v3.toNat).d ≤1000000)) then (bif (decide ((rd l0 v3.toNat).e ≤1000000)) then (bif (decide ((rd l0 v3.toNat).f ≤1000000)) then (bif (decide ((rd l0 v3.toNat).a <(rd l0 v3.toNat).d)) then (bif (decide ((rd l0 v3.toNat).b <(rd l0 v3.toNat).e)) then (bif (!(decide ((rd l0 v3.toNat).c <(rd l0 v3.toNat).f))) then (.ret [(.int .i64 8)]) else (.to (.h0 (wrap .i64 (v3+1))))) else (.ret [(.int .i64 8)])) else (.ret [(.int .i64 8)])) else (.ret [(.int .i64 8)])) else (.ret [(.int .i64 8)])) else (.ret [(.int .i64 8)])) else (.ret [(.int .i64 8)])) else (.ret [(.int .i64 8)])) else (.ret [(.int .i64 8)])) else (.ret [(.int .i64 8)])) else (.ret [(.int .i64 8)])) else (.ret [(.int .i64 8)])) else (.ret [(.int .i64 8)])) else (.ret [(.int .i64 8)])) else (.ret [(.int .i64 8)])) else .stuck) else (bif (z3f 2 (cvT l0) ([]:List R6)) then (bif (!(z2f 2 (cvT l0) ([]:List R6))) then (.ret [(.int .i64 8)]) else (bif (Vp (cvT (Xe 2 (cvT l0) ([]:List R6))) (cvT l0)) then (bif (!(Kb (cvT (Xe 2 (cvT l0) ([]:List R6))) (cvT l0))) then (.ret [(.int .i64 8)]) else (.ret [(.int .i64 0)])) else .stuck)) else .stuck))
def z7y (l0:List R6):Xv rchkS:=(bif (decide ((l0.length:Int)>400)) then (.ret [(.int .i64 4)]) else (.to (.h0 0)))
theorem x7z (l0:List R6): ∀s,Yt prog (Zy prog 53) (j0l l0) (j0l l0 s) (z0y l0 s)
 | .h0 v3=>(lb (fun k0=>(lo fun aG=>(lb (fun k1=>(lb (fun k2=>(lb (fun k3=>(lb (fun k4=>(lb (fun k5=>(lb (fun k6=>(lb (fun k7=>(lb (fun k8=>(lb (fun k9=>(lb (fun k10=>(lb (fun k11=>(lb (fun k12=>(lb (fun k13=>(lb (fun k14=>(lb (fun k15=>(lr 34 53 [1,1,0,1,0,0,1,0,0,1,0,0] 1 3 [(2,(ii 8))] (sl z0r 158 [] ⟨[],[],[some [2]],[]⟩ ⟨[],[],[]⟩ (trs 60 []) (tt k15 (tt k14 (tt k13 (tt k12 (tt k11 (tt k10 (tt k9 (tt k8 (tt k7 (tt k6 (tt k5 (tt k4 (tt k3 (tt k2 (tt k1 (ww aG (tt k0 nn)))))))))))))))))))) (fun k15=>(sl z0r 162 [] ⟨[],[],u5f,u5g⟩ ⟨[],[],[]⟩ (trs 59 [false]) (tt k15 (tt k14 (tt k13 (tt k12 (tt k11 (tt k10 (tt k9 (tt k8 (tt k7 (tt k6 (tt k5 (tt k4 (tt k3 (tt k2 (tt k1 (ww aG (tt k0 nn))))))))))))))))))))) (fun k14=>(lr 34 53 [1,1,0,1,0,0,1,0,0,1,0,0] 1 3 [(2,(ii 8))] (sl z0r 158 [] ⟨[],[],[some [2]],[]⟩ ⟨[],[],[]⟩ (trs 52 (bl 8 128)) (tt k14 (tt k13 (tt k12 (tt k11 (tt k10 (tt k9 (tt k8 (tt k7 (tt k6 (tt k5 (tt k4 (tt k3 (tt k2 (tt k1 (ww aG (tt k0 nn))))))))))))))))))))) (fun k13=>(lr 34 53 [1,1,0,1,0,0,1,0,0,1,0,0] 1 3 [(2,(ii 8))] (sl z0r 158 [] ⟨[],[],[some [2]],[]⟩ ⟨[],[],[]⟩ (trs 45 (bl 15 16384)) (tt k13 (tt k12 (tt k11 (tt k10 (tt k9 (tt k8 (tt k7 (tt k6 (tt k5 (tt k4 (tt k3 (tt k2 (tt k1 (ww aG (tt k0 nn)))))))))))))))))))) (fun k12=>(lr 34 53 [1,1,0,1,0,0,1,0,0,1,0,0] 1 3 [(2,(ii 8))] (sl z0r 158 [] ⟨[],[],[some [2]],[]⟩ ⟨[],[],[]⟩ (trs 38 (bl 22 2097152)) (tt k12 (tt k11 (tt k10 (tt k9 (tt k8 (tt k7 (tt k6 (tt k5 (tt k4 (tt k3 (tt k2 (tt k1 (ww aG (tt k0 nn))))))))))))))))))) (fun k11=>(lr 34 53 [1,1,0,1,0,0,1,0,0,1,0,0] 1 3 [(2,(ii 8))] (sl z0r 158 [] ⟨[],[],[some [2]],[]⟩ ⟨[],[],[]⟩ (trs 35 (bl 25 16777216)) (tt k11 (tt k10 (tt k9 (tt k8 (tt k7 (tt k6 (tt k5 (tt k4 (tt k3 (tt k2 (tt k1 (ww aG (tt k0 nn)))))))))))))))))) (fun k10=>(lr 34 53 [1,1,0,1,0,0,1,0,0,1,0,0] 1 3 [(2,(ii 8))] (sl z0r 158 [] ⟨[],[],[some [2]],[]⟩ ⟨[],[],[]⟩ (trs 32 (bl 28 134217728)) (tt k10 (tt k9 (tt k8 (tt k7 (tt k6 (tt k5 (tt k4 (tt k3 (tt k2 (tt k1 (ww aG (tt k0 nn))))))))))))))))) (fun k9=>(lr 34 53 [1,1,0,1,0,0,1,0,0,1,0,0] 1 3 [(2,(ii 8))] (sl z0r 158 [] ⟨[],[],[some [2]],[]⟩ ⟨[],[],[]⟩ (trs 29 (bl 31 1073741824)) (tt k9 (tt k8 (tt k7 (tt k6 (tt k5 (tt k4 (tt k3 (tt k2 (tt k1 (ww aG (tt k0 nn)))))))))))))))) (fun k8=>(lr 34 53 [1,1,0,1,0,0,1,0,0,1,0,0] 1 3 [(2,(ii 8))] (sl z0r 158 [] ⟨[],[],[some [2]],[]⟩ ⟨[],[],[]⟩ (trs 25 (bl 35 17179869184)) (tt k8 (tt k7 (tt k6 (tt k5 (tt k4 (tt k3 (tt k2 (tt k1 (ww aG (tt k0 nn))))))))))))))) (fun k7=>(lr 34 53 [1,1,0,1,0,0,1,0,0,1,0,0] 1 3 [(2,(ii 8))] (sl z0r 158 [] ⟨[],[],[some [2]],[]⟩ ⟨[],[],[]⟩ (trs 21 (bl 39 274877906944)) (tt k7 (tt k6 (tt k5 (tt k4 (tt k3 (tt k2 (tt k1 (ww aG (tt k0 nn)))))))))))))) (fun k6=>(lr 34 53 [1,1,0,1,0,0,1,0,0,1,0,0] 1 3 [(2,(ii 8))] (sl z0r 117 [] ⟨[],[],[some [2]],[]⟩ ⟨[],[],[]⟩ (trs 18 (bl 25 16777216)) (tt k6 (tt k5 (tt k4 (tt k3 (tt k2 (tt k1 (ww aG (tt k0 nn))))))))))))) (fun k5=>(lr 34 53 [1,1,0,1,0,0,1,0,0,1,0,0] 1 3 [(2,(ii 8))] (sl z0r 117 [] ⟨[],[],[some [2]],[]⟩ ⟨[],[],[]⟩ (trs 15 (bl 28 134217728)) (tt k5 (tt k4 (tt k3 (tt k2 (tt k1 (ww aG (tt k0 nn)))))))))))) (fun k4=>(lr 34 53 [1,1,0,1,0,0,1,0,0,1,0,0] 1 3 [(2,(ii 8))] (sl z0r 117 [] ⟨[],[],[some [2]],[]⟩ ⟨[],[],[]⟩ (trs 12 (bl 31 1073741824)) (tt k4 (tt k3 (tt k2 (tt k1 (ww aG (tt k0 nn))))))))))) (fun k3=>(lr 34 53 [1,1,0,1,0,0,1,0,0,1,0,0] 1 3 [(2,(ii 8))] (sl z0r 117 [] ⟨[],[],[some [2]],[]⟩ ⟨[],[],[]⟩ (trs 9 (bl 34 8589934592)) (tt k3 (tt k2 (tt k1 (ww aG (tt k0 nn)))))))))) (fun k2=>(lr 34 53 [1,1,0,1,0,0,1,0,0,1,0,0] 1 3 [(2,(ii 8))] (sl z0r 117 [] ⟨[],[],[some [2]],[]⟩ ⟨[],[],[]⟩ (trs 5 (bl 38 137438953472)) (tt k2 (tt k1 (ww aG (tt k0 nn))))))))) (fun k1=>(lr 34 53 [1,1,0,1,0,0,1,0,0,1,0,0] 1 3 [(2,(ii 8))] (sl z0r 117 [] ⟨[],[],[some [2]],[]⟩ ⟨[],[],[]⟩ (bl 43 4398046511105) (tt k1 (ww aG (tt k0 nn))))))))) (fun k0=>(lo fun aG=>(lb (fun k1=>(lr 34 53 [1,1,1,1,0,1,0,0] 1 3 [(2,(ii 8))] (sl z0r 37 [] ⟨[],[],[some [2]],[]⟩ ⟨[],[],[]⟩ (bl 6 62) (tt k1 (pp (pp (xr l0) (pp (xI R6 0 (fun _=>[])) (xw aG))) (tt k0 nn)))))) (fun k1=>(lo fun bW=>(lb (fun k2=>(lr 34 53 [1,1,1,1,0,1,0,0] 1 3 [(2,(ii 8))] (sl z0r 37 [] ⟨[],[],[some [2]],[]⟩ ⟨[],[],[]⟩ (bl 6 32) (tt k2 (pp (pp (xI R6 (Xe 2 (cvT l0) ([]:List R6)).length (Zz (Xe 2 (cvT l0) ([]:List R6)))) (pp (xr l0) (xw bW))) (tt k1 (pp (pp (xr l0) (pp (xI R6 0 (fun _=>[])) (xw aG))) (tt k0 nn)))))))) (fun k2=>(lr 34 3 [1,1,1,1,1,1,1,0] 1 3 [(2,(ii 0))] (sl z0r 38 [] ⟨[],[],[some [2]],[]⟩ ⟨[],[],[]⟩ (bl 6 0) (tt k2 (pp (pp (xI R6 (Xe 2 (cvT l0) ([]:List R6)).length (Zz (Xe 2 (cvT l0) ([]:List R6)))) (pp (xr l0) (xw bW))) (tt k1 (pp (pp (xr l0) (pp (xI R6 0 (fun _=>[])) (xw aG))) (tt k0 nn)))))))))))))))
theorem x3k (l0:List R6):Yt prog (Zy prog 53) (j0l l0) (Za prog 53 [(.dat l0.length (Zz l0))] true []) (z7y l0):=(lb (fun k0=>(lr 34 53 [1,0,1,0,0] 1 3 [(2,(ii 4))] (sl z0r 16 [] ⟨[],[],[some [2]],[]⟩ ⟨[],[],[]⟩ [true] (tt k0 nn)))) (fun k0=>(sl z0r 20 [] ⟨[],[],u5f,u5g⟩ ⟨[],[],[]⟩ [false] (tt k0 nn))))
theorem v1t (l0:List R6) (n:Nat) (vs:List AVal) (h:Zs (z0y l0) n (z7y l0)=.ret vs):Jy prog (Zy prog 53) (Za prog 53 [(.dat l0.length (Zz l0))] true []) vs:=by have:=Zd (x7z l0) n _ (x3k l0);rwa [h] at this
def w4i (r:R6):Bool:=decide (r.a≥ -1000000)&&(decide (r.b≥ -1000000)&&(decide (r.c≥ -1000000)&&(decide (r.a≤1000000)&&(decide (r.b≤1000000)&&(decide (r.c≤1000000)&&(decide (r.d≥ -1000000)&&(decide (r.e≥ -1000000)&&(decide (r.f≥ -1000000)&&(decide (r.d≤1000000)&&(decide (r.e≤1000000)&&(decide (r.f≤1000000)&&(decide (r.a<r.d)&&(decide (r.b<r.e)&&decide (r.c<r.f))))))))))))))
def rckF (l:List R6):Int:=bif z2f 2 l [] then (bif Kb (Xe 2 l []) l then 0 else 8) else 8
def y8m (l:List R6):Int:=bif decide (400<l.length) then 4 else bif l.all w4i then rckF l else 8
def v1r (l:List R6):Bool:=true
theorem w7e (k:Int) (l m:List R6):(Xe k l m).length ≤400∨z2f k l m=false:=by
 unfold Xe z2f;cases jsO k l m with
 | none=>exact .inl (AA _)
 | some out=>
  by_cases h:(out.length:Int)≤400
  ·left;show out.length≤400;omega
  ·right;exact Ay h
section
variable (l:List R6) (hl:l.length≤400)
include hl
theorem v1s : ∀(k i:Nat),i+k=l.length→(∀s∈l.take i,w4i s=true)→ ∃n,Zs (z0y l) n (.to (.h0 (i:Int)))=.ret [.int .i64 (bif l.all w4i then rckF l else 8)]
 | 0,i,h,ht=>by
  have hv:l.all w4i=true:=Au.2 fun s hs=>ht s (by rw [AP (by omega)];exact hs);have w1:z3f 2 l []=true:=jsV_ow (by omega) (by simp);refine ⟨1,?_⟩;rw [Zv,hv,Ab];unfold rckF;rcases Yd (z2f 2 l []) with q | q
  ·have w2:Vp (Xe 2 l []) l=true:=Ah (by
    rcases w7e 2 l [] with h | h
    ·omega
    ·rw [h] at q;cases q)
   rcases Yd (Kb (Xe 2 l []) l) with q2 | q2 <;>
   simp (disch:=omega) only [z0y,Zg,Yz,q,q2,w1,w2,AG,AK,Ab,Aa,Zp]
  ·simp (disch:=omega) only [z0y,Zg,Yz,q,w1,AG,AK,Ab,Aa,Zp]
 | k+1,i,h,ht=>by
  have hi:i<l.length:=by omega
  have hs:z0y l (.h0 (i:Int))=bif w4i (rd l i) then .to (.h0 ((i+1:Nat):Int)) else .ret [.int .i64 8]:=by simp (disch:=omega) only [z0y,w4i,y0h,z6z,x4s,Zo,Zk,Zx,Zj,Ai,Ab,Aa]
  rcases Yd (w4i (rd l i)) with q | q
  ·obtain ⟨n,hn⟩:=v1s k (i+1) (by omega) (fun s hs=>by
    rw [A9] at hs;have e:l[i]? =some (rd l i):=by rw [Yo hi];exact Aq _
    rw [e] at hs;simp only [Cb,AF,AT] at hs;rcases hs with hs | rfl
    ·exact ht s hs
    ·exact q)
   refine ⟨n+1,?_⟩;rw [Zv,hs,q,Ab];exact hn
  ·have hv:l.all w4i=false:=A8.2 fun e=>by have:=Au.1 e (rd l i) (by rw [Yo hi];exact AR hi);rw [this] at q;cases q
   refine ⟨1,?_⟩;rw [Zv,hv,Aa,hs,q,Aa,Zp]
end
theorem v8w (l:List R6): ∃n,Zs (z0y l) n (z7y l)=.ret [.int .i64 (y8m l)]:=by
 unfold z7y y8m;by_cases h:400<l.length
 ·refine ⟨0,?_⟩;rw [Ah h,Yn (show (l.length:Int)>400 by omega)];rfl
 ·obtain ⟨n,hn⟩:=v1s l (by omega) l.length 0 (Ag _) (fun s hs=>by simp at hs);refine ⟨n,?_⟩;rw [Ay h,Xm (show¬(l.length:Int)>400 by omega),Aa,Aa];exact hn
def fRck :List AVal→Option (AVal×Bool)
 | [a1]=>match asL R6 a1 with
  | some (L1,g1,n1)=>some (.int .i64 (y8m L1),isT R6 n1 g1&&v1r L1)
  | _=>none
 | _=>none
theorem j2z {S:Specs} (hS:Zu prog S):Zu prog (S.with v2j fRck):=by
 refine z0l hS (by kernel_rfl) fun args v h=> ?_;unfold fRck at h;split at h
 ·rename_i a1;split at h
  ·rename_i L1 g1 n1 e1;simp only [Ae,Ad,Ac] at h;obtain ⟨rfl,ho1,hw⟩:=h;obtain ⟨N,hN⟩:=v8w L1;exact ⟨_,_,(.cons (asL_le e1 ho1) .nil),rfl,v1t L1 N _ hN,3,rfl⟩
  ·cases h
 ·cases h
def T9 :Specs:=T8.with v2j fRck
theorem z5q :Zu prog T9:=j2z z0r
def pt (L:List R2) (y:Int):Prop:= ∃s∈L,s.a≤y∧y<s.b
structure Can (L:List R2):Prop where
 pos: ∀s∈L,s.a<s.b
 sep:L.Pairwise fun s t=>s.b<t.a
theorem Can.nil :Can []:=⟨by simp,.nil⟩
theorem Can.tail {s:R2} {L:List R2} (h:Can (s::L)):Can L:=⟨fun t ht=>h.pos t (List.mem_cons_of_mem _ ht),(AV.1 h.sep).2⟩
theorem Can.head {s:R2} {L:List R2} (h:Can (s::L)): ∀t∈L,s.b<t.a:=(AV.1 h.sep).1
theorem u6z {s:R2} {L:List R2} (h:Can (s::L)) {y:Int} (hy:pt (s::L) y):s.a≤y:=by
 obtain ⟨t,ht,h1,h2⟩:=hy;rcases AE.1 ht with rfl | ht
 ·exact h1
 ·have:=h.head t ht;have:=h.pos s (by simp);omega
theorem v5j : ∀(L M:List R2),Can L→Can M→(∀y,pt L y↔pt M y)→L=M
 | [],[],_,_,_=>rfl
 | [],t::M,_,hM,h=>by have:=(h t.a).2 ⟨t,by simp,AU _,hM.pos t (by simp)⟩;obtain ⟨s,hs,_⟩:=this;cases hs
 | s::L,[],hL,_,h=>by have:=(h s.a).1 ⟨s,by simp,AU _,hL.pos s (by simp)⟩;obtain ⟨s,hs,_⟩:=this;cases hs
 | s::L,t::M,hL,hM,h=>by
  have p1:=hL.pos s (by simp);have p2:=hM.pos t (by simp);have a1:t.a≤s.a:=u6z hM ((h s.a).1 ⟨s,by simp,AU _,p1⟩);have a2:s.a≤t.a:=u6z hL ((h t.a).2 ⟨t,by simp,AU _,p2⟩);have b1: ¬s.b<t.b:=fun hb=>by
   obtain ⟨u,hu,h1,h2⟩:=(h s.b).2 ⟨t,by simp,by omega,hb⟩;rcases AE.1 hu with rfl | hu
   ·omega
   ·have:=hL.head u hu;omega
  have b2: ¬t.b<s.b:=fun hb=>by
   obtain ⟨u,hu,h1,h2⟩:=(h t.b).1 ⟨s,by simp,by omega,hb⟩;rcases AE.1 hu with rfl | hu
   ·omega
   ·have:=hM.head u hu;omega
  have e:s=t:=by
   obtain ⟨sa,sb⟩:=s;obtain ⟨ta,tb⟩:=t;simp only at a1 a2 b1 b2;have:sa=ta:=by omega
   have:sb=tb:=by omega
   subst_vars;rfl
  subst e
  congr 1
  refine v5j L M hL.tail hM.tail fun y=>⟨fun hy=> ?_,fun hy=> ?_⟩
  ·obtain ⟨u,hu,h1,h2⟩:=hy;have g:=hL.head u hu;obtain ⟨v,hv,h3,h4⟩:=(h y).1 ⟨u,by simp [hu],h1,h2⟩;rcases AE.1 hv with rfl | hv
   ·omega
   ·exact ⟨v,hv,h3,h4⟩
  ·obtain ⟨u,hu,h1,h2⟩:=hy;have g:=hM.head u hu;obtain ⟨v,hv,h3,h4⟩:=(h y).2 ⟨u,by simp [hu],h1,h2⟩;rcases AE.1 hv with rfl | hv
   ·omega
   ·exact ⟨v,hv,h3,h4⟩
def push (out:List R2) (x x':Int):List R2:=
 bif decide (0<out.length)&&((rd out (out.length - 1)).b == x) then out.set (out.length - 1) ⟨(rd out (out.length - 1)).a,x'⟩ else out++[⟨x,x'⟩]
theorem v1w (out:List R2) (s:R2) (x x':Int):push (out++[s]) x x'=bif s.b == x then out++[⟨s.a,x'⟩] else out++[s]++[⟨x,x'⟩]:=by
 have e:rd (out++[s]) ((out++[s]).length - 1)=s:=by rw [Uk (by simp)];simp [rd]
 unfold push;rw [e,Ah (by simp),Al];cases (s.b == x)
 ·rfl
 ·simp
theorem w2m {out:List R2} {x x':Int} (hc:Can out) (hb: ∀s∈out,s.b≤x) (hx:x<x'):
  Can (push out x x')∧(∀s∈push out x x',s.b≤x')∧ ∀y,pt (push out x x') y↔pt out y∨(x≤y∧y<x'):=by
 rcases List.eq_nil_or_concat out with rfl | ⟨L,s,rfl⟩
 ·refine ⟨⟨?_,?_⟩,?_,fun y=> ?_⟩
  ·intro s hs;simp [push] at hs;subst hs;exact hx
  ·simp [push]
  ·intro s hs;simp [push] at hs;subst hs;exact AU _
  ·simp [push,pt]
 ·rw [List.concat_eq_append] at*;rw [v1w];have hs:=hb s (by simp);have hp:=hc.pos s (by simp);have sep:=BZ.1 hc.sep;rcases Yd (s.b == x) with q | q
  ·rw [q,Ab];have q:s.b=x:=by simpa using q
   refine ⟨⟨?_,?_⟩,?_,fun y=> ?_⟩
   ·intro t ht;rcases AF.1 ht with ht | ht
    ·exact hc.pos t (by simp [ht])
    ·rw [AT.1 ht];show s.a<x';omega
   ·refine BZ.2 ⟨sep.1,List.pairwise_singleton _ _,fun t ht u hu=> ?_⟩;rw [AT.1 hu];exact sep.2.2 t ht s (by simp)
   ·intro t ht;rcases AF.1 ht with ht | ht
    ·have:=hb t (by simp [ht]);omega
    ·rw [AT.1 ht];exact AU _
   ·constructor
    ·rintro ⟨t,ht,h1,h2⟩;rcases AF.1 ht with ht | ht
     ·exact .inl ⟨t,by simp [ht],h1,h2⟩
     ·rw [AT.1 ht] at h1 h2;by_cases hy:y<s.b
      ·exact .inl ⟨s,by simp,h1,hy⟩
      ·exact .inr ⟨by omega,h2⟩
    ·rintro (⟨t,ht,h1,h2⟩ | ⟨h1,h2⟩)
     ·rcases AF.1 ht with ht | ht
      ·exact ⟨t,by simp [ht],h1,h2⟩
      ·rw [AT.1 ht] at h1 h2;exact ⟨⟨s.a,x'⟩,by simp,h1,by show y<x';omega⟩
     ·exact ⟨⟨s.a,x'⟩,by simp,by show s.a≤y;omega,h2⟩
  ·rw [q,Aa];have q:s.b≠x:=by simpa using q
   refine ⟨⟨?_,?_⟩,?_,fun y=> ?_⟩
   ·intro t ht;rcases AF.1 ht with ht | ht
    ·exact hc.pos t ht
    ·rw [AT.1 ht];exact hx
   ·refine BZ.2 ⟨hc.sep,List.pairwise_singleton _ _,fun t ht u hu=> ?_⟩;rw [AT.1 hu];show t.b<x;rcases AF.1 ht with h | h
    ·have h1:=sep.2.2 t h s (by simp);omega
    ·rw [AT.1 h];omega
   ·intro t ht;rcases AF.1 ht with ht | ht
    ·have:=hb t ht;omega
    ·rw [AT.1 ht];exact AU _
   ·constructor
    ·rintro ⟨t,ht,h1,h2⟩;rcases AF.1 ht with ht | ht
     ·exact .inl ⟨t,ht,h1,h2⟩
     ·rw [AT.1 ht] at h1 h2;exact .inr ⟨h1,h2⟩
    ·rintro (⟨t,ht,h1,h2⟩ | ⟨h1,h2⟩)
     ·exact ⟨t,AF.2 (.inl ht),h1,h2⟩
     ·exact ⟨⟨x,x'⟩,by simp,h1,h2⟩
theorem z3v {l:List Int} (h:l.Pairwise (· < ·)) {i j:Nat} (hij:i<j) (hj:j<l.length):rd l i<rd l j:=by rw [Yo (by omega),Yo hj];exact Bp.1 h i j (by omega) hj hij
theorem y3t (cuts:List Int) (ins:List Bool) (hc:cuts.Pairwise (· < ·)): ∀(k i:Nat) (out:List R2),i+k<cuts.length∨k=0→Can out→(∀s∈out,s.b≤rd cuts i)→
  Can (w8w cuts ins k i out)∧ ∀y,pt (w8w cuts ins k i out) y↔pt out y∨ ∃j,i≤j∧j<i+k∧rd ins j=true∧rd cuts j≤y∧y<rd cuts (j+1)
 | 0,i,out,h,ho,hb=>⟨ho,fun y=>⟨.inl,fun hy=>hy.elim id fun ⟨j,h1,h2,_⟩=>by omega⟩⟩
 | k +1,i,out,h,ho,hb=>by
  have hlt:rd cuts i<rd cuts (i+1):=z3v hc (Bz _) (by omega);obtain ⟨p1,p2,p3⟩:=w2m ho hb hlt;have e:w8w cuts ins (k+1) i out=w8w cuts ins k (i+1) (bif rd ins i then push out (rd cuts i) (rd cuts (i+1)) else out):=rfl;rw [e];rcases Yd (rd ins i) with q | q
  ·rw [q,Ab];obtain ⟨r1,r2⟩:=y3t cuts ins hc k (i+1) (push out (rd cuts i) (rd cuts (i+1))) (by omega) p1 p2;refine ⟨r1,fun y=> ?_⟩;rw [r2,p3];constructor
   ·rintro ((h | h) | ⟨j,h1,h2,h3⟩)
    ·exact .inl h
    ·exact .inr ⟨i,Ao _,by omega,q,h⟩
    ·exact .inr ⟨j,by omega,by omega,h3⟩
   ·rintro (h | ⟨j,h1,h2,h3⟩)
    ·exact .inl (.inl h)
    ·rcases A1 h1 with rfl | h1
     ·exact .inl (.inr h3.2)
     ·exact .inr ⟨j,h1,by omega,h3⟩
  ·rw [q,Aa];obtain ⟨r1,r2⟩:=y3t cuts ins hc k (i+1) out (by omega) ho (fun s hs=>by have:=hb s hs;omega);refine ⟨r1,fun y=> ?_⟩;rw [r2];constructor
   ·rintro (h | ⟨j,h1,h2,h3⟩)
    ·exact .inl h
    ·exact .inr ⟨j,by omega,by omega,h3⟩
   ·rintro (h | ⟨j,h1,h2,h3⟩)
    ·exact .inl h
    ·rcases A1 h1 with rfl | h1
     ·rw [q] at h3;cases h3.1
     ·exact .inr ⟨j,h1,by omega,h3⟩
theorem x1t {cuts:List Int}: ∀(k:Nat),k<cuts.length→ ∀y,rd cuts 0≤y→y<rd cuts k→ ∃j,j<k∧rd cuts j≤y∧y<rd cuts (j+1)
 | 0,_,y,h1,h2=>by omega
 | k+1,hk,y,h1,h2=>by
  by_cases h:rd cuts k≤y
  ·exact ⟨k,Bz _,h,h2⟩
  ·obtain ⟨j,h3,h4⟩:=x1t k (by omega) y h1 (by omega);exact ⟨j,by omega,h4⟩
theorem u1r (cuts:List Int) (hc:cuts.Pairwise (· < ·)) (P:Int→Bool) (S:List R2) (hS: ∀s∈S,s.a∈cuts∧s.b∈cuts) (hP: ∀y,P y=true↔pt S y):
  Can (z1q cuts (cuts.map P))∧ ∀y,pt (z1q cuts (cuts.map P)) y↔pt S y:=by
 obtain ⟨r1,r2⟩:=y3t cuts (cuts.map P) hc (cuts.length - 1) 0 [] (by omega) .nil (by simp);refine ⟨r1,fun y=> ?_⟩;unfold z1q;rw [r2];have hin: ∀x,x∈cuts→ ∃i,i<cuts.length∧rd cuts i=x:=fun x hx=>by obtain ⟨i,hi,h⟩:=AZ hx;exact ⟨i,hi,by rw [Yo hi];exact h⟩
 have hmap: ∀j,j<cuts.length→rd (cuts.map P) j=P (rd cuts j):=fun j hj=>by rw [Yo (by simpa using hj),Yo hj,B9]
 have le_of: ∀i j,i<cuts.length→j<cuts.length→i≤j→rd cuts i≤rd cuts j:=fun i j hi hj hij=>by
  rcases A1 hij with rfl | h
  ·exact AU _
  ·exact Cq (z3v hc h hj)
 constructor
 ·rintro (⟨s,hs,_⟩ | ⟨j,h1,h2,h3,h4,h5⟩)
  ·cases hs
  ·have hj:j+1<cuts.length:=by omega
   rw [hmap j (by omega)] at h3;obtain ⟨s,hs,a1,a2⟩:=(hP _).1 h3;obtain ⟨ca,cb⟩:=hS s hs;obtain ⟨m,hm,em⟩:=hin s.b cb;refine ⟨s,hs,by omega,?_⟩;have:j<m:=by
    rcases Bi j m with h | h
    ·exact h
    ·have:=le_of m j hm (by omega) h;omega
   have:=le_of (j+1) m hj hm this;omega
 ·rintro ⟨s,hs,a1,a2⟩;right;obtain ⟨ca,cb⟩:=hS s hs;obtain ⟨n,hn,en⟩:=hin s.a ca;obtain ⟨m,hm,em⟩:=hin s.b cb;have h0:=le_of 0 n (by omega) hn (AA _);obtain ⟨j,h1,h2,h3⟩:=x1t m hm y (by omega) (by omega);refine ⟨j,AA _,by omega,?_,h2,h3⟩;rw [hmap j (by omega),hP];refine ⟨s,hs,?_,?_⟩
  ·have:n≤j:=by
    rcases Bi j n with h | h
    ·have:=le_of (j+1) n (by omega) hn h;omega
    ·exact h
   have:=le_of n j hn (by omega) this;omega
  ·omega
def net (E:List R3) (y:Int):Int:=(E.map fun e=>if e.a≤y then e.c else 0).sum
theorem Qi (e:R3) (E:List R3) (y:Int):net (e::E) y=(if e.a≤y then e.c else 0)+net E y:=by simp [net]
theorem v9j {E F:List R3} (h:E.Perm F) (y:Int):net E y=net F y:=by
 induction h with
 | nil=>rfl
 | cons e _ ih=>rw [Qi,Qi,ih]
 | swap a b l=>simp only [Qi];omega
 | trans _ _ i1 i2=>rw [i1,i2]
theorem w2p (E:List R3) (y:Int) (h: ∀e∈E,y<e.a):net E y=0:=by
 induction E with
 | nil=>rfl
 | cons e E ih=>rw [Qi,Aw (by have:=h e (by simp);omega),ih fun f hf=>h f (by simp [hf])];rfl
theorem v5d (out:List R2) (last:Int) (inn:Bool) (x:Int):Vj out last inn x=bif inn&& !(last == x) then push out last x else out:=by
 unfold Vj push;cases inn
 ·rfl
 ·cases (last == x) <;> rfl
theorem y9r {out:List R2} {last x:Int} (inn:Bool) (hc:Can out) (hb: ∀s∈out,s.b≤last) (hx:last≤x):
  Can (Vj out last inn x)∧(∀s∈Vj out last inn x,s.b≤x)∧ ∀y,pt (Vj out last inn x) y↔pt out y∨(inn=true∧last≤y∧y<x):=by
 rw [v5d];rcases Yd (inn&& !(last == x)) with q | q
 ·rw [q,Ab];simp only [Ac,B0,beq_eq_false_iff_ne,ne_eq] at q;obtain ⟨p1,p2,p3⟩:=w2m hc hb (show last<x by omega);refine ⟨p1,p2,fun y=> ?_⟩;rw [p3];simp [q.1]
 ·rw [q,Aa];refine ⟨hc,fun s hs=>by have:=hb s hs;omega,fun y=>⟨.inl,fun h=>h.elim id fun ⟨h1,h2,h3⟩=> ?_⟩⟩;rw [h1,Al] at q;have:last=x:=by simpa using q
  omega
def Asc (E:List R3):Prop:=E.Pairwise fun e f=>e.a≤f.a
theorem w9i : ∀(E:List R3) (o last:Int) (out:List R2),Asc E→(∀e∈E,last≤e.a)→Can out→(∀s∈out,s.b≤last)→
  Can (swF E o last (decide (o>0)) out)∧ ∀y,pt (swF E o last (decide (o>0)) out) y↔pt out y∨(last≤y∧0<o+net E y∧ ∃e∈E,y<e.a)
 | [],o,last,out,_,_,hc,_=>⟨hc,fun y=>⟨.inl,fun h=>h.elim id fun ⟨_,_,e,he,_⟩=>by cases he⟩⟩
 | e ::r,o,last,out,hE,hl,hc,hb=>by
  have he:=hl e (by simp);have hr:=AV.1 hE;obtain ⟨p1,p2,p3⟩:=y9r (decide (o>0)) hc hb he;obtain ⟨q1,q2⟩:=w9i r (o+e.c) e.a (Vj out last (decide (o>0)) e.a) hr.2 hr.1 p1 p2;rw [y2c];refine ⟨q1,fun y=> ?_⟩;rw [q2,p3,Qi];constructor
  ·rintro ((h | ⟨h1,h2,h3⟩) | ⟨h1,h2,f,hf,h3⟩)
   ·exact .inl h
   ·right;have h1:=AC h1;refine ⟨h2,?_,e,by simp,h3⟩;rw [Aw (by omega),w2p r y fun f hf=>by have:=hr.1 f hf;omega];omega
   ·right;refine ⟨by omega,?_,f,by simp [hf],h3⟩;rw [AB h1];omega
  ·rintro (h | ⟨h1,h2,f,hf,h3⟩)
   ·exact .inl (.inl h)
   ·by_cases hy:e.a≤y
    ·right;rw [AB hy] at h2;refine ⟨hy,by omega,f,?_,h3⟩;rcases AE.1 hf with rfl | hf
     ·omega
     ·exact hf
    ·left;right;rw [Aw hy,w2p r y fun f hf=>by have:=hr.1 f hf;omega] at h2;exact ⟨Ah (by omega),h1,by omega⟩
theorem v9k (l:List R2) (hv: ∀s∈l,s.a<s.b) (y:Int):0≤net (Km l) y∧(0<net (Km l) y↔pt l y):=by
 induction l with
 | nil=>exact ⟨AU _,by simp [net,Km,pt]⟩
 | cons s l ih=>
  obtain ⟨i1,i2⟩:=ih fun t ht=>hv t (by simp [ht]);have hs:=hv s (by simp);have e:net (Km (s::l)) y=(if s.a≤y∧y<s.b then 1 else 0)+net (Km l) y:=by
   show net (⟨s.a,0,1⟩::⟨s.b,0,-1⟩::Km l) y=_;rw [Qi,Qi];show (if s.a≤y then (1:Int) else 0)+((if s.b≤y then (-1:Int) else 0)+net (Km l) y)=_;by_cases h1:s.a≤y
   ·by_cases h2:s.b≤y
    ·rw [AB h1,AB h2,Aw (show¬(s.a≤y∧y<s.b) by omega)];omega
    ·rw [AB h1,Aw h2,AB (show s.a≤y∧y<s.b by omega)];omega
   ·rw [Aw h1,Aw (show¬s.b≤y by omega),Aw (show¬(s.a≤y∧y<s.b) by omega)];omega
  rw [e];by_cases h:s.a≤y∧y<s.b
  ·rw [AB h];exact ⟨by omega,⟨fun _=>⟨s,by simp,h⟩,fun _=>by omega⟩⟩
  ·rw [Aw h];refine ⟨by omega,?_⟩;rw [Int.zero_add,i2];constructor
   ·rintro ⟨t,ht,h2⟩;exact ⟨t,by simp [ht],h2⟩
   ·rintro ⟨t,ht,h2⟩;rcases AE.1 ht with rfl | ht
    ·exact absurd h2 h
    ·exact ⟨t,ht,h2⟩
theorem y5s {l:List R2} {s:R2} (h:s∈l):(⟨s.b,0,-1⟩:R3)∈Km l∧(⟨s.a,0,1⟩:R3)∈Km l:=
 ⟨AN.2 ⟨s,h,by simp⟩,AN.2 ⟨s,h,by simp⟩⟩
theorem w1q (l:List R3) (h:y1q l=true):Asc (z0w l):=by refine Bp.2 fun i j hi hj hij=> ?_;have:=(Ks l h).2 i j hij hj;rwa [Yo hi,Yo hj] at this
theorem y3y (l:List R2) (hv:l.all z1o=true):Can (swV l)∧ ∀y,pt (swV l) y↔pt l y:=by
 have hb:y1q (Km l)=true:=Au.2 fun e he=>by obtain ⟨s,hs,h1⟩:=AN.1 he;have hv:=Au.1 hv s hs;simp only [z1o,Ac,As] at hv;simp only [AE,Bc,BX] at h1;rcases h1 with rfl | rfl <;> exact Ah (by simp only;omega)
 have hpos: ∀s∈l,s.a<s.b:=fun s hs=>by have:=Au.1 hv s hs;simp only [z1o,Ac,As] at this;exact this.1
 obtain ⟨hp,_⟩:=Ks (Km l) hb;have ha:=w1q (Km l) hb;have hn: ∀y,net (z0w (Km l)) y=net (Km l) y:=fun y=>v9j hp y;unfold swV;generalize z0w (Km l)=E at hp ha hn;cases E with
 | nil=>refine ⟨.nil,fun y=>⟨fun ⟨s,hs,_⟩=>(by cases hs),fun ⟨s,hs,_⟩=> ?_⟩⟩;have:=hp.mem_iff.2 (y5s hs).1;cases this
 | cons e r=>
  have hr:=AV.1 ha;rw [y2c,Int.zero_add];have e0:Vj [] 0 false e.a=[]:=rfl;rw [e0];obtain ⟨q1,q2⟩:=w9i r e.c e.a [] hr.2 hr.1 .nil (by simp);refine ⟨q1,fun y=> ?_⟩;rw [q2];obtain ⟨n1,n2⟩:=v9k l hpos y;rw [←n2,←hn,Qi];constructor
  ·rintro (⟨s,hs,_⟩ | ⟨h1,h2,_⟩)
   ·cases hs
   ·rw [AB h1];omega
  ·intro h;have hpt:=n2.1 (by rw [←hn,Qi];exact h);obtain ⟨s,hs,s1,s2⟩:=hpt;have m1:=hp.mem_iff.2 (y5s hs).1;have m2:=hp.mem_iff.2 (y5s hs).2;have hea:e.a≤y:=by
    rcases AE.1 m2 with h' | h'
    ·rw [←h'];exact s1
    ·have h'':e.a≤s.a:=hr.1 _ h';omega
   right;rw [AB hea] at h;refine ⟨hea,h,⟨s.b,0,-1⟩,?_,s2⟩;rcases AE.1 m1 with h' | h'
   ·have h'':e.a=s.b:=(by rw [←h']);omega
   ·exact h'
theorem x3q (out:List Int) (hs:out.Pairwise (· < ·)) (x:Int): ∀k,k≤out.length→x8h out x k≤k∧(∀i,x8h out x k≤i→i<k→x<rd out i)∧(0<x8h out x k→rd out (x8h out x k - 1)≤x)
 | 0,_=>⟨Ao _,fun i h1 h2=>by omega,fun h=>by simp [x8h] at h⟩
 | k+1,hk=>by
  unfold x8h;rcases Yd (decide (rd out k>x)) with q | q
  ·rw [q,Ab];obtain ⟨h1,h2,h3⟩:=x3q out hs x k (by omega);refine ⟨by omega,fun i a b=> ?_,h3⟩;rcases A1 (B8 b) with rfl | b
   ·exact AC q
   ·exact h2 i a b
  ·rw [q,Aa];exact ⟨Ao _,fun i a b=>by omega,fun _=>by have:=of_decide_eq_false q;simp only [Nat.add_sub_cancel];omega⟩
theorem v3k (out:List Int) (hs:out.Pairwise (· < ·)) (x:Int):(y5i out x).Pairwise (· < ·)∧ ∀y,y∈y5i out x↔y∈out∨y=x:=by
 obtain ⟨h1,h2,h3⟩:=x3q out hs x out.length (Ao _);unfold y5i;split
 ·rename_i h0;rw [h0] at h2;refine ⟨AV.2 ⟨fun y hy=> ?_,hs⟩,fun y=>by simp [or_comm]⟩;obtain ⟨i,hi,rfl⟩:=AZ hy;have:=h2 i (AA _) hi;rwa [Yo hi] at this
 ·rename_i k hk;rw [hk] at h1 h2 h3;have h3:rd out k≤x:=h3 (Nat.succ_pos _);have hkl:k<out.length:=by omega
  rcases Yd (rd out k == x) with q | q
  ·rw [q,Ab];have q:rd out k=x:=by simpa using q
   refine ⟨hs,fun y=>⟨.inl,fun h=>h.elim id fun e=> ?_⟩⟩;rw [e,←q,Yo hkl];exact AR hkl
  ·rw [q,Aa];have q:rd out k≠x:=by simpa using q
   refine ⟨?_,fun y=> ?_⟩
   ·have st:(out.take (k+1)).Pairwise (· < ·):=hs.sublist (List.take_sublist _ _);have sd:(out.drop (k+1)).Pairwise (· < ·):=hs.sublist (List.drop_sublist _ _);have ht: ∀y∈out.take (k+1),y<x:=fun y hy=>by
     obtain ⟨i,hi,rfl⟩:=AZ hy;have hi':i<k+1:=by simp at hi;omega
     rw [Bs];have:rd out i≤rd out k:=by
      rcases A1 (B8 hi') with rfl | h
      ·exact AU _
      ·exact Cq (z3v hs h hkl)
     rw [Yo (show i<out.length by omega)] at this;omega
    have hd: ∀y∈out.drop (k+1),x<y:=fun y hy=>by
     obtain ⟨i,hi,rfl⟩:=AZ hy;have hi':k+1+i<out.length:=by simp at hi;omega
     rw [List.getElem_drop,←Yo hi'];exact h2 _ (by omega) hi'
    refine BZ.2 ⟨st,AV.2 ⟨hd,sd⟩,fun a ha b hb=> ?_⟩;rcases AE.1 hb with rfl | hb
    ·exact ht a ha
    ·exact Int.lt_trans (ht a ha) (hd b hb)
   ·rw [AF,AE];constructor
    ·rintro (h | h | h)
     ·exact .inl (Ce h)
     ·exact .inr h
     ·exact .inl (List.mem_of_mem_drop h)
    ·rintro (h | h)
     ·rw [←List.take_append_drop (k+1) out,AF] at h;exact h.elim .inl fun h=>.inr (.inr h)
     ·exact .inr (.inl h)
theorem Ye (l:List Int):(Un l).Pairwise (· < ·)∧ ∀y,y∈Un l↔y∈l:=by
 have: ∀(l out:List Int),out.Pairwise (· < ·)→(l.foldl y5i out).Pairwise (· < ·)∧ ∀y,y∈l.foldl y5i out↔y∈out∨y∈l:=by
  intro l
  induction l with
  | nil=>intro out h;exact ⟨h,fun y=>by simp⟩
  | cons x l ih=>intro out h;obtain ⟨a,b⟩:=v3k out h x;obtain ⟨c,d⟩:=ih (y5i out x) a;refine ⟨c,fun y=> ?_⟩;show y∈l.foldl y5i (y5i out x)↔_;rw [d,b,AE,or_assoc]
 obtain ⟨a,b⟩:=this l [] .nil;exact ⟨a,fun y=>by rw [Un,b];simp⟩
theorem y1h : ∀(l m:List Int),l.Pairwise (· < ·)→m.Pairwise (· < ·)→(∀x,x∈l↔x∈m)→l=m
 | [],[],_,_,_=>rfl
 | [],b::m,_,_,h=>by have:=(h b).2 (by simp);cases this
 | a::l,[],_,_,h=>by have:=(h a).1 (by simp);cases this
 | a::l,b::m,hl,hm,h=>by
  obtain ⟨a1,a2⟩:=AV.1 hl;obtain ⟨b1,b2⟩:=AV.1 hm;have e:a=b:=by
   have x1:=(h a).1 (by simp);have x2:=(h b).2 (by simp);rcases AE.1 x1 with x1 | x1
   ·exact x1
   rcases AE.1 x2 with x2 | x2
   ·exact x2.symm
   have:=b1 a x1;have:=a1 b x2;omega
  subst e
  congr 1
  refine y1h l m a2 b2 fun x=>⟨fun hx=> ?_,fun hx=> ?_⟩
  ·rcases AE.1 ((h x).1 (by simp [hx])) with e | e
   ·have:=a1 x hx;omega
   ·exact e
  ·rcases AE.1 ((h x).2 (by simp [hx])) with e | e
   ·have:=b1 x hx;omega
   ·exact e
theorem y1j (zs:List Int) (hs:zs.Pairwise (· ≤ ·)): ∀m,m≤zs.length→(compactUpTo zs.toArray m).Pairwise (· < ·)∧ ∀x,x∈compactUpTo zs.toArray m↔x∈zs.take m
 | 0,_=>by simp [compactUpTo]
 | m +1,h=>by
  obtain ⟨h1,h2⟩:=y1j zs hs m (by omega);have hg: ∀j (hj:j<zs.length),zs.toArray[j]! =zs[j]:=fun j hj=>by simp [hj]
  have hle: ∀i j (hi:i<zs.length) (hj:j<zs.length),i<j→zs[i]≤zs[j]:=fun i j hi hj hij=>Bp.1 hs i j hi hj hij;have hm:m<zs.length:=by omega
  rw [compactUpTo_succ,hg m hm,List.take_succ_eq_append_getElem hm];by_cases hk:keeps zs.toArray m=true
  ·rw [AB hk];refine ⟨BZ.2 ⟨h1,List.pairwise_singleton _ _,fun x hx y hy=> ?_⟩,fun x=>by rw [AF,AF,h2 x]⟩;rw [AT.1 hy];obtain ⟨i,hi,rfl⟩:=AZ ((h2 x).1 hx);have hi':i<m:=by simp at hi;omega
   rw [Bs];simp only [keeps,As] at hk;rcases hk with hk | hk
   ·omega
   ·rw [hg m hm,hg (m - 1) (by omega)] at hk;have k1:zs[i]≤zs[m - 1]:=by
     rcases Bi i (m - 1) with q | q
     ·exact hle i (m - 1) _ _ q
     ·have e:i=m - 1:=(by omega);subst e;exact AU _
    have k2:=hle (m - 1) m (by omega) hm (by omega);omega
  ·rw [Aw hk,Az];refine ⟨h1,fun x=> ?_⟩;rw [h2 x,AF,AT];refine ⟨.inl,fun hx=>hx.elim id fun e=> ?_⟩;simp only [keeps,As,not_or,Decidable.not_not] at hk;rw [hg m hm,hg (m - 1) (by omega)] at hk;rw [e,hk.2];have:m - 1<(zs.take m).length :=by simp;omega
   have e2:(zs.take m)[m - 1]=zs[m - 1]:=Bs;rw [←e2];exact AR this
theorem srt_le (zs:List Int):(Xc zs).Pairwise (· ≤ ·):=by have:=List.pairwise_mergeSort (le:=fun x y:Int=>decide (x≤y)) (fun a b c h1 h2=>by simp at*;omega) (fun a b=>by simp;omega) zs;exact this.imp fun h=>by simpa using h
theorem u7v (zs:List Int) (x:Int):x∈Xc zs↔x∈zs:=List.mem_mergeSort
theorem Jv (zs:List Int):Kz zs=Un zs:=by obtain ⟨h1,h2⟩:=y1j (Xc zs) (srt_le zs) (Xc zs).length (Ao _);obtain ⟨s1,s2⟩:=Ye zs;refine y1h _ _ h1 s1 fun x=> ?_;rw [show Kz zs=compactUpTo (Xc zs).toArray (Xc zs).length from rfl,h2 x,List.take_length,u7v,s2]
namespace Dim
variable {α β:Type} (D:Dim α β)
def ref (sec:Int→List β) (cs:List Int):Nat→Nat→List α→List β→Nat→List α
 | 0,_,out,_,_=>out
 | k+1,i,out,last,first=>
  bif decide (0<i)&&D.same (sec (rd cs i)) last then ref sec cs k (i+1) (D.grow out first (rd cs (i+1))) last first
  else ref sec cs k (i+1) (out++(sec (rd cs i)).map (D.put (rd cs i) (rd cs (i+1)))) (sec (rd cs i)) out.length
theorem ref_eq (hs: ∀a b,D.same a b=true↔a=b) (l:List α): ∀(k i:Nat) (s:Sw α β) (out:List α) (last:List β) (first:Nat),
  s.out=out→s.last=last→(last≠ []→s.first=first)→(last=[]→out.length≤first)→(0<i→s.fin=rd (D.cuts l) i)→(i=0→last=[])→
  (D.go l k i s).out =D.ref (D.sec l) (D.cuts l) k i out last first
 | 0,i,s,out,last,first,h1,h2,h3,h4,h5,h6=>h1
 | k +1,i,s,out,last,first,h1,h2,h3,h4,h5,h6=>by
  subst h1 h2;have e1:D.go l (k+1) i s=D.go l k (i+1) (D.one l (rd (D.cuts l) i) (rd (D.cuts l) (i+1)) s):=rfl;rw [e1];unfold ref;rcases Yd (decide (0<(D.sec l (rd (D.cuts l) i)).length)&&((s.fin == rd (D.cuts l) i)&&D.same s.last (D.sec l (rd (D.cuts l) i)))) with q | q
  ·have e:D.one l (rd (D.cuts l) i) (rd (D.cuts l) (i+1)) s=⟨D.grow s.out s.first (rd (D.cuts l) (i+1)),s.last,s.first,rd (D.cuts l) (i+1)⟩:=by unfold one;rw [q];rfl
   simp only [Ac,As] at q;obtain ⟨q1,q2,q3⟩:=q;have q3:=(hs _ _).1 q3;have hne:s.last≠ []:=fun h=>by rw [h] at q3;rw [←q3] at q1;exact Ck _ q1
   have hi:0<i:=Nat.pos_of_ne_zero fun h=>hne (h6 h);have e2:(decide (0<i)&&D.same (D.sec l (rd (D.cuts l) i)) s.last)=true:=by rw [Ah hi,Al,hs,q3]
   rw [e2,Ab,e];refine ref_eq hs l k (i+1) _ _ _ _ ?_ rfl h3 (fun h=>absurd h hne) (fun _=>rfl) (fun h=>by omega);rw [h3 hne]
  ·have e:D.one l (rd (D.cuts l) i) (rd (D.cuts l) (i+1)) s=⟨s.out++(D.sec l (rd (D.cuts l) i)).map (D.put (rd (D.cuts l) i) (rd (D.cuts l) (i+1))),D.sec l (rd (D.cuts l) i),s.out.length,rd (D.cuts l) (i+1)⟩:=by unfold one;rw [q];rfl
   rcases Yd (decide (0<i)&&D.same (D.sec l (rd (D.cuts l) i)) s.last) with q2 | q2
   ·rw [q2,Ab,e];simp only [Ac,As] at q2;obtain ⟨hi,q3⟩:=q2;have q3:=(hs _ _).1 q3;rw [(hs s.last (D.sec l (rd (D.cuts l) i))).2 q3.symm,Ai,h5 hi] at q;have hz:D.sec l (rd (D.cuts l) i)=[]:=by
     cases h:D.sec l (rd (D.cuts l) i) with
     | nil=>rfl
     | cons a b=>rw [h] at q;simp at q
    have hl:s.last=[]:=(by rw [←q3,hz]);have hf:=h4 hl;rw [hz,Bb,Az];refine ref_eq hs l k (i+1) _ _ _ _ ?_ hl.symm (fun h=>absurd hl h) (fun _=> ?_) (fun _=>rfl) (fun h=>by omega)
    ·exact (D.grow_nil _ _ _ hf).symm
    ·rw [D.grow_length];exact hf
   ·rw [q2,Aa,e];exact ref_eq hs l k (i+1) _ _ _ _ rfl rfl (fun _=>rfl) (fun h=>by rw [h];simp) (fun _=>rfl) (fun h=>by omega)
theorem out_eq (hs: ∀a b,D.same a b=true↔a=b) (l:List α):D.out l=D.ref (D.sec l) (D.cuts l) ((D.cuts l).length - 1) 0 [] [] 0:=
 D.ref_eq hs l _ 0 _ [] [] 0 rfl rfl (fun _=>rfl) (fun _=>Ao _) (fun h=>absurd h (Ck _)) (fun _=>rfl)
end Dim
theorem j5d (l:List R4):D4.cuts l=xsV l []:=by unfold Dim.cuts xsV;rw [Jv,show z2m ([]:List R4)=[] from rfl,Az];rfl
theorem j4j (l:List R4) (x y:Int):v5b 2 l [] x y=has4V l x y:=by unfold v5b y1g;show (has4V l x y||has4V [] x y)=_;rw [show has4V [] x y=false from rfl,Bool.or_false]
theorem x1k {l:List R4} {x:Int} {s:R2} (h:s∈D4.inn l x): ∃r∈l,r.a≤x∧x<r.c∧s=⟨r.b,r.d⟩:=by obtain ⟨r,hr,e⟩:=AX.1 h;obtain ⟨h1,h2⟩:=Bg.1 hr;simp only [Ac,As] at h2;exact ⟨r,h1,h2.1,h2.2,e.symm⟩
theorem j1j {l:List R4} {x:Int} {r:R4} (h:r∈l) (h1:r.a≤x) (h2:x<r.c):(⟨r.b,r.d⟩:R2)∈D4.inn l x:=by refine AX.2 ⟨r,Bg.2 ⟨h,?_⟩,rfl⟩;simp only [Ac,As];exact ⟨h1,h2⟩
theorem v3e (l:List R4): ∀(k i:Nat) (out:List R4) (last:List R2) (first:Nat),jF 2 l [] k i out last first=D4.ref (x0g 2 l []) (xsV l []) k i out last first
 | 0,_,_,_,_=>rfl
 | k+1,i,out,last,first=>by unfold jF Dim.ref;rw [v3e l k,v3e l k];rfl
theorem j5c (l:List R6):D6.cuts l=Wo l []:=by unfold Dim.cuts Wo;rw [Jv,show z2l ([]:List R6)=[] from rfl,Az];rfl
theorem w9f (r:R6):z1i r=w4i r:=by
 unfold z1i w4i;simp only [x9j,x9k];rw [Bool.eq_iff_iff];simp only [Ac,As];have m1: ∀x y z:Int,x≤min y z↔x≤y∧x≤z:=fun x y z=>by omega
 have m2: ∀x y z:Int,max y z≤x↔y≤x∧z≤x:=fun x y z=>by omega
 simp only [ge_iff_le,m1,m2];constructor <;> intro h <;> (repeat' apply And.intro) <;> omega
def sm {α:Type} (l:List α) (f:α→Int):Int:=(l.map f).sum
theorem u2p {α:Type} (f:α→Int):sm ([]:List α) f=0:=rfl
theorem x6j {α:Type} (x:α) (l:List α) (f:α→Int):sm (x::l) f=f x+sm l f:=by simp [sm]
theorem z1t {α:Type} (l m:List α) (f:α→Int):sm (l++m) f=sm l f+sm m f:=by simp [sm]
open Go.Proofs Go.Sort Go.Shelf Go.RowKit Go.Lib
namespace Dim
variable {α β:Type} (D:Dim α β)
structure Fair :Prop where
 lo_put: ∀x x' b,D.lo (D.put x x' b)=x
 hi_put: ∀x x' b,D.hi (D.put x x' b)=x'
 pr_put: ∀x x' b,D.pr (D.put x x' b)=b
 ext_put: ∀x x' x'' b,D.ext x'' (D.put x x' b)=D.put x x'' b
def Ap (R:β→β→Prop) (a b:α):Prop:=D.hi a≤D.lo b∨D.hi b≤D.lo a∨R (D.pr a) (D.pr b)
theorem v1l {D:Dim α β} (hD:D.Fair) (R:β→β→Prop) (sec:Int→List β) (cs:List Int) (hc:cs.Pairwise (· < ·)) (eA: ∀x,(sec x).Pairwise R):
  ∀(k i:Nat) (pre:List α) (last:List β) (x0:Int),(i+k<cs.length∨k=0)→pre.Pairwise (D.Ap R)→(∀a∈pre,D.hi a≤x0)→(last≠ []→x0≤rd cs i)→(last=[]→x0≤rd cs i)→last.Pairwise R→
  (D.ref sec cs k i (pre++last.map (D.put x0 (rd cs i))) last pre.length).Pairwise (D.Ap R):=by
 have fin: ∀(pre:List α) (last:List β) (x0 x':Int),pre.Pairwise (D.Ap R)→(∀a∈pre,D.hi a≤x0)→last.Pairwise R→(pre++last.map (D.put x0 x')).Pairwise (D.Ap R):=fun pre last x0 x' h1 h2 h3=>by
  refine BZ.2 ⟨h1,?_,fun a ha b hb=> ?_⟩
  ·refine List.pairwise_map.2 (h3.imp fun {a b} h=>.inr (.inr ?_));rw [hD.pr_put,hD.pr_put];exact h
  ·obtain ⟨c,_,rfl⟩:=AX.1 hb;exact .inl (by rw [hD.lo_put];exact h2 a ha)
 intro k
 induction k with
 | zero=>intro i pre last x0 _ h1 h2 _ _ h3;exact fin pre last x0 _ h1 h2 h3
 | succ k ih=>
  intro i pre last x0 hk h1 h2 h4 h5 h3;have hlt:rd cs i<rd cs (i+1):=z3v hc (Bz _) (by omega);unfold ref;cases hq:(decide (0<i)&&D.same (sec (rd cs i)) last) with
  | true=>
   rw [Ab];have e:D.grow (pre++last.map (D.put x0 (rd cs i))) pre.length (rd cs (i+1))=pre++last.map (D.put x0 (rd cs (i+1))):=by
    unfold grow;rw [List.take_left,List.drop_left,List.map_map]
    congr 1
    exact B3 fun b _=>hD.ext_put _ _ _ _
   rw [e];exact ih (i+1) pre last x0 (by omega) h1 h2 (fun h=>by have:=h4 h;omega) (fun h=>by have:=h5 h;omega) h3
  | false=>
   rw [Aa];refine ih (i+1) (pre++last.map (D.put x0 (rd cs i))) (sec (rd cs i)) (rd cs i) (by omega) (fin pre last x0 _ h1 h2 h3) (fun a ha=> ?_) (fun _=>by omega) (fun _=>by omega) (eA _);rcases AF.1 ha with ha | ha
   ·have:=h2 a ha;by_cases e:last=[]
    ·have:=h5 e;omega
    ·have:=h4 e;omega
   ·obtain ⟨c,_,rfl⟩:=AX.1 ha;rw [hD.hi_put];exact AU _
theorem out_apart {D:Dim α β} (hD:D.Fair) (R:β→β→Prop) (hs: ∀a b,D.same a b=true↔a=b) (l:List α) (eA: ∀x,(D.sec l x).Pairwise R):(D.out l).Pairwise (D.Ap R):=by
 rw [D.out_eq hs l];have hc:(D.cuts l).Pairwise (· < ·):=by show (Kz (D.ends l)).Pairwise (· < ·);rw [Jv];exact (Ye _).1
 have:=v1l hD R (D.sec l) (D.cuts l) hc eA ((D.cuts l).length - 1) 0 [] [] (rd (D.cuts l) 0) (by omega) .nil (by simp) (fun _=>AU _) (fun _=>AU _) .nil;exact this
end Dim
theorem z1n :D4.Fair:=⟨fun _ _ _=>rfl,fun _ _ _=>rfl,fun _ _ _=>rfl,fun _ _ _ _=>rfl⟩
theorem z3s :D6.Fair:=⟨fun _ _ _=>rfl,fun _ _ _=>rfl,fun _ _ _=>rfl,fun _ _ _ _=>rfl⟩
def Ap2 (s t:R2):Prop:=s.b≤t.a∨t.b≤s.a
def Ap4 (s t:R4):Prop:=s.c≤t.a∨t.c≤s.a∨s.d≤t.b∨t.d≤s.b
def Ap6 (s t:R6):Prop:=s.d≤t.a∨t.d≤s.a∨s.e≤t.b∨t.e≤s.b∨s.f≤t.c∨t.f≤s.c
theorem w9r (l:List R2):(Xr l).Pairwise Ap2:=by
 unfold Xr;by_cases h:400<l.length
 ·rw [Ah h];exact .nil
 ·rw [Ay h,Aa];cases hv:l.all z1o with
  | false=>exact .nil
  | true=>rw [Ab];exact (y3y l hv).1.sep.imp fun {s t} h=>.inl (by omega)
theorem v1d (l:List R4):(Zc l).Pairwise Ap4:=by
 have key:(D4.out l).Pairwise Ap4:=(Dim.out_apart z1n Ap2 (fun a b=>decide_eq_true_iff) l fun x=>w9r _).imp fun {s t} h=>by
  rcases h with h | h | h | h
  ·exact .inl h
  ·exact .inr (.inl h)
  ·exact .inr (.inr (.inl h))
  ·exact .inr (.inr (.inr h))
 unfold Zc;by_cases h:400<l.length
 ·rw [Ah h];exact .nil
 ·rw [Ay h,Aa];cases l.all Vo with
  | false=>exact .nil
  | true=>
   rw [Ab];cases decide (((D4.out l).length :Int)>400) with
   | true=>exact .nil
   | false=>exact key
theorem Vx {l:List R6} (h:Vw l=0):l.length≤400∧(∀r∈l,z1i r=true)∧l=D6.out l∧l.Pairwise Ap6:=by
 unfold Vw at h;by_cases h1:400<l.length
 ·rw [Ah h1] at h;cases h
 ·rw [Ay h1,Aa] at h;cases hv:l.all z1i with
  | false=>rw [hv] at h;cases h
  | true=>
   rw [hv,Ab] at h;cases ho:okF l ((D6.cuts l).length - 1) 0 with
   | false=>rw [ho] at h;cases h
   | true=>
    rw [ho,Ab] at h;cases h2:decide (((D6.out l).length :Int)>400) with
    | true=>rw [h2] at h;cases h
    | false=>
     rw [h2,Aa] at h;cases h3:Kb (D6.out l) l with
     | false=>rw [h3] at h;cases h
     | true=>
      have e:D6.out l=l:=AC h3;refine ⟨by omega,fun r hr=>Au.1 hv r hr,e.symm,?_⟩;have:=(Dim.out_apart z3s Ap4 (fun a b=>decide_eq_true_iff) l fun x=>v1d _).imp (S:=Ap6) fun {s t} h=>by
       rcases h with h | h | h | h | h | h
       ·exact .inr (.inr (.inr (.inr (.inl h))))
       ·exact .inr (.inr (.inr (.inr (.inr h))))
       ·exact .inl h
       ·exact .inr (.inl h)
       ·exact .inr (.inr (.inl h))
       ·exact .inr (.inr (.inr (.inl h)))
      rwa [e] at this
theorem z1s {r:R6} (h:z1i r=true):r.a<r.d∧r.b<r.e∧r.c<r.f∧ -1000000≤r.a∧ -1000000≤r.b∧ -1000000≤r.c∧r.d≤1000000∧r.e≤1000000∧r.f≤1000000:=by rw [w9f] at h;simp only [w4i,Ac,As] at h;omega
open Go.Proofs Go.Sort Go.Shelf Go.RowKit Go.Lib
structure Kp (β:Type) where
 a:Int
 b:Int
 s:List β
def ptL {β γ:Type} (inB:β→γ→Prop) (s:List β) (q:γ):Prop:= ∃r∈s,inB r q
theorem z6n {β γ:Type} (inB:β→γ→Prop) (q:γ): ¬ptL inB [] q:=fun ⟨_,h,_⟩=>by cases h
structure Sem (β γ:Type) where
 can:List β→Prop
 inB:β→γ→Prop
 uniq: ∀s t,can s→can t→(∀q,ptL inB s q↔ptL inB t q)→s=t
 some: ∀s,can s→s≠ []→ ∃q,ptL inB s q
 nil:can []
section
variable {β γ:Type} (M:Sem β γ)
def OkS (g:Kp β):Prop:=g.a<g.b∧M.can g.s∧g.s≠ []
def Nxt (g h:Kp β):Prop:=g.b≤h.a∧(g.b=h.a→g.s≠h.s)
inductive z0o :List (Kp β)→Prop
 | nil:z0o []
 | one (g:Kp β) (h:OkS M g):z0o [g]
 | cons (g h:Kp β) (r:List (Kp β)) (ok:OkS M g) (nx:Nxt g h) (k:z0o (h::r)):z0o (g::h::r)
def ptG (G:List (Kp β)) (x:Int) (q:γ):Prop:= ∃g∈G,g.a≤x∧x<g.b∧ptL M.inB g.s q
variable {M}
theorem z0o.head {g:Kp β} {r:List (Kp β)} (h:z0o M (g::r)):OkS M g:=by cases h <;> assumption
theorem z0o.tail {g:Kp β} {r:List (Kp β)} (h:z0o M (g::r)):z0o M r:=by
 cases h with
 | one=>exact .nil
 | cons _ _ _ _ _ k=>exact k
theorem z0o.later {g:Kp β} {r:List (Kp β)} (h:z0o M (g::r)): ∀k∈r,g.b≤k.a:=by
 induction r generalizing g with
 | nil=>intro k hk;cases hk
 | cons k r ih=>
  cases h with
  | cons _ _ _ ok nx kk=>
   intro m hm;rcases AE.1 hm with rfl | hm
   ·exact nx.1
   ·have h1:=ih kk m hm;have h2:=kk.head.1;have h3:=nx.1;omega
theorem z0o.all {G:List (Kp β)} (h:z0o M G): ∀g∈G,OkS M g:=by
 induction G with
 | nil=>intro g hg;cases hg
 | cons k r ih=>
  intro g hg;rcases AE.1 hg with rfl | hg
  ·exact h.head
  ·exact ih h.tail g hg
theorem z0o.before {G:List (Kp β)} {g:Kp β} (k:z0o M (G++[g])): ∀m∈G,m.b≤g.a:=by
 induction G with
 | nil=>intro m hm;cases hm
 | cons m r ih=>
  intro n hn;rcases AE.1 hn with rfl | hn
  ·exact k.later g (by simp)
  ·exact ih k.tail n hn
theorem z0o.snoc {G:List (Kp β)} {g h:Kp β} (k:z0o M (G++[g])) (ok:OkS M h) (nx:Nxt g h):z0o M (G++[g]++[h]):=by
 induction G with
 | nil=>exact .cons g h [] k.head nx (.one h ok)
 | cons m r ih=>
  have i:=ih k.tail;cases r with
  | nil=>
   cases k with
   | cons _ _ _ ok1 nx1 k1=>exact .cons m g [h] ok1 nx1 i
  | cons m2 r=>
   cases k with
   | cons _ _ _ ok1 nx1 k1=>exact .cons m m2 _ ok1 nx1 i
theorem z0o.stretch {G:List (Kp β)} {g:Kp β} {x:Int} (k:z0o M (G++[g])) (hx:g.b≤x):z0o M (G++[⟨g.a,x,g.s⟩]):=by
 induction G with
 | nil=>have:=k.head;exact .one _ ⟨by have:=this.1;show g.a<x;omega,this.2⟩
 | cons m r ih=>
  have i:=ih k.tail;cases r with
  | nil=>
   cases k with
   | cons _ _ _ ok1 nx1 k1=>exact .cons m _ [] ok1 nx1 i
  | cons m2 r=>
   cases k with
   | cons _ _ _ ok1 nx1 k1=>exact .cons m m2 _ ok1 nx1 i
theorem z8a (g:Kp β) (G:List (Kp β)) (x:Int) (q:γ):ptG M (g::G) x q↔(g.a≤x∧x<g.b∧ptL M.inB g.s q)∨ptG M G x q:=by
 constructor
 ·rintro ⟨k,hk,h⟩;rcases AE.1 hk with rfl | hk
  ·exact .inl h
  ·exact .inr ⟨k,hk,h⟩
 ·rintro (h | ⟨k,hk,h⟩)
  ·exact ⟨g,by simp,h⟩
  ·exact ⟨k,by simp [hk],h⟩
theorem y8o (G H:List (Kp β)) (x:Int) (q:γ):ptG M (G++H) x q↔ptG M G x q∨ptG M H x q:=by
 constructor
 ·rintro ⟨k,hk,h⟩;rcases AF.1 hk with hk | hk
  ·exact .inl ⟨k,hk,h⟩
  ·exact .inr ⟨k,hk,h⟩
 ·rintro (⟨k,hk,h⟩ | ⟨k,hk,h⟩)
  ·exact ⟨k,AF.2 (.inl hk),h⟩
  ·exact ⟨k,AF.2 (.inr hk),h⟩
theorem z0o.low {g:Kp β} {r:List (Kp β)} (h:z0o M (g::r)) {x:Int} {q:γ} (hp:ptG M (g::r) x q):g.a≤x:=by
 rcases (z8a g r x q).1 hp with hp | ⟨k,hk,h1,_⟩
 ·exact hp.1
 ·have:=h.later k hk;have:=h.head.1;omega
theorem z0o.rest {g:Kp β} {r:List (Kp β)} (h:z0o M (g::r)) (x:Int) (q:γ):ptG M r x q↔g.b≤x∧ptG M (g::r) x q:=by
 constructor
 ·rintro ⟨k,hk,h1,h2⟩;have:=h.later k hk;exact ⟨by omega,k,by simp [hk],h1,h2⟩
 ·rintro ⟨hx,hp⟩;rcases (z8a g r x q).1 hp with hp | hp
  ·omega
  ·exact hp
theorem z0o.sec0 {g:Kp β} {r:List (Kp β)} (h:z0o M (g::r)) {x:Int} (hx:g.a≤x∧x<g.b) (q:γ):ptG M (g::r) x q↔ptL M.inB g.s q:=by
 rw [z8a];constructor
 ·rintro (h1 | ⟨k,hk,h1,_⟩)
  ·exact h1.2.2
  ·have:=h.later k hk;omega
 ·exact fun h1=>.inl ⟨hx.1,hx.2,h1⟩
theorem x4v : ∀(G H:List (Kp β)),z0o M G→z0o M H→(∀x q,ptG M G x q↔ptG M H x q)→G=H
 | [],[],_,_,_=>rfl
 | [],h::H,_,hH,e=>by obtain ⟨q,hq⟩:=M.some _ hH.head.2.1 hH.head.2.2;have:=(e h.a q).2 ((hH.sec0 ⟨AU _,hH.head.1⟩ q).2 hq);obtain ⟨k,hk,_⟩:=this;cases hk
 | g::G,[],hG,_,e=>by obtain ⟨q,hq⟩:=M.some _ hG.head.2.1 hG.head.2.2;have:=(e g.a q).1 ((hG.sec0 ⟨AU _,hG.head.1⟩ q).2 hq);obtain ⟨k,hk,_⟩:=this;cases hk
 | g::G,h::H,hG,hH,e=>by
  have og:=hG.head;have oh:=hH.head;obtain ⟨q,hq⟩:=M.some _ og.2.1 og.2.2;obtain ⟨p,hp⟩:=M.some _ oh.2.1 oh.2.2;have a1:h.a≤g.a:=hH.low ((e g.a q).1 ((hG.sec0 ⟨AU _,og.1⟩ q).2 hq));have a2:g.a≤h.a:=hG.low ((e h.a p).2 ((hH.sec0 ⟨AU _,oh.1⟩ p).2 hp));have a3:g.a=h.a:=by omega
  have s1:g.s=h.s:=M.uniq _ _ og.2.1 oh.2.1 fun q=>by rw [←hG.sec0 (x:=g.a) ⟨AU _,og.1⟩,e,hH.sec0 (x:=g.a) ⟨by omega,by have:=oh.1;omega⟩]
  have key: ∀(g h:Kp β) (G H:List (Kp β)),z0o M (g::G)→z0o M (h::H)→(∀x q,ptG M (g::G) x q↔ptG M (h::H) x q)→g.a=h.a→g.s=h.s→ ¬g.b<h.b:=fun g h G H hG hH e ea es hlt=>by
   have og:=hG.head;have oh:=hH.head;have at_: ∀q,ptG M (g::G) g.b q↔ptL M.inB h.s q:=fun q=>by rw [e,hH.sec0 ⟨by have:=og.1;omega,hlt⟩]
   obtain ⟨q,hq⟩:=M.some _ oh.2.1 oh.2.2;have:=(hG.rest g.b q).2 ⟨AU _,(at_ q).2 hq⟩;cases hG with
   | one=>obtain ⟨k,hk,_⟩:=this;cases hk
   | cons _ k r ok nx kk=>
    have hk:k.a≤g.b:=kk.low this;have hk2:g.b=k.a:=by have:=nx.1;omega
    refine nx.2 hk2 ?_;rw [es];refine M.uniq _ _ oh.2.1 kk.head.2.1 fun p=> ?_;rw [←at_,←kk.sec0 (x:=g.b) ⟨by omega,by have:=kk.head.1;omega⟩];constructor
    ·exact fun hp=>((z0o.cons g k r ok nx kk).rest g.b p).2 ⟨AU _,hp⟩
    ·exact fun hp=>(((z0o.cons g k r ok nx kk).rest g.b p).1 hp).2
  have b1:=key g h G H hG hH e a3 s1;have b2:=key h g H G hH hG (fun x q=>(e x q).symm) a3.symm s1.symm;have b3:g.b=h.b:=by omega
  have eg:g=h:=by
   obtain ⟨ga,gb,gs⟩:=g;obtain ⟨ha,hb,hs⟩:=h;simp only at a3 b3 s1
   subst_vars;rfl
  subst eg
  congr 1
  exact x4v G H hG.tail hH.tail fun x q=>by rw [hG.rest,hH.rest,e]
end
namespace Dim
variable {α β:Type} (D:Dim α β)
def flat (G:List (Kp β)):List α:=G.flatMap fun g=>g.s.map (D.put g.a g.b)
theorem flat_append (G H:List (Kp β)):D.flat (G++H)=D.flat G++D.flat H:=by simp [flat]
theorem flat_one (g:Kp β):D.flat [g]=g.s.map (D.put g.a g.b):=by simp [flat]
def inA {γ:Type} (inB:β→γ→Prop) (r:α) (p:Int×γ):Prop:=D.lo r≤p.1∧p.1<D.hi r∧inB (D.pr r) p.2
variable {D}
theorem flat_pt (hD:D.Fair) {γ:Type} (M:Sem β γ) (G:List (Kp β)) (x:Int) (q:γ):ptL (D.inA M.inB) (D.flat G) (x,q)↔ptG M G x q:=by
 constructor
 ·rintro ⟨r,hr,h⟩;obtain ⟨g,hg,hr⟩:=AN.1 hr;obtain ⟨b,hb,rfl⟩:=AX.1 hr;unfold inA at h;rw [hD.lo_put,hD.hi_put,hD.pr_put] at h;exact ⟨g,hg,h.1,h.2.1,b,hb,h.2.2⟩
 ·rintro ⟨g,hg,h1,h2,b,hb,h3⟩;refine ⟨D.put g.a g.b b,AN.2 ⟨g,hg,AX.2 ⟨b,hb,rfl⟩⟩,?_⟩;unfold inA;rw [hD.lo_put,hD.hi_put,hD.pr_put];exact ⟨h1,h2,h3⟩
def can {γ:Type} (M:Sem β γ) (l:List α):Prop:= ∃G,z0o M G∧l=D.flat G
def sem (hD:D.Fair) {γ:Type} (M:Sem β γ):Sem α (Int×γ) where
 can:=D.can M
 inB:=D.inA M.inB
 uniq:=fun s t ⟨G,hG,e1⟩ ⟨H,hH,e2⟩ h=>by subst e1 e2;rw [x4v G H hG hH fun x q=>by rw [←flat_pt hD,←flat_pt hD];exact h (x,q)]
 some:=fun s ⟨G,hG,e1⟩ hs=>by
  subst e1;cases G with
  | nil=>exact absurd rfl hs
  | cons g G=>obtain ⟨q,hq⟩:=M.some _ hG.head.2.1 hG.head.2.2;exact ⟨(g.a,q),(flat_pt hD M _ _ _).2 ((hG.sec0 ⟨AU _,hG.head.1⟩ q).2 hq)⟩
 nil:=⟨[],.nil,rfl⟩
variable (D)
def oneS (sec:List β) (x x':Int) (s:Sw α β):Sw α β:=
 bif decide (0<sec.length)&&((s.fin == x)&&D.same s.last sec) then ⟨D.grow s.out s.first x',s.last,s.first,x'⟩
 else ⟨s.out++sec.map (D.put x x'),sec,s.out.length,x'⟩
def goS (sec:Int→List β) (cs:List Int):Nat→Nat→Sw α β→Sw α β
 | 0,_,s=>s
 | k+1,i,s=>goS sec cs k (i+1) (D.oneS (sec (rd cs i)) (rd cs i) (rd cs (i+1)) s)
theorem go_goS (l:List α): ∀(k i:Nat) (s:Sw α β),D.go l k i s=D.goS (D.sec l) (D.cuts l) k i s
 | 0,_,_=>rfl
 | k+1,i,s=>go_goS l k (i+1) _
variable {D}
structure Inv {γ:Type} (M:Sem β γ) (sec:Int→List β) (cs:List Int) (i:Nat) (s:Sw α β) (G:List (Kp β)):Prop where
 can:z0o M G
 out:s.out=D.flat G
 gap:s.last=[]→ ∀g∈G,g.b<rd cs i
 end_ : s.last ≠ [] → ∃ Gp g, G = Gp ++ [g] ∧ g.s = s.last ∧ g.b = rd cs i ∧ s.fin = rd cs i ∧ s.first = (D.flat Gp).length
 pts: ∀x q,ptG M G x q↔ ∃j,j<i∧rd cs j≤x∧x<rd cs (j+1)∧ptL M.inB (sec (rd cs j)) q
theorem u0m (hD:D.Fair) (hs: ∀a b,D.same a b=true↔a=b) {γ:Type} (M:Sem β γ) {sec:Int→List β} {cs:List Int} (hc:cs.Pairwise (· < ·)) (eA: ∀x,M.can (sec x)) {i:Nat} (hi:i+1<cs.length) {s:Sw α β} {G:List (Kp β)} (h:Inv (D:=D) M sec cs i s G):
  ∃G',Inv (D:=D) M sec cs (i+1) (D.oneS (sec (rd cs i)) (rd cs i) (rd cs (i+1)) s) G':=by
 have hlt:rd cs i<rd cs (i+1):=z3v hc (Bz _) hi;unfold oneS;rcases Yd (decide (0<(sec (rd cs i)).length)&&((s.fin == rd cs i)&&D.same s.last (sec (rd cs i)))) with q | q
 ·rw [q,Ab];simp only [Ac,As] at q;obtain ⟨q1,q2,q3⟩:=q;have q3:=(hs _ _).1 q3;have hne:s.last≠ []:=fun e=>by rw [e] at q3;rw [←q3] at q1;exact Ck _ q1
  obtain ⟨Gp,g,e1,e2,e3,e4,e5⟩:=h.end_ hne;subst e1;refine ⟨Gp++[⟨g.a,rd cs (i+1),g.s⟩],h.can.stretch (by omega),?_,fun e=>absurd e hne,fun _=>⟨Gp,_,rfl,e2,rfl,rfl,e5⟩,fun x p=> ?_⟩
  ·show D.grow s.out s.first (rd cs (i+1))=_
   rw [h.out,e5];unfold grow;rw [D.flat_append,D.flat_append,D.flat_one,D.flat_one,List.take_left,List.drop_left,List.map_map]
   congr 1
   exact B3 fun b _=>hD.ext_put _ _ _ _
  ·have hp:=h.pts x p;rw [y8o,z8a] at hp ⊢;have z: ¬ptG M ([]:List (Kp β)) x p:=fun ⟨_,hk,_⟩=>by cases hk
   constructor
   ·rintro (h1 | h1 | h1)
    ·obtain ⟨j,j1,j2⟩:=hp.1 (.inl h1);exact ⟨j,by omega,j2⟩
    ·simp only at h1;by_cases hx:x<g.b
     ·obtain ⟨j,j1,j2⟩:=hp.1 (.inr (.inl ⟨h1.1,hx,h1.2.2⟩));exact ⟨j,by omega,j2⟩
     ·exact ⟨i,Bz _,by omega,h1.2.1,by rw [←q3,←e2];exact h1.2.2⟩
    ·exact absurd h1 z
   ·rintro ⟨j,j1,j2,j3,j4⟩;rcases A1 (B8 j1) with rfl | j1
    ·refine .inr (.inl ⟨?_,j3,?_⟩)
     ·have:=(h.can.all g (by simp)).1;show g.a≤x;omega
     ·show ptL M.inB g.s p;rw [e2,q3];exact j4
    ·rcases hp.2 ⟨j,j1,j2,j3,j4⟩ with h1 | h1 | h1
     ·exact .inl h1
     ·exact .inr (.inl ⟨h1.1,by show x<rd cs (i+1);omega,h1.2.2⟩)
     ·exact absurd h1 z
 ·rw [q,Aa];by_cases he:sec (rd cs i)=[]
  ·rw [he];refine ⟨G,h.can,?_,fun _ g hg=> ?_,fun e=>absurd rfl e,fun x p=> ?_⟩
   ·show s.out++[].map _=_;rw [Bb,Az,h.out]
   ·by_cases hl:s.last=[]
    ·have:=h.gap hl g hg;omega
    ·obtain ⟨Gp,g',e1,e2,e3,_⟩:=h.end_ hl;subst e1;rcases AF.1 hg with hg | hg
     ·have:=h.can.before g hg;have:=(h.can.all g' (by simp)).1;omega
     ·rw [AT.1 hg];omega
   ·rw [h.pts];constructor
    ·rintro ⟨j,j1,j2⟩;exact ⟨j,by omega,j2⟩
    ·rintro ⟨j,j1,j2,j3,j4⟩;rcases A1 (B8 j1) with rfl | j1
     ·rw [he] at j4;exact absurd j4 (z6n _ _)
     ·exact ⟨j,j1,j2,j3,j4⟩
  ·have ok:OkS M (⟨rd cs i,rd cs (i+1),sec (rd cs i)⟩:Kp β):=⟨hlt,eA _,he⟩
   have hcan:z0o M (G++[⟨rd cs i,rd cs (i+1),sec (rd cs i)⟩]):=by
    rcases List.eq_nil_or_concat G with rfl | ⟨Gp,g,rfl⟩
    ·exact .one _ ok
    ·rw [List.concat_eq_append] at*;refine h.can.snoc ok ?_;by_cases hl:s.last=[]
     ·have:=h.gap hl g (by simp);exact ⟨by show g.b≤rd cs i;omega,fun e=>by simp only at e;omega⟩
     ·obtain ⟨Gp',g',e1,e2,e3,e4,_⟩:=h.end_ hl;obtain ⟨rfl,e⟩:=List.append_inj' e1 rfl;obtain rfl:g=g':=by simpa using e
      refine ⟨by show g.b≤rd cs i;omega,fun _ e=> ?_⟩;rw [Ah (show 0<(sec (rd cs i)).length from List.length_pos_iff.2 he),e4,(hs _ _).2 (e2.symm.trans e)] at q;simp at q
   refine ⟨_,hcan,?_,fun e=>absurd e he,fun _=>⟨G,_,rfl,rfl,rfl,rfl,by show s.out.length=_;rw [h.out]⟩,fun x p=> ?_⟩
   ·show s.out++_=_;rw [D.flat_append,D.flat_one,h.out]
   ·rw [y8o,z8a,h.pts];have z: ¬ptG M ([]:List (Kp β)) x p:=fun ⟨_,hk,_⟩=>by cases hk
    constructor
    ·rintro (⟨j,j1,j2⟩ | h1 | h1)
     ·exact ⟨j,by omega,j2⟩
     ·exact ⟨i,Bz _,h1⟩
     ·exact absurd h1 z
    ·rintro ⟨j,j1,j2,j3,j4⟩;rcases A1 (B8 j1) with rfl | j1
     ·exact .inr (.inl ⟨j2,j3,j4⟩)
     ·exact .inl ⟨j,j1,j2,j3,j4⟩
theorem u6s (hD:D.Fair) (hs: ∀a b,D.same a b=true↔a=b) {γ:Type} (M:Sem β γ) {sec:Int→List β} {cs:List Int} (hc:cs.Pairwise (· < ·)) (eA: ∀x,M.can (sec x)): ∀(k i:Nat) (s:Sw α β) (G:List (Kp β)),i+k<cs.length∨k=0→Inv (D:=D) M sec cs i s G→
  ∃G',Inv (D:=D) M sec cs (i+k) (D.goS sec cs k i s) G'
 | 0,i,s,G,_,h=>⟨G,h⟩
 | k+1,i,s,G,hk,h=>by obtain ⟨G1,h1⟩:=u0m hD hs M hc eA (show i+1<cs.length by omega) h;obtain ⟨G2,h2⟩:=u6s hD hs M hc eA k (i+1) _ G1 (by omega) h1;exact ⟨G2,by rw [show i+(k+1)=i+1+k by omega];exact h2⟩
theorem goS_can (hD:D.Fair) (hs: ∀a b,D.same a b=true↔a=b) {γ:Type} (M:Sem β γ) {sec:Int→List β} {cs:List Int} (hc:cs.Pairwise (· < ·)) (eA: ∀x,M.can (sec x)):
  (D.sem hD M).can (D.goS sec cs (cs.length - 1) 0 ⟨[],[],0,0⟩).out ∧ ∀x q,ptL (D.sem hD M).inB (D.goS sec cs (cs.length - 1) 0 ⟨[],[],0,0⟩).out (x,q)↔ ∃j,j+1<cs.length∧rd cs j≤x∧x<rd cs (j+1)∧ptL M.inB (sec (rd cs j)) q:=by
 obtain ⟨G,h⟩:=u6s hD hs M hc eA (cs.length - 1) 0 ⟨[],[],0,0⟩ [] (by omega) ⟨.nil,rfl,fun _ g hg=>by (cases hg),fun e=>absurd rfl e,fun x q=>⟨fun ⟨_,hg,_⟩=>(by cases hg),fun ⟨j,hj,_⟩=>absurd hj (AO _)⟩⟩;refine ⟨⟨G,h.can,h.out⟩,fun x q=> ?_⟩;rw [h.out];rw [show ptL (D.sem hD M).inB (D.flat G) (x,q)↔ptG M G x q from flat_pt hD M G x q,h.pts];constructor
 ·rintro ⟨j,h1,h2⟩;exact ⟨j,by omega,h2⟩
 ·rintro ⟨j,h1,h2⟩;exact ⟨j,by omega,h2⟩
end Dim
open Go.Proofs Go.Sort Go.Shelf Go.RowKit Go.Lib
def z2q :Sem R2 Int where
 can:=Can
 inB s y:=s.a≤y∧y<s.b
 uniq:=v5j
 some s hs hn:=by
  cases s with
  | nil=>exact absurd rfl hn
  | cons r l=>exact ⟨r.a,r,by simp,AU _,hs.pos r (by simp)⟩
 nil:=.nil
def Xa :Sem R4 (Int×Int):=Dim.sem z1n z2q
def y6x :Sem R6 (Int×Int×Int):=Dim.sem z3s Xa
namespace Dim
variable {α β:Type} {D:Dim α β}
theorem inn_slab (l m:List α) (hl: ∀r∈m,r∈l) {j:Nat} (hj:j+1<(D.cuts l).length) {x:Int} (h1:rd (D.cuts l) j≤x) (h2:x<rd (D.cuts l) (j+1)):D.inn m (rd (D.cuts l) j)=D.inn m x:=by
 have hc:(D.cuts l).Pairwise (· < ·):=by show (Kz (D.ends l)).Pairwise (· < ·);rw [Jv];exact (Ye _).1
 have fE: ∀r∈m,D.lo r∈D.cuts l∧D.hi r∈D.cuts l:=fun r hr=>by show D.lo r∈Kz (D.ends l)∧D.hi r∈Kz (D.ends l);rw [Jv,(Ye _).2,(Ye _).2];exact ⟨AN.2 ⟨r,hl r hr,by simp⟩,AN.2 ⟨r,hl r hr,by simp⟩⟩
 have side: ∀c,c∈D.cuts l→(c≤rd (D.cuts l) j↔c≤x):=fun c hcm=>by
  obtain ⟨i,hi,rfl⟩:=AZ hcm;rw [←Yo hi];rcases Bi j i with h | h
  ·have:rd (D.cuts l) (j+1)≤rd (D.cuts l) i:=by
    rcases A1 (show j+1≤i from h) with e | e
    ·rw [e];exact AU _
    ·exact Cq (z3v hc e hi)
   have:=z3v hc (Bz j) hj;constructor <;> intro <;> omega
  ·have:rd (D.cuts l) i≤rd (D.cuts l) j:=by
    rcases A1 h with e | e
    ·rw [e];exact AU _
    ·exact Cq (z3v hc e (by omega))
   constructor <;> intro <;> omega
 unfold inn
 congr 1
 refine List.filter_congr fun r hr=> ?_;obtain ⟨m1,m2⟩:=fE r hr;have s1:=side _ m1;have s2:=side _ m2;have e1:decide (D.lo r≤rd (D.cuts l) j)=decide (D.lo r≤x):=Bu.2 s1;have e2:decide (rd (D.cuts l) j<D.hi r)=decide (x<D.hi r):=Bu.2 (by constructor <;> intro <;> omega);rw [e1,e2]
theorem inn_out (l m:List α) (hl: ∀r∈m,r∈l) {x:Int} (h: ∀j,j+1<(D.cuts l).length → ¬(rd (D.cuts l) j≤x∧x<rd (D.cuts l) (j+1))):D.inn m x=[]:=by
 unfold inn;rw [Cj,BJ];intro r hr hb;simp only [Ac,As] at hb;have fE:D.lo r∈D.cuts l∧D.hi r∈D.cuts l:=by show D.lo r∈Kz (D.ends l)∧D.hi r∈Kz (D.ends l);rw [Jv,(Ye _).2,(Ye _).2];exact ⟨AN.2 ⟨r,hl r hr,by simp⟩,AN.2 ⟨r,hl r hr,by simp⟩⟩
 have hc:(D.cuts l).Pairwise (· < ·):=by show (Kz (D.ends l)).Pairwise (· < ·);rw [Jv];exact (Ye _).1
 obtain ⟨i,hi,e1⟩:=AZ fE.1;obtain ⟨k,hk,e2⟩:=AZ fE.2;rw [←Yo hi] at e1;rw [←Yo hk] at e2;have h0:rd (D.cuts l) 0≤rd (D.cuts l) i:=by
  rcases A1 (AA i) with e | e
  ·rw [←e];exact AU _
  ·exact Cq (z3v hc e hi)
 obtain ⟨j,j1,j2,j3⟩:=x1t k hk x (by omega) (by omega);exact h j (by omega) ⟨j2,j3⟩
theorem goJ_can (hD:D.Fair) (hs: ∀a b,D.same a b=true↔a=b) {γ:Type} (M:Sem β γ) (a b:List α) (J:List β→List β→List β) (hJ: ∀x,M.can (J (D.inn a x) (D.inn b x))) (h0:J [] []=[]):
  (D.sem hD M).can (D.goS (fun x=>J (D.inn a x) (D.inn b x)) (D.cuts (a++b)) ((D.cuts (a++b)).length - 1) 0 ⟨[],[],0,0⟩).out ∧
  ∀x q,ptL (D.sem hD M).inB (D.goS (fun x=>J (D.inn a x) (D.inn b x)) (D.cuts (a++b)) ((D.cuts (a++b)).length - 1) 0 ⟨[],[],0,0⟩).out (x,q)↔ptL M.inB (J (D.inn a x) (D.inn b x)) q:=by
 have hc:(D.cuts (a++b)).Pairwise (· < ·):=by show (Kz (D.ends (a++b))).Pairwise (· < ·);rw [Jv];exact (Ye _).1
 obtain ⟨h1,h2⟩:=goS_can hD hs M (cs:=D.cuts (a++b)) hc hJ;refine ⟨h1,fun x q=> ?_⟩;rw [h2];constructor
 ·rintro ⟨j,j1,j2,j3,j4⟩;rwa [inn_slab (a++b) a (fun r hr=>AF.2 (.inl hr)) j1 j2 j3,inn_slab (a++b) b (fun r hr=>AF.2 (.inr hr)) j1 j2 j3] at j4
 ·intro hp;by_cases hx: ∃j,j+1<(D.cuts (a++b)).length ∧rd (D.cuts (a++b)) j≤x∧x<rd (D.cuts (a++b)) (j+1)
  ·obtain ⟨j,j1,j2,j3⟩:=hx;refine ⟨j,j1,j2,j3,?_⟩;rwa [inn_slab (a++b) a (fun r hr=>AF.2 (.inl hr)) j1 j2 j3,inn_slab (a++b) b (fun r hr=>AF.2 (.inr hr)) j1 j2 j3]
  ·have hx': ∀j,j+1<(D.cuts (a++b)).length → ¬(rd (D.cuts (a++b)) j≤x∧x<rd (D.cuts (a++b)) (j+1)):=fun j j1 j2=>hx ⟨j,j1,j2⟩;rw [inn_out (a++b) a (fun r hr=>AF.2 (.inl hr)) hx',inn_out (a++b) b (fun r hr=>AF.2 (.inr hr)) hx',h0] at hp;exact absurd hp (z6n _ _)
theorem pt_inn {γ:Type} (inB:β→γ→Prop) (l:List α) (x:Int) (q:γ):ptL inB (D.inn l x) q↔ptL (D.inA inB) l (x,q):=by
 constructor
 ·rintro ⟨b,hb,h⟩;obtain ⟨r,hr,rfl⟩:=AX.1 hb;obtain ⟨h1,h2⟩:=Bg.1 hr;simp only [Ac,As] at h2;exact ⟨r,h1,h2.1,h2.2,h⟩
 ·rintro ⟨r,hr,h1,h2,h3⟩;refine ⟨D.pr r,AX.2 ⟨r,Bg.2 ⟨hr,?_⟩,rfl⟩,h3⟩;simp only [Ac,As];exact ⟨h1,h2⟩
theorem out_goJ (l:List α):D.out l=(D.goS (fun x=>D.mak (D.inn l x)) (D.cuts (l++[])) ((D.cuts (l++[])).length - 1) 0 ⟨[],[],0,0⟩).out :=by rw [Az];unfold out;rw [go_goS];rfl
end Dim
theorem z7g (a b:List R4):D6.same a b=true↔a=b:=decide_eq_true_iff
theorem z7h (a b:List R2):D4.same a b=true↔a=b:=decide_eq_true_iff
theorem Uo {l:List R4} (h: ∀r∈l,Vo r=true) (x:Int):(D4.inn l x).all z1o=true:=Au.2 fun s hs=>by obtain ⟨r,hr,_,_,rfl⟩:=x1k hs;have:=h r hr;simp only [Vo,z1o,Ac,As] at this ⊢;omega
theorem w9q {l:List R2} (hv:l.all z1o=true) (hl:l.length≤400):z2q.can (Xr l)∧ ∀y,ptL z2q.inB (Xr l) y↔ptL z2q.inB l y:=by
 obtain ⟨c1,c2⟩:=y3y l hv;have e:Xr l=swV l:=by unfold Xr;rw [Ay (by omega),hv];rfl
 rw [e];exact ⟨c1,c2⟩
theorem z2b {β γ:Type} (M:Sem β γ) {l:List β} (h:M.can l) (hp: ∀q,¬ptL M.inB l q):l=[]:=AI fun hn=>by obtain ⟨q,hq⟩:=M.some l h hn;exact hp q hq
theorem u7y :Xr []=[]:=by obtain ⟨h1,h2⟩:=w9q (l:=[]) rfl (AA _);exact z2b z2q h1 fun q hq=>z6n _ _ ((h2 q).1 hq)
theorem Dim.out_nil {α β:Type} (D:Dim α β):D.out []=[]:=by
 have h:(D.cuts []).length ≤2*0:=D.cuts_length [];have e:(D.cuts []).length - 1=0:=by omega
 unfold Dim.out;rw [e];rfl
theorem j0b :Zc []=[]:=by unfold Zc;rw [Dim.out_nil];cases decide (400<([]:List R4).length) <;> cases ([]:List R4).all Vo <;> rfl
theorem z1j {l:List R4} (hv: ∀r∈l,Vo r=true) (hl:l.length≤400):Xa.can (D4.out l)∧ ∀p,ptL Xa.inB (D4.out l) p↔ptL Xa.inB l p:=by rw [Dim.out_goJ];have hs: ∀x,z2q.can (D4.mak (D4.inn l x))∧ ∀y,ptL z2q.inB (D4.mak (D4.inn l x)) y↔ptL z2q.inB (D4.inn l x) y:=fun x=>w9q (Uo hv x) (AL (D4.inn_length l x) hl);obtain ⟨h1,h2⟩:=Dim.goJ_can z1n z7h z2q l [] (fun s _=>D4.mak s) (fun x=>(hs x).1) u7y;refine ⟨h1,fun ⟨x,y⟩=> ?_⟩;rw [show ptL Xa.inB _ (x,y)↔_ from h2 x y,(hs x).2,Dim.pt_inn];rfl
theorem z7a {l:List R6} (hv: ∀r∈l,z1i r=true) (z:Int): ∀r∈D6.inn l z,Vo r=true:=fun r hr=>by
 obtain ⟨s,hs,rfl⟩:=AX.1 hr;have:=z1s (hv s (Bg.1 hs).1);show Vo ⟨s.a,s.b,s.d,s.e⟩=true;simp only [Vo,Ac,As]
 (repeat' apply And.intro) <;> omega
def Secs (l:List R6):Prop:= ∀z,(D4.out (D6.inn l z)).length ≤400
theorem z7u {l:List R4} (hv: ∀r∈l,Vo r=true) (hl:l.length≤400) (h:(D4.out l).length ≤400):Zc l=D4.out l∧Xn l=0:=by have hv':l.all Vo=true:=Au.2 hv;unfold Zc Xn;rw [Ay (by omega),hv',Ay (by omega)];exact ⟨rfl,rfl⟩
theorem u8b {l:List R6} (hv: ∀r∈l,z1i r=true) (hl:l.length≤400) (hs:Secs l):y6x.can (D6.out l)∧ ∀p,ptL y6x.inB (D6.out l) p↔ptL y6x.inB l p:=by
 rw [Dim.out_goJ];have hq: ∀z,Xa.can (D6.mak (D6.inn l z))∧ ∀p,ptL Xa.inB (D6.mak (D6.inn l z)) p↔ptL Xa.inB (D6.inn l z) p:=fun z=>by show Xa.can (Zc (D6.inn l z))∧ ∀p,ptL Xa.inB (Zc (D6.inn l z)) p↔_;rw [(z7u (z7a hv z) (AL (D6.inn_length l z) hl) (hs z)).1];exact z1j (z7a hv z) (AL (D6.inn_length l z) hl)
 obtain ⟨h1,h2⟩:=Dim.goJ_can z3s z7g Xa l [] (fun s _=>D6.mak s) (fun x=>(hq x).1) j0b;refine ⟨h1,fun ⟨z,p⟩=> ?_⟩;rw [show ptL y6x.inB _ (z,p)↔_ from h2 z p,(hq z).2,Dim.pt_inn];rfl
open Go.Proofs Go.Sort Go.Shelf Go.RowKit Go.Lib
def opB (k:Nat) (a b:Bool):Bool:=match k with
 | 0=>a||b
 | 1=>a&&b
 | _=>a&& !b
theorem opB_ff (k:Nat):opB k false false=false:=by
 match k with
 | 0=>rfl
 | 1=>rfl
 | _+2=>rfl
def Wq (i:Int) (l:List R2):List R3:=l.flatMap fun s=>[⟨s.a,i,1⟩,⟨s.b,i,-1⟩]
def z5g (i:Int) (E:List R3) (y:Int):Int:=(E.map fun e=>if e.b=i∧e.a≤y then e.c else 0).sum
theorem Vf (i:Int) (e:R3) (E:List R3) (y:Int):z5g i (e::E) y=(if e.b=i∧e.a≤y then e.c else 0)+z5g i E y:=by simp [z5g]
theorem y4s (i:Int) (E F:List R3) (y:Int):z5g i (E++F) y=z5g i E y+z5g i F y:=by simp [z5g]
theorem x3s (i:Int) {E F:List R3} (h:E.Perm F) (y:Int):z5g i E y=z5g i F y:=by
 induction h with
 | nil=>rfl
 | cons e _ ih=>rw [Vf,Vf,ih]
 | swap a b l=>simp only [Vf];omega
 | trans _ _ i1 i2=>rw [i1,i2]
theorem v2e (i:Int) (E:List R3) (y:Int) (h: ∀e∈E,y<e.a):z5g i E y=0:=by
 induction E with
 | nil=>rfl
 | cons e E ih=>rw [Vf,Aw (by have:=h e (by simp);omega),ih fun f hf=>h f (by simp [hf])];rfl
theorem x3t (i:Int) (l:List R2) (hv: ∀s∈l,s.a<s.b) (y:Int):0≤z5g i (Wq i l) y∧(0<z5g i (Wq i l) y↔pt l y):=by
 induction l with
 | nil=>exact ⟨AU _,by simp [z5g,Wq,pt]⟩
 | cons s l ih=>
  obtain ⟨i1,i2⟩:=ih fun t ht=>hv t (by simp [ht]);have hs:=hv s (by simp);have e:z5g i (Wq i (s::l)) y=(if s.a≤y∧y<s.b then 1 else 0)+z5g i (Wq i l) y:=by
   show z5g i (⟨s.a,i,1⟩::⟨s.b,i,-1⟩::Wq i l) y=_;rw [Vf,Vf];show (if i=i∧s.a≤y then (1:Int) else 0)+((if i=i∧s.b≤y then (-1:Int) else 0)+z5g i (Wq i l) y)=_;by_cases h1:s.a≤y
   ·by_cases h2:s.b≤y
    ·rw [AB ⟨rfl,h1⟩,AB ⟨rfl,h2⟩,Aw (show¬(s.a≤y∧y<s.b) by omega)];omega
    ·rw [AB ⟨rfl,h1⟩,Aw (fun h=>h2 h.2),AB (show s.a≤y∧y<s.b by omega)];omega
   ·rw [Aw (fun h=>h1 h.2),Aw (fun h=>by have:=h.2;omega),Aw (show¬(s.a≤y∧y<s.b) by omega)];omega
  rw [e];by_cases h:s.a≤y∧y<s.b
  ·rw [AB h];exact ⟨by omega,⟨fun _=>⟨s,by simp,h⟩,fun _=>by omega⟩⟩
  ·rw [Aw h];refine ⟨by omega,?_⟩;rw [Int.zero_add,i2];constructor
   ·rintro ⟨t,ht,h2⟩;exact ⟨t,by simp [ht],h2⟩
   ·rintro ⟨t,ht,h2⟩;rcases AE.1 ht with rfl | ht
    ·exact absurd h2 h
    ·exact ⟨t,ht,h2⟩
theorem y8u (i j:Int) (hij:i≠j) (l:List R2) (y:Int):z5g i (Wq j l) y=0:=by
 induction l with
 | nil=>rfl
 | cons s l ih=>show z5g i (⟨s.a,j,1⟩::⟨s.b,j,-1⟩::Wq j l) y=0;rw [Vf,Vf,Aw (fun h=>hij h.1.symm),Aw (fun h=>hij h.1.symm),ih];rfl
def sw2 (f:Bool→Bool→Bool):List R3→Int→Int→Int→Bool→List R2→List R2
 | [],_,_,_,_,out=>out
 | e::r,o,p,last,inn,out=>
  sw2 f r (bif e.b == 0 then o+e.c else o) (bif e.b == 0 then p else p+e.c) e.a (f (decide ((bif e.b == 0 then o+e.c else o)>0)) (decide ((bif e.b == 0 then p else p+e.c)>0))) (Vj out last inn e.a)
def Two (E:List R3):Prop:= ∀e∈E,e.b=0∨e.b=1
theorem w9j (f:Bool→Bool→Bool): ∀(E:List R3) (o p last:Int) (out:List R2),Asc E→Two E→(∀e∈E,last≤e.a)→Can out→(∀s∈out,s.b≤last)→
  Can (sw2 f E o p last (f (decide (o>0)) (decide (p>0))) out)∧ ∀y,pt (sw2 f E o p last (f (decide (o>0)) (decide (p>0))) out) y↔pt out y∨(last≤y∧f (decide (o+z5g 0 E y>0)) (decide (p+z5g 1 E y>0))=true∧ ∃e∈E,y<e.a)
 | [],o,p,last,out,_,_,_,hc,_=>⟨hc,fun y=>⟨.inl,fun h=>h.elim id fun ⟨_,_,e,he,_⟩=>by cases he⟩⟩
 | e ::r,o,p,last,out,hE,ht,hl,hc,hb=>by
  have he:=hl e (by simp);have hr:=AV.1 hE;obtain ⟨p1,p2,p3⟩:=y9r (f (decide (o>0)) (decide (p>0))) hc hb he;have hz: ∀y,y<e.a→ ∀i,z5g i (e::r) y=0:=fun y hy i=>v2e i _ _ fun g hg=>by
   rcases AE.1 hg with rfl | hg
   ·exact hy
   ·have:=hr.1 g hg;omega
  have main: ∀(o' p':Int),(∀y,e.a≤y→o'+z5g 0 r y=o+z5g 0 (e::r) y∧p'+z5g 1 r y=p+z5g 1 (e::r) y)→
    Can (sw2 f r o' p' e.a (f (decide (o'>0)) (decide (p'>0))) (Vj out last (f (decide (o>0)) (decide (p>0))) e.a))∧
    ∀y,pt (sw2 f r o' p' e.a (f (decide (o'>0)) (decide (p'>0))) (Vj out last (f (decide (o>0)) (decide (p>0))) e.a)) y↔pt out y∨(last≤y∧f (decide (o+z5g 0 (e::r) y>0)) (decide (p+z5g 1 (e::r) y>0))=true∧ ∃g∈e::r,y<g.a):=fun o' p' hop=>by
   obtain ⟨q1,q2⟩:=w9j f r o' p' e.a (Vj out last (f (decide (o>0)) (decide (p>0))) e.a) hr.2 (fun g hg=>ht g (by simp [hg])) hr.1 p1 p2;refine ⟨q1,fun y=> ?_⟩;rw [q2,p3];constructor
   ·rintro ((h | ⟨h1,h2,h3⟩) | ⟨h1,h2,g,hg,h3⟩)
    ·exact .inl h
    ·refine .inr ⟨h2,?_,e,by simp,h3⟩;rw [hz y h3,hz y h3,Int.add_zero,Int.add_zero];exact h1
    ·refine .inr ⟨by omega,?_,g,by simp [hg],h3⟩;obtain ⟨e1,e2⟩:=hop y h1;rw [←e1,←e2];exact h2
   ·rintro (h | ⟨h1,h2,g,hg,h3⟩)
    ·exact .inl (.inl h)
    ·by_cases hy:e.a≤y
     ·right;obtain ⟨e1,e2⟩:=hop y hy;refine ⟨hy,by rw [e1,e2];exact h2,g,?_,h3⟩;rcases AE.1 hg with rfl | hg
      ·omega
      ·exact hg
     ·left;right;rw [hz y (by omega),hz y (by omega),Int.add_zero,Int.add_zero] at h2;exact ⟨h2,h1,by omega⟩
  show Can (sw2 f r _ _ _ _ _)∧ ∀y,pt (sw2 f r _ _ _ _ _) y↔_;rcases ht e (by simp) with h0 | h0
  ·have hb0:(e.b == 0)=true:=by rw [h0];rfl
   rw [hb0,Ab,Ab];refine main _ _ fun y hy=>⟨?_,?_⟩
   ·rw [Vf,AB ⟨h0,hy⟩];omega
   ·rw [Vf,Aw (fun h=>by have:=h.1;omega)];omega
  ·have hb0:(e.b == 0)=false:=by rw [h0];rfl
   rw [hb0,Aa,Aa];refine main _ _ fun y hy=>⟨?_,?_⟩
   ·rw [Vf,Aw (fun h=>by have:=h.1;omega)];omega
   ·rw [Vf,AB ⟨h0,hy⟩];omega
instance ptDec (l:List R2) (y:Int):Decidable (pt l y):=Classical.propDecidable _
theorem u7u (f:Bool→Bool→Bool) (hf:f false false=false) (a b:List R2) (ha: ∀s∈a,s.a<s.b) (hb: ∀s∈b,s.a<s.b) (E:List R3) (hp:E.Perm (Wq 0 a++Wq 1 b)) (hE:Asc E):
  Can (sw2 f E 0 0 0 false [])∧ ∀y,pt (sw2 f E 0 0 0 false []) y↔f (decide (pt a y)) (decide (pt b y))=true:=by
 have hn: ∀y,z5g 0 E y=z5g 0 (Wq 0 a) y∧z5g 1 E y=z5g 1 (Wq 1 b) y:=fun y=>by rw [x3s 0 hp,x3s 1 hp,y4s,y4s,y8u 0 1 (by decide),y8u 1 0 (by decide)];omega
 have hd: ∀y,decide (z5g 0 E y>0)=decide (pt a y)∧decide (z5g 1 E y>0)=decide (pt b y):=fun y=>by obtain ⟨e1,e2⟩:=hn y;exact ⟨Bu.2 (by rw [e1];exact (x3t 0 a ha y).2),Bu.2 (by rw [e2];exact (x3t 1 b hb y).2)⟩
 have ht:Two E:=fun e he=>by
  rcases AF.1 (hp.mem_iff.1 he) with h | h
  ·obtain ⟨s,_,h⟩:=AN.1 h;simp only [AE,Bc,BX] at h;rcases h with rfl | rfl <;> exact .inl rfl
  ·obtain ⟨s,_,h⟩:=AN.1 h;simp only [AE,Bc,BX] at h;rcases h with rfl | rfl <;> exact .inr rfl
 have cover: ∀y,f (decide (pt a y)) (decide (pt b y))=true→ ∃e∈E,y<e.a∧ ∃g∈E,g.a≤y:=fun y hy=>by
  by_cases h1:pt a y
  ·obtain ⟨s,hs,s1,s2⟩:=h1;exact ⟨⟨s.b,0,-1⟩,hp.mem_iff.2 (AF.2 (.inl (AN.2 ⟨s,hs,by simp⟩))),s2,⟨s.a,0,1⟩,hp.mem_iff.2 (AF.2 (.inl (AN.2 ⟨s,hs,by simp⟩))),s1⟩
  ·by_cases h2:pt b y
   ·obtain ⟨s,hs,s1,s2⟩:=h2;exact ⟨⟨s.b,1,-1⟩,hp.mem_iff.2 (AF.2 (.inr (AN.2 ⟨s,hs,by simp⟩))),s2,⟨s.a,1,1⟩,hp.mem_iff.2 (AF.2 (.inr (AN.2 ⟨s,hs,by simp⟩))),s1⟩
   ·rw [Ay h1,Ay h2,hf] at hy;cases hy
 cases E with
 | nil=>refine ⟨.nil,fun y=>⟨fun ⟨s,hs,_⟩=>(by cases hs),fun hy=> ?_⟩⟩;obtain ⟨e,he,_⟩:=cover y hy;cases he
 | cons e r=>
  have hr:=AV.1 hE;have hz0:f (decide ((0:Int)>0)) (decide ((0:Int)>0))=false:=hf;have e0:sw2 f (e::r) 0 0 0 false []=sw2 f (e::r) 0 0 e.a (f (decide ((0:Int)>0)) (decide ((0:Int)>0))) []:=by rw [hz0];show sw2 f r _ _ _ _ (Vj [] 0 false e.a)=sw2 f r _ _ _ _ (Vj [] e.a false e.a);rfl
  rw [e0];obtain ⟨q1,q2⟩:=w9j f (e::r) 0 0 e.a [] hE ht (fun g hg=>by
   rcases AE.1 hg with rfl | hg
   ·exact AU _
   ·exact hr.1 g hg) .nil (by simp)
  refine ⟨q1,fun y=> ?_⟩;rw [q2,Int.zero_add,Int.zero_add,(hd y).1,(hd y).2];constructor
  ·rintro (⟨s,hs,_⟩ | ⟨_,h2,_⟩)
   ·cases hs
   ·exact h2
  ·intro hy;obtain ⟨g,hg,h1,k,hk,h2⟩:=cover y hy;refine .inr ⟨?_,hy,g,hg,h1⟩;rcases AE.1 hk with rfl | hk
   ·exact h2
   ·have h3:e.a≤k.a:=hr.1 k hk;omega
def tri :Nat→Nat
 | 0=>0
 | k+1=>tri k+k
theorem w9h : ∀n,tri (n+1)+tri n=n*n
 | 0=>rfl
 | n+1=>by have:=w9h n;show tri (n+1)+(n+1)+(tri n+n)=(n+1)*(n+1);rw [AQ,Nat.mul_add];omega
def hat (n:Nat):Nat→Nat
 | 0=>0
 | v+1=>hat n v+min v (2*n - v)
theorem v3n (n:Nat): ∀v,v≤n+1→hat n v=tri v
 | 0,_=>rfl
 | v+1,h=>by show hat n v+min v (2*n - v)=tri v+v;rw [v3n n v (by omega)];omega
theorem y3l (n:Nat): ∀j,j≤n→hat n (n+1+j)+tri (n - j)=n*n
 | 0,_=>by rw [A5,v3n n _ (Ao _)];exact w9h n
 | j+1,h=>by
  have:=y3l n j (by omega);show hat n (n+1+j)+min (n+1+j) (2*n - (n+1+j))+tri (n - (j+1))=_;have e:tri (n - j)=tri (n - (j+1))+(n - (j+1)):=by rw [show n - j=(n - (j+1))+1 by omega];rfl
  omega
theorem hat_le (n v:Nat):hat n v≤n*n:=by
 by_cases h1:v≤2*n+1
 ·by_cases h2:v≤n+1
  ·have h3:=y3l n 0 (AA _);have mono: ∀k v,hat n v≤hat n (v+k):=fun k v=>by
    induction k with
    | zero=>exact Ao _
    | succ k ih=>exact AL ih (BI _ _)
   have:=mono (n+1 - v) v;rw [show v+(n+1 - v)=n+1+0 by omega] at this;omega
  ·have:=y3l n (v - (n+1)) (by omega);rw [show n+1+(v - (n+1))=v by omega] at this;omega
 ·have h3:hat n (2*n+1)≤n*n:=by have:=y3l n n (Ao _);rw [show n+1+n=2*n+1 by omega] at this;omega
  have: ∀k,hat n (2*n+1+k)=hat n (2*n+1):=fun k=>by
   induction k with
   | zero=>rfl
   | succ k ih=>show hat n (2*n+1+k)+min (2*n+1+k) (2*n - (2*n+1+k))=_;rw [ih];omega
  have h4:=this (v - (2*n+1));rw [show 2*n+1+(v - (2*n+1))=v by omega] at h4;omega
theorem w3j (n:Nat) (E:Nat→Nat): ∀k,(∀i,i+1<k→E i<E (i+1))→((List.range k).map fun i=>min (E i) (2*n - E i)).sum ≤(match k with | 0=>0 | k+1=>hat n (E k+1))
 | 0,_=>Ao _
 | k+1,h=>by
  rw [Cn,By,List.sum_append];have ih:=w3j n E k fun i hi=>h i (by omega);have mono: ∀k v,hat n v≤hat n (v+k):=fun k v=>by
   induction k with
   | zero=>exact Ao _
   | succ k ih=>exact AL ih (BI _ _)
  simp only [A4,Bb,Cl,List.sum_nil,A5];show _≤hat n (E k)+min (E k) (2*n - E k);cases k with
  | zero=>simp only [List.range_zero,Bb,List.sum_nil];omega
  | succ k=>have h1:=h k (by omega);have h2:=mono (E (k+1) - (E k+1)) (E k+1);rw [show E k+1+(E (k+1) - (E k+1))=E (k+1) by omega] at h2;simp only at ih;omega
def x5p (p:Int→Bool) (l:List Int):Nat:=(l.filter p).length
theorem z2j (p:Int→Bool) (x:Int) (l:List Int):x5p p (x::l)=(if p x=true then 1 else 0)+x5p p l:=by
 unfold x5p;rw [Br];split
 ·simp;omega
 ·simp
theorem j4l (p:Int→Bool) (l:List Int):x5p p l≤l.length:=BS _ _
theorem v5c {p q:Int→Bool} (h: ∀x,p x=true→q x=true) (l:List Int):x5p p l≤x5p q l:=by
 induction l with
 | nil=>exact Ao _
 | cons x l ih=>
  rw [z2j,z2j];by_cases h1:p x=true
  ·rw [AB h1,AB (h x h1)];omega
  ·rw [Aw h1];omega
theorem j4k {p q:Int→Bool} (h: ∀x,p x=true→q x=true) {l:List Int} {y:Int} (hy:y∈l) (hq:q y=true) (hp:p y=false):x5p p l<x5p q l:=by
 induction l with
 | nil=>cases hy
 | cons x l ih=>
  rw [z2j,z2j];rcases AE.1 hy with rfl | hy
  ·have:=v5c h l;rw [hp,hq];simp;omega
  ·have:=ih hy;by_cases h1:p x=true
   ·rw [AB h1,AB (h x h1)];omega
   ·rw [Aw h1];omega
namespace Dim
variable {α β:Type} {D:Dim α β}
theorem inn_min (l:List α) (x:Int) (hv: ∀r∈l,D.lo r<D.hi r):(D.inn l x).length ≤min (x5p (fun y=>decide (y≤x)) (D.ends l)) (2*l.length - x5p (fun y=>decide (y≤x)) (D.ends l)):=by
 induction l with
 | nil=>exact AA _
 | cons r l ih=>
  have ih:=ih fun s hs=>hv s (by simp [hs]);have hr:=hv r (by simp);have hc:=j4l (fun y=>decide (y≤x)) (D.ends l);rw [D.ends_length] at hc;have e:x5p (fun y=>decide (y≤x)) (D.ends (r::l))=(if D.lo r≤x then 1 else 0)+((if D.hi r≤x then 1 else 0)+x5p (fun y=>decide (y≤x)) (D.ends l)):=by show x5p _ (D.lo r::D.hi r::D.ends l)=_;rw [z2j,z2j];simp only [As]
  have e2:(D.inn (r::l) x).length =(if D.lo r≤x∧x<D.hi r then 1 else 0)+(D.inn l x).length :=by
   unfold inn;rw [Br];by_cases h:D.lo r≤x∧x<D.hi r
   ·rw [AB (by simp [h.1,h.2]),AB h];simp;omega
   ·rw [Aw (by simp;intro h1;exact Int.not_lt.1 fun h2=>h ⟨h1,h2⟩),Aw h,Ag]
  rw [e,e2,AW];by_cases h1:D.lo r≤x <;> by_cases h2:D.hi r≤x
  ·rw [AB h1,AB h2,Aw (by omega)];omega
  ·rw [AB h1,Aw h2,AB (by omega)];omega
  ·omega
  ·rw [Aw h1,Aw h2,Aw (by omega)];omega
theorem open_sum (l:List α) (hv: ∀r∈l,D.lo r<D.hi r): ∀k,k≤(D.cuts l).length →((List.range k).map fun i=>(D.inn l (rd (D.cuts l) i)).length).sum ≤l.length*l.length:=fun k hk=>by
 have hc:(D.cuts l).Pairwise (· < ·):=by show (Kz (D.ends l)).Pairwise (· < ·);rw [Jv];exact (Ye _).1
 have hm: ∀i,i<(D.cuts l).length →rd (D.cuts l) i∈D.ends l:=fun i hi=>by
  have:rd (D.cuts l) i∈Kz (D.ends l):=by rw [Yo hi];exact AR hi
  rw [Jv,(Ye _).2] at this;exact this
 have h1:((List.range k).map fun i=>(D.inn l (rd (D.cuts l) i)).length).sum ≤((List.range k).map fun i=>min (x5p (fun y=>decide (y≤rd (D.cuts l) i)) (D.ends l)) (2*l.length - x5p (fun y=>decide (y≤rd (D.cuts l) i)) (D.ends l))).sum :=by
  induction k with
  | zero=>exact Ao _
  | succ k ih=>rw [Cn,By,By,List.sum_append,List.sum_append];have:=ih (by omega);have h2:=D.inn_min l (rd (D.cuts l) k) hv;simp only [A4,Bb,Cl,List.sum_nil];omega
 refine AL h1 ?_;have h2:=w3j l.length (fun i=>x5p (fun y=>decide (y≤rd (D.cuts l) i)) (D.ends l)) k fun i hi=>by have hlt:=z3v hc (show i<i+1 by omega) (show i+1<_ by omega);refine j4k (fun x hx=> ?_) (hm (i+1) (by omega)) (Ah (AU _)) (Ay (by omega));have:=AC hx;exact Ah (by omega)
 refine AL h2 ?_;cases k with
 | zero=>exact AA _
 | succ k=>exact hat_le _ _
theorem goS_length (sec:Int→List β) (cs:List Int): ∀(k i:Nat) (s:Sw α β),(D.goS sec cs k i s).out.length ≤s.out.length+((List.range k).map fun j=>(sec (rd cs (i+j))).length).sum
 | 0,i,s=>Ao _
 | k+1,i,s=>by
  have h1:=goS_length sec cs k (i+1) (D.oneS (sec (rd cs i)) (rd cs i) (rd cs (i+1)) s);have h2:(D.oneS (sec (rd cs i)) (rd cs i) (rd cs (i+1)) s).out.length ≤s.out.length+(sec (rd cs i)).length :=by
   unfold oneS;cases (decide (0<(sec (rd cs i)).length)&&((s.fin == rd cs i)&&D.same s.last (sec (rd cs i)))) with
   | true=>rw [Ab,D.grow_length];omega
   | false=>rw [Aa];simp
  rw [List.range_succ_eq_map,A4,List.map_map,Cl,show rd cs (i+0)=rd cs i from rfl];have e:((fun j=>(sec (rd cs (i+j))).length)∘Nat.succ)=fun j=>(sec (rd cs (i+1+j))).length :=by
   funext j;simp only [Function.comp];rw [show i+j.succ=i+1+j by omega]
  rw [e];show (D.goS sec cs k (i+1) _).out.length ≤_;omega
theorem goJ_length (a b:List α) (J:List β→List β→List β) (hJ: ∀x,(J (D.inn a x) (D.inn b x)).length ≤(D.inn a x).length +(D.inn b x).length) (hv: ∀r∈a++b,D.lo r<D.hi r):
  (D.goS (fun x=>J (D.inn a x) (D.inn b x)) (D.cuts (a++b)) ((D.cuts (a++b)).length - 1) 0 ⟨[],[],0,0⟩).out.length ≤(a.length+b.length)*(a.length+b.length):=by
 have h1:=D.goS_length (fun x=>J (D.inn a x) (D.inn b x)) (D.cuts (a++b)) ((D.cuts (a++b)).length - 1) 0 ⟨[],[],0,0⟩;have h2:=D.open_sum (a++b) hv ((D.cuts (a++b)).length - 1) (Nat.sub_le _ _);rw [Ar] at h2;refine AL h1 (AL ?_ h2);simp only [Bq,Ag];generalize (D.cuts (a++b)).length - 1=k
 induction k with
 | zero=>exact Ao _
 | succ k ih=>rw [Cn,By,By,List.sum_append,List.sum_append];have:=hJ (rd (D.cuts (a++b)) k);simp only [A4,Bb,Cl,List.sum_nil];rw [D.inn_append,Ar];omega
end Dim
open Go.Proofs Go.Sort Go.Shelf Go.RowKit Go.Lib
def spJ (k:Nat) (a b:List R2):List R2:=sw2 (opB k) (z0w (Wq 0 a++Wq 1 b)) 0 0 0 false []
theorem z8r (i:Int) (l:List R2) (hv:l.all z1o=true):y1q (Wq i l)=true:=Au.2 fun e he=>by obtain ⟨s,hs,h1⟩:=AN.1 he;have hv:=Au.1 hv s hs;simp only [z1o,Ac,As] at hv;simp only [AE,Bc,BX] at h1;rcases h1 with rfl | rfl <;> exact Ah (by simp only;omega)
theorem w1n {l:List R2} (hv:l.all z1o=true): ∀s∈l,s.a<s.b:=fun s hs=>by have:=Au.1 hv s hs;simp only [z1o,Ac,As] at this;exact this.1
theorem x6i (k:Nat) {a b:List R2} (ha:a.all z1o=true) (hb:b.all z1o=true):z2q.can (spJ k a b)∧ ∀y,ptL z2q.inB (spJ k a b) y↔opB k (decide (pt a y)) (decide (pt b y))=true:=by
 have hbnd:y1q (Wq 0 a++Wq 1 b)=true:=by have h1:=z8r 0 a ha;have h2:=z8r 1 b hb;unfold y1q at*;rw [List.all_append,h1,h2];rfl
 obtain ⟨hp,_⟩:=Ks _ hbnd;exact u7u (opB k) (opB_ff k) a b (w1n ha) (w1n hb) _ hp (w1q _ hbnd)
theorem w2o : ∀(l S:List Int),l.Pairwise (· < ·)→(∀x∈l,x∈S)→l.length≤S.length
 | [],S,_,_=>AA _
 | x::l,S,h,hs=>by obtain ⟨h1,h2⟩:=AV.1 h;have hx:=hs x (by simp);have:=w2o l (S.erase x) h2 fun y hy=>(List.mem_erase_of_ne (by have:=h1 y hy;omega)).2 (hs y (by simp [hy]));rw [List.length_erase_of_mem hx] at this;have:=List.length_pos_of_mem hx;simp only [AW];omega
def y6d (L:List R2):List Int:=L.flatMap fun s=>[s.a,s.b]
theorem Qv (L:List R2):(y6d L).length =2*L.length:=by
 induction L with
 | nil=>rfl
 | cons r l ih=>show (_::_::y6d l).length =_;simp only [AW,ih];omega
theorem y6c {L:List R2} (h:Can L):(y6d L).Pairwise (· < ·):=by
 induction L with
 | nil=>exact .nil
 | cons s L ih=>
  have hp:=h.pos s (by simp);have hn: ∀y∈y6d L,s.b<y:=fun y hy=>by obtain ⟨t,ht,h1⟩:=AN.1 hy;have:=h.head t ht;have:=h.pos t (by simp [ht]);simp only [AE,Bc,BX] at h1;omega
  show (s.a::s.b::y6d L).Pairwise (· < ·);refine AV.2 ⟨fun y hy=> ?_,AV.2 ⟨hn,ih h.tail⟩⟩;rcases AE.1 hy with rfl | hy
  ·exact hp
  ·have:=hn y hy;omega
theorem w8e {L:List R2} (h:Can L) (S:List Int) (hS: ∀y,y ∉ S→(pt L (y - 1)↔pt L y)):2*L.length≤S.length:=by
 rw [←Qv];refine w2o _ S (y6c h) fun y hy=>AI fun hn=> ?_;obtain ⟨s,hs,h1⟩:=AN.1 hy;have hp:=h.pos s hs;have sepL: ∀t∈L,t=s∨t.b<s.a∨s.b<t.a:=fun t ht=>by
  obtain ⟨i,hi,ei⟩:=AZ hs;obtain ⟨j,hj,ej⟩:=AZ ht;have pw:=Bp.1 h.sep;rcases BC i j with q | q | q
  ·have:=pw i j hi hj q;rw [ei,ej] at this;exact .inr (.inr this)
  ·subst q;exact .inl (ej.symm.trans ei)
  ·have:=pw j i hj hi q;rw [ei,ej] at this;exact .inr (.inl this)
 simp only [AE,Bc,BX] at h1;rcases h1 with rfl | rfl
 ·obtain ⟨t,ht,t1,t2⟩:=(hS _ hn).2 ⟨s,hs,AU _,hp⟩;rcases sepL t ht with rfl | q | q <;> omega
 ·obtain ⟨t,ht,t1,t2⟩:=(hS _ hn).1 ⟨s,hs,by omega,by omega⟩;rcases sepL t ht with rfl | q | q <;> omega
theorem v1x {l:List R2} {y:Int} (h:y ∉ y6d l):pt l (y - 1)↔pt l y:=by
 constructor
 ·rintro ⟨s,hs,h1,h2⟩;refine ⟨s,hs,by omega,?_⟩;have:y≠s.b:=fun e=>h (AN.2 ⟨s,hs,by simp [e]⟩);omega
 ·rintro ⟨s,hs,h1,h2⟩;refine ⟨s,hs,?_,by omega⟩;have:y≠s.a:=fun e=>h (AN.2 ⟨s,hs,by simp [e]⟩);omega
theorem z4y (k:Nat) {a b:List R2} (ha:a.all z1o=true) (hb:b.all z1o=true):(spJ k a b).length ≤a.length+b.length:=by
 obtain ⟨h1,h2⟩:=x6i k ha hb;have:=w8e h1 (y6d a++y6d b) fun y hy=>by rw [AF,not_or] at hy;have e1:decide (pt a (y - 1))=decide (pt a y):=Bu.2 (v1x hy.1);have e2:decide (pt b (y - 1))=decide (pt b y):=Bu.2 (v1x hy.2);have q1:pt (spJ k a b) (y - 1)↔_:=h2 (y - 1);have q2:pt (spJ k a b) y↔_:=h2 y;rw [q1,q2,e1,e2]
 rw [Ar,Qv,Qv] at this;omega
def rgJ (k:Nat) (a b:List R4):List R4:=(D4.goS (fun x=>spJ k (D4.inn a x) (D4.inn b x)) (D4.cuts (a++b)) ((D4.cuts (a++b)).length - 1) 0 ⟨[],[],0,0⟩).out
theorem u8a (k:Nat):spJ k [] []=[]:=by have:=z4y k (a:=[]) (b:=[]) rfl rfl;exact List.eq_nil_of_length_eq_zero (by simpa using this)
instance ptDec4 (l:List R4) (p:Int×Int):Decidable (ptL Xa.inB l p):=Classical.propDecidable _
theorem z6o (l:List R4) (x y:Int):pt (D4.inn l x) y↔ptL Xa.inB l (x,y):=Dim.pt_inn (D:=D4) z2q.inB l x y
theorem z1k (k:Nat) {a b:List R4} (ha: ∀r∈a,Vo r=true) (hb: ∀r∈b,Vo r=true):
  Xa.can (rgJ k a b)∧(∀p,ptL Xa.inB (rgJ k a b) p↔opB k (decide (ptL Xa.inB a p)) (decide (ptL Xa.inB b p))=true)∧(rgJ k a b).length ≤(a.length+b.length)*(a.length+b.length):=by
 have hs: ∀x,z2q.can (spJ k (D4.inn a x) (D4.inn b x))∧ ∀y,ptL z2q.inB (spJ k (D4.inn a x) (D4.inn b x)) y↔opB k (decide (pt (D4.inn a x) y)) (decide (pt (D4.inn b x) y))=true:=fun x=>x6i k (Uo ha x) (Uo hb x);obtain ⟨h1,h2⟩:=Dim.goJ_can z1n z7h z2q a b (spJ k) (fun x=>(hs x).1) (u8a k);refine ⟨h1,fun ⟨x,y⟩=> ?_,?_⟩
 ·rw [show ptL Xa.inB (rgJ k a b) (x,y)↔_ from h2 x y,(hs x).2];have e1:decide (pt (D4.inn a x) y)=decide (ptL Xa.inB a (x,y)):=Bu.2 (z6o a x y);have e2:decide (pt (D4.inn b x) y)=decide (ptL Xa.inB b (x,y)):=Bu.2 (z6o b x y);rw [e1,e2]
 ·refine Dim.goJ_length a b (spJ k) (fun x=>z4y k (Uo ha x) (Uo hb x)) fun r hr=> ?_;have hv:Vo r=true:=by
   rcases AF.1 hr with h | h
   ·exact ha r h
   ·exact hb r h
  simp only [Vo,Ac,As] at hv;exact hv.1
open Go.Proofs.Tryz
inductive schS where
 | h0 (v10:Int)
def schC (l0:List R2):schS→Cfg
 | .h0 v10=>⟨⟨34,0,true⟩,none,(Zb prog 191 [1,1,0,1,0,0] 0),none,(Zy prog 3),⟨Yg [(0,(.dat l0.length (Zz l0))),(8,(.dat l0.length (Zz l0))),(9,(ii (l0.length:Int))),(10,(ii v10))],Wh [] 0,0,[],true⟩,[],.leaf⟩
def u8r :List (Option (List Nat)):=[some [0,8,9,10]]
def u8s :List (Option (List Nat)):=[]
def z4a (l0:List R2):schS→Xv schS
 | .h0 v10=>(bif (decide (v10<(l0.length:Int))) then (bif ((decide (0≤v10∧v10<(l0.length:Int)))&&true) then (bif (decide ((rd l0 v10.toNat).a <(rd l0 v10.toNat).b)) then (bif (decide ((rd l0 v10.toNat).a ≥(-1000000))) then (bif (!(decide ((rd l0 v10.toNat).b ≤1000000))) then (.ret [(.int .i64 8)]) else (bif (decide (v10>0)) then (bif ((decide (0≤(wrap .i64 (v10 - 1))∧(wrap .i64 (v10 - 1))<(l0.length:Int)))&&true) then (bif (decide ((rd l0 (Int.toNat (wrap .i64 (v10 - 1)))).b ≥(rd l0 v10.toNat).a)) then (.ret [(.int .i64 8)]) else (.to (.h0 (wrap .i64 (v10+1))))) else .stuck) else (.to (.h0 (wrap .i64 (v10+1)))))) else (.ret [(.int .i64 8)])) else (.ret [(.int .i64 8)])) else .stuck) else (.ret [(.int .i64 0)]))
def y2h (l0:List R2):Xv schS:=(bif (decide ((l0.length:Int)>400)) then (.ret [(.int .i64 4)]) else (.to (.h0 0)))
theorem w5b (l0:List R2): ∀s,Yt prog (Zy prog 191) (schC l0) (schC l0 s) (z4a l0 s)
 | .h0 v10=>(lb (fun k0=>(lo fun aG=>(lb (fun k1=>(lb (fun k2=>(lb (fun k3=>(lr 34 191 [1,1,0,1,0,0,1,1,0,0,1,1,0,0] 1 3 [(2,(ii 8))] (sl z5q 25 [] ⟨[],[],[some [2]],[]⟩ ⟨[],[],[]⟩ (trs 12 []) (tt k3 (tt k2 (tt k1 (ww aG (tt k0 nn)))))))) (fun k3=>(lb (fun k4=>(lo fun cN=>(lb (fun k5=>(lr 34 191 [1,1,0,1,0,0,1,1,0,0,1,1,0,0] 1 3 [(2,(ii 8))] (sl z5q 25 [] ⟨[],[],[some [2]],[]⟩ ⟨[],[],[]⟩ (trs 7 (bl 14 12280)) (tt k5 (ww cN (tt k4 (tt k3 (tt k2 (tt k1 (ww aG (tt k0 nn))))))))))) (fun k5=>(sl z5q 28 [] ⟨[],[],u8r,u8s⟩ ⟨[],[],[]⟩ (trs 7 (bl 14 4088)) (tt k5 (ww cN (tt k4 (tt k3 (tt k2 (tt k1 (ww aG (tt k0 nn))))))))))))) (fun k4=>(sl z5q 28 [] ⟨[],[],u8r,u8s⟩ ⟨[],[],[]⟩ (trs 7 (bl 14 0)) (tt k4 (tt k3 (tt k2 (tt k1 (ww aG (tt k0 nn)))))))))))) (fun k2=>(lr 34 191 [1,1,0,1,0,0,1,1,0,0,1,1,0,0] 1 3 [(2,(ii 8))] (sl z5q 25 [] ⟨[],[],[some [2]],[]⟩ ⟨[],[],[]⟩ (trs 4 (bl 8 248)) (tt k2 (tt k1 (ww aG (tt k0 nn))))))))) (fun k1=>(lr 34 191 [1,1,0,1,0,0,1,1,0,0,1,1,0,0] 1 3 [(2,(ii 8))] (sl z5q 25 [] ⟨[],[],[some [2]],[]⟩ ⟨[],[],[]⟩ (bl 12 3969) (tt k1 (ww aG (tt k0 nn))))))))) (fun k0=>(lr 34 3 [1,1,1,1,1,1,1,0] 1 3 [(2,(ii 0))] (sl z5q 11 [] ⟨[],[],[some [2]],[]⟩ ⟨[],[],[]⟩ [false] (tt k0 nn)))))
theorem x6q (l0:List R2):Yt prog (Zy prog 191) (schC l0) (Za prog 191 [(.dat l0.length (Zz l0))] true []) (y2h l0):=(lb (fun k0=>(lr 34 191 [1,0,1,0,0] 1 3 [(2,(ii 4))] (sl z5q 16 [] ⟨[],[],[some [2]],[]⟩ ⟨[],[],[]⟩ [true] (tt k0 nn)))) (fun k0=>(sl z5q 22 [] ⟨[],[],u8r,u8s⟩ ⟨[],[],[]⟩ [false] (tt k0 nn))))
theorem v7h (l0:List R2) (n:Nat) (vs:List AVal) (h:Zs (z4a l0) n (y2h l0)=.ret vs):Jy prog (Zy prog 191) (Za prog 191 [(.dat l0.length (Zz l0))] true []) vs:=by have:=Zd (w5b l0) n _ (x6q l0);rwa [h] at this
inductive cuS where
def cuC (x0:Bool) (x1:Bool):cuS→Cfg
 :=nofun
def v4z (x0:Bool) (x1:Bool):cuS→Xv cuS
 :=nofun
def w0k (x0:Bool) (x1:Bool):Xv cuS:=(bif x0 then (.ret [(.bool true)]) else (.ret [(.bool x1)]))
theorem v4y (x0:Bool) (x1:Bool): ∀s,Yt prog (Zy prog 164) (cuC x0 x1) (cuC x0 x1 s) (v4z x0 x1 s)
 :=nofun
theorem w7y (x0:Bool) (x1:Bool):Yt prog (Zy prog 164) (cuC x0 x1) (Za prog 164 [(.bool x0),(.bool x1)] true []) (w0k x0 x1):=(lb (fun k0=>(lr 9 3 [1,1,1,1,1,1,1,0] 1 5 [(4,(.bool true))] (sl z5q 12 [] ⟨[],[],[some [4]],[]⟩ ⟨[],[],[]⟩ [true] (tt k0 nn)))) (fun k0=>(lr 9 3 [1,1,1,1,1,1,1,0] 1 5 [(4,(.bool x1))] (sl z5q 12 [] ⟨[],[],[some [4]],[]⟩ ⟨[],[],[]⟩ [false] (tt k0 nn)))))
theorem j4g (x0:Bool) (x1:Bool) (n:Nat) (vs:List AVal) (h:Zs (v4z x0 x1) n (w0k x0 x1)=.ret vs):Jy prog (Zy prog 164) (Za prog 164 [(.bool x0),(.bool x1)] true []) vs:=by have:=Zd (v4y x0 x1) n _ (w7y x0 x1);rwa [h] at this
inductive ceS where
def ceC (x0:Bool) (x1:Bool):ceS→Cfg
 :=nofun
def v5f (x0:Bool) (x1:Bool):ceS→Xv ceS
 :=nofun
def w0r (x0:Bool) (x1:Bool):Xv ceS:=(bif x0 then (.ret [(.bool x1)]) else (.ret [(.bool false)]))
theorem v5e (x0:Bool) (x1:Bool): ∀s,Yt prog (Zy prog 170) (ceC x0 x1) (ceC x0 x1 s) (v5f x0 x1 s)
 :=nofun
theorem w8c (x0:Bool) (x1:Bool):Yt prog (Zy prog 170) (ceC x0 x1) (Za prog 170 [(.bool x0),(.bool x1)] true []) (w0r x0 x1):=(lb (fun k0=>(lr 9 3 [1,1,1,1,1,1,1,0] 1 5 [(4,(.bool x1))] (sl z5q 12 [] ⟨[],[],[some [4]],[]⟩ ⟨[],[],[]⟩ [true] (tt k0 nn)))) (fun k0=>(lr 9 3 [1,1,1,1,1,1,1,0] 1 5 [(4,(.bool false))] (sl z5q 12 [] ⟨[],[],[some [4]],[]⟩ ⟨[],[],[]⟩ [false] (tt k0 nn)))))
theorem j4r (x0:Bool) (x1:Bool) (n:Nat) (vs:List AVal) (h:Zs (v5f x0 x1) n (w0r x0 x1)=.ret vs):Jy prog (Zy prog 170) (Za prog 170 [(.bool x0),(.bool x1)] true []) vs:=by have:=Zd (v5e x0 x1) n _ (w8c x0 x1);rwa [h] at this
inductive cdS where
def cdC (x0:Bool) (x1:Bool):cdS→Cfg
 :=nofun
def v5h (x0:Bool) (x1:Bool):cdS→Xv cdS
 :=nofun
def w0t (x0:Bool) (x1:Bool):Xv cdS:=(bif x0 then (.ret [(.bool (!x1))]) else (.ret [(.bool false)]))
theorem v5g (x0:Bool) (x1:Bool): ∀s,Yt prog (Zy prog 163) (cdC x0 x1) (cdC x0 x1 s) (v5h x0 x1 s)
 :=nofun
theorem w8d (x0:Bool) (x1:Bool):Yt prog (Zy prog 163) (cdC x0 x1) (Za prog 163 [(.bool x0),(.bool x1)] true []) (w0t x0 x1):=(lb (fun k0=>(lr 10 3 [1,1,1,1,1,1,1,0] 1 5 [(4,(.bool (!x1)))] (sl z5q 13 [] ⟨[],[],[some [4]],[]⟩ ⟨[],[],[]⟩ [true,true] (tt k0 nn)))) (fun k0=>(lr 10 3 [1,1,1,1,1,1,1,0] 1 5 [(4,(.bool false))] (sl z5q 13 [] ⟨[],[],[some [4]],[]⟩ ⟨[],[],[]⟩ [false,false] (tt k0 nn)))))
theorem j4s (x0:Bool) (x1:Bool) (n:Nat) (vs:List AVal) (h:Zs (v5h x0 x1) n (w0t x0 x1)=.ret vs):Jy prog (Zy prog 163) (Za prog 163 [(.bool x0),(.bool x1)] true []) vs:=by have:=Zd (v5g x0 x1) n _ (w8d x0 x1);rwa [h] at this
def w4v (l:List R2) (i:Nat):Bool:=z1o (rd l i)&&(decide (i=0)||decide ((rd l (i - 1)).b <(rd l i).a))
def y8b (l:List R2):Int:=bif decide (400<l.length) then 4 else bif (List.range l.length).all (w4v l) then 0 else 8
def z4b (l:List R2):Bool:=true
theorem u3g (l:List R2) (hl:l.length≤400): ∀(k i:Nat),i+k=l.length→(∀j,j<i→w4v l j=true)→ ∃n,Zs (z4a l) n (.to (.h0 (i:Int)))=.ret [.int .i64 (bif (List.range l.length).all (w4v l) then 0 else 8)]
 | 0,i,h,ht=>by have hv:(List.range l.length).all (w4v l)=true:=Au.2 fun j hj=>ht j (by have:=A2.1 hj;omega);refine ⟨1,?_⟩;rw [Zv,hv];simp (disch:=omega) only [z4a,Yz,Ab,Aa,Zp]
 | k +1,i,h,ht=>by
  have hi:i<l.length:=by omega
  have hlt:decide ((i:Int)<(l.length:Int))=true:=Ah (by omega);have hin:decide (0≤(i:Int)∧(i:Int)<(l.length:Int))=true:=Ah (by omega);have step:z4a l (.h0 (i:Int))=bif w4v l i then .to (.h0 ((i+1:Nat):Int)) else .ret [.int .i64 8]:=by
   unfold w4v z1o;by_cases hi0:i=0
   ·have g1:decide ((i:Int)>0)=false:=Ay (by omega);rw [Ah hi0];simp (disch:=omega) only [z4a,hlt,hin,g1,Zk,Zx,Zj,y0h,z6z,BW,Ai,Ab,Aa]
   ·have g1:decide ((i:Int)>0)=true:=Ah (by omega);have g2:wrap .i64 ((i:Int) - 1)=((i - 1:Nat):Int):=by rw [Zk (by omega)];omega
    have g3:decide (0≤((i - 1:Nat):Int)∧((i - 1:Nat):Int)<(l.length:Int))=true:=Ah (by omega);have g4:decide ((rd l (i - 1)).b ≥(rd l i).a)= !decide ((rd l (i - 1)).b <(rd l i).a):=by
     by_cases q:(rd l (i - 1)).b <(rd l i).a
     ·rw [Ah q,Ay (by omega)];rfl
     ·rw [Ay q,Ah (by omega)];rfl
    rw [Ay hi0];simp (disch:=omega) only [z4a,hlt,hin,g1,g2,g3,g4,Zk,Zx,Zj,y0h,z6z,BF,Ai,Ab,Aa]
  rcases Yd (w4v l i) with q | q
  ·obtain ⟨n,hn⟩:=u3g l hl k (i+1) (by omega) (fun j hj=>by
    rcases A1 (B8 hj) with rfl | hj
    ·exact q
    ·exact ht j hj)
   refine ⟨n+1,?_⟩;rw [Zv,step,q,Ab];exact hn
  ·have hv:(List.range l.length).all (w4v l)=false:=A8.2 fun e=>by have:=Au.1 e i (A2.2 hi);rw [q] at this;cases this
   refine ⟨1,?_⟩;rw [Zv,step,q,hv,Aa,Zp];rfl
theorem u8q (l:List R2) (h:z4b l=true): ∃n,Zs (z4a l) n (y2h l)=.ret [.int .i64 (y8b l)]:=by
 unfold y2h y8b;by_cases h:400<l.length
 ·refine ⟨0,?_⟩;rw [Ah h,Yn (show (l.length:Int)>400 by omega)];rfl
 ·obtain ⟨n,hn⟩:=u3g l (by omega) l.length 0 (Ag _) (fun j hj=>absurd hj (AO _));refine ⟨n,?_⟩;rw [Ay h,Xm (show¬(l.length:Int)>400 by omega),Aa,Aa];exact hn
inductive Op where
 | u | e | d
abbrev Op.k :Op→Nat
 | .u =>0
 | .e =>1
 | .d =>2
abbrev nC :Op→Nat
 | .u =>nSpU1
 | .e =>nSpE1
 | .d =>nSpD1
abbrev nSp :Op→Nat
 | .u =>nSpU
 | .e =>nSpE
 | .d =>nSpD
abbrev nRg :Op→Nat
 | .u =>nRgU
 | .e =>nRgE
 | .d =>nRgD
def cV (q:Op) (a b:Bool):Bool:=opB q.k a b
theorem cu_run (a b:Bool): ∃N,Zs (v4z a b) N (w0k a b)=.ret [.bool (cV .u a b)]:=⟨0,by cases a <;> cases b <;> rfl⟩
theorem ce_run (a b:Bool): ∃N,Zs (v5f a b) N (w0r a b)=.ret [.bool (cV .e a b)]:=⟨0,by cases a <;> cases b <;> rfl⟩
theorem cd_run (a b:Bool): ∃N,Zs (v5h a b) N (w0t a b)=.ret [.bool (cV .d a b)]:=⟨0,by cases a <;> cases b <;> rfl⟩
theorem x0h (l:List R2):y8b l=0↔l.length≤400∧l.all z1o=true∧Can l:=by
 unfold y8b;constructor
 ·intro h;by_cases h1:400<l.length
  ·rw [Ah h1] at h;cases h
  ·rw [Ay h1,Aa] at h;cases hq:(List.range l.length).all (w4v l) with
   | false=>rw [hq] at h;cases h
   | true=>
    have hq:=fun i hi=>Au.1 hq i (A2.2 hi);have hv: ∀i,i<l.length→z1o (rd l i)=true:=fun i hi=>by have:=hq i hi;unfold w4v at this;rw [Ac] at this;exact this.1
    have hp: ∀i,i<l.length→(rd l i).a <(rd l i).b :=fun i hi=>by have:=hv i hi;simp only [z1o,Ac,As] at this;exact this.1
    have hs: ∀i,i+1<l.length→(rd l i).b <(rd l (i+1)).a :=fun i hi=>by
     have:=hq (i+1) hi;unfold w4v at this;rw [Ac,Bo] at this;rcases this.2 with q | q
     ·have:=AC q;omega
     ·exact AC q
    refine ⟨by omega,Au.2 fun s hs=> ?_,⟨fun s hs=> ?_,?_⟩⟩
    ·obtain ⟨i,hi,rfl⟩:=AZ hs;rw [←Yo hi];exact hv i hi
    ·obtain ⟨i,hi,rfl⟩:=AZ hs;rw [←Yo hi];exact hp i hi
    ·refine Bp.2 fun i j hi hj hij=> ?_;rw [←Yo hi,←Yo hj];clear hi
     induction j with
     | zero=>omega
     | succ j ih=>
      have h1:=hs j hj;rcases A1 (B8 hij) with rfl | q
      ·exact h1
      ·have h2:=ih (by omega) q;have h3:=hp j (by omega);omega
 ·rintro ⟨h1,h2,h3⟩;rw [Ay (by omega),Aa];have:(List.range l.length).all (w4v l)=true:=Au.2 fun i hi=>by
   have hi:=A2.1 hi;unfold w4v;rw [Au.1 h2 (rd l i) (by rw [Yo hi];exact AR hi),Al,Bo];by_cases h0:i=0
   ·exact .inl (Ah h0)
   ·refine .inr (Ah ?_);have:=Bp.1 h3.sep (i - 1) i (by omega) hi (by omega);rwa [←Yo,←Yo] at this
  rw [this];rfl
def fSch :List AVal→Option (AVal×Bool)
 | [a0]=>match asL R2 a0 with
  | some (L0,g0,n0)=>some (.int .i64 (y8b L0),isT R2 n0 g0&&(z4b L0))
  | _=>none
 | _=>none
theorem j2n {S:Specs} (hS:Zu prog S):Zu prog (S.with w2q fSch):=by
 refine z0l hS (by kernel_rfl) fun args v h=> ?_;unfold fSch at h;split at h
 ·rename_i a0;split at h
  ·rename_i L0 g0 n0 e0;simp only [Ae,Ad,Ac] at h;obtain ⟨rfl,ho0,hw⟩:=h;obtain ⟨N,hN⟩:=u8q L0 hw;exact ⟨_,_,(.cons (asL_le e0 ho0) .nil),rfl,v7h L0 N _ hN,3,rfl⟩
  ·cases h
 ·cases h
def fCu :List AVal→Option (AVal×Bool)
 | [.bool b0,.bool b1]=>some (.bool (cV .u b0 b1),true)
 | _=>none
theorem fCu_ok {S:Specs} (hS:Zu prog S):Zu prog (S.with (nC .u) fCu):=by
 refine z0l hS (by kernel_rfl) fun args v h=> ?_;unfold fCu at h;split at h
 ·rename_i b0 b1;simp only [Ae,Ad,Cg] at h;subst h;obtain ⟨N,hN⟩:=cu_run b0 b1;exact ⟨_,_,(.cons (.refl _) (.cons (.refl _) .nil)),rfl,j4g b0 b1 N _ hN,3,rfl⟩
 ·cases h
def fCe :List AVal→Option (AVal×Bool)
 | [.bool b0,.bool b1]=>some (.bool (cV .e b0 b1),true)
 | _=>none
theorem fCe_ok {S:Specs} (hS:Zu prog S):Zu prog (S.with (nC .e) fCe):=by
 refine z0l hS (by kernel_rfl) fun args v h=> ?_;unfold fCe at h;split at h
 ·rename_i b0 b1;simp only [Ae,Ad,Cg] at h;subst h;obtain ⟨N,hN⟩:=ce_run b0 b1;exact ⟨_,_,(.cons (.refl _) (.cons (.refl _) .nil)),rfl,j4r b0 b1 N _ hN,3,rfl⟩
 ·cases h
def fCd :List AVal→Option (AVal×Bool)
 | [.bool b0,.bool b1]=>some (.bool (cV .d b0 b1),true)
 | _=>none
theorem fCd_ok {S:Specs} (hS:Zu prog S):Zu prog (S.with (nC .d) fCd):=by
 refine z0l hS (by kernel_rfl) fun args v h=> ?_;unfold fCd at h;split at h
 ·rename_i b0 b1;simp only [Ae,Ad,Cg] at h;subst h;obtain ⟨N,hN⟩:=cd_run b0 b1;exact ⟨_,_,(.cons (.refl _) (.cons (.refl _) .nil)),rfl,j4s b0 b1 N _ hN,3,rfl⟩
 ·cases h
def Ua :Specs:=((((T9.with w2q fSch).with (nC .u) fCu).with (nC .e) fCe).with (nC .d) fCd)
theorem z2k :Zu prog Ua:=(fCd_ok (fCe_ok (fCu_ok (j2n z5q))))
inductive spjS where
 | h0 (v3:List R3) (v17:Int)
 | h1 (v3:List R3) (v17:Int)
 | h2 (v5:List R3) (v6:Int) (v7:Int) (aA:Int) (aI:Int) (aP:Int) (aF:Bool) (aC:List R2)
abbrev Vt (aC:List R2) (aP:Int) (v5:List R3) (v7:Int):=(aC++[(R2.mk aP (rd v5 (0+(tn v7))).a)])
def w9v (l0:List R2) (l1:List R2) (q:Op):AFr:=⟨⟨29,0,true⟩,(Uv prog 162 [1,1,1,0] 3),(Zb prog 162 [1,1,1,0] 1),none,(Zy prog 32),Yg [(21,(.dat l0.length (Zz l0))),(22,(.dat l1.length (Zz l1))),(23,(.fn (nC q) []))]⟩
abbrev y0v (aC:List R2) (aP:Int) (v5:List R3) (v7:Int):=(Ze (Zz aC) 0 aC.length 2 [(ii aP),(ii (rd v5 (0+(tn v7))).a)])
def w9u (q:Op) (l0:List R2) (l1:List R2):AFr:=⟨⟨11,0,true⟩,(Uv prog (nSp q) [1,0] 2),(Zb prog (nSp q) [1,0] 1),none,(Zy prog 28),Yg [(6,(.dat l0.length (Zz l0))),(7,(.dat l1.length (Zz l1)))]⟩
def u2o :AFr:=⟨⟨42,0,true⟩,(Uv prog 186 [1,1,1,1,1,0,0] 3),(Zb prog 186 [1,1,1,1,1,0,0] 1),none,(Zy prog 8),Yg [(5,(.ptr 1 0)),(6,.nils),(7,(.ptr 2 0)),(8,(.ptr 3 0)),(9,(.ptr 4 0)),(10,(.ptr 5 0)),(11,(.ptr 6 0)),(16,(.sl 0 0 2 (.un 1)))]⟩
abbrev y7q (v3:List R3) (l0:List R2) (v17:Int):=(v3++[(R3.mk (rd l0 (tn v17)).a 0 1),(R3.mk (rd l0 (tn v17)).b 0 (-1))])
abbrev y7p (v3:List R3) (l1:List R2) (v17:Int):=(v3++[(R3.mk (rd l1 (tn v17)).a 1 1),(R3.mk (rd l1 (tn v17)).b 1 (-1))])
def spjC (q:Op) (l0:List R2) (l1:List R2):spjS→Cfg
 | .h0 v3 v17=>⟨⟨38,0,true⟩,none,(Zb prog 197 [1,1,0,1,0,0,1,1,0,0,1,1,0,0] 0),none,(Zy prog 3),⟨Yg [(3,(.sla 7 3 0 v3.length (.un 3))),(4,(ii 0)),(8,(.sl 0 0 2 (.un 1))),(9,(ii 2)),(10,(ii 0)),(15,(.dat l0.length (Zz l0))),(16,(ii (l0.length:Int))),(17,(ii v17))],Wh [⟨[(.dat l0.length (Zz l0)),(.dat l1.length (Zz l1))],180,none⟩,⟨[(.fn (nC q) [])],213,none⟩,⟨[(ii 0),(ii 0)],142,none⟩,⟨[.nils],180,none⟩,⟨[(ii 0)],3,none⟩,⟨[(.bool false)],4,none⟩,⟨[(.fn 196 [(.ptr 5 0),(.ptr 4 0),(.ptr 3 0)])],242,none⟩,⟨Yx v3.length (Zz v3),246,some ⟨3,v3.length,(Zz v3)⟩⟩] 0,8,[],true⟩,[u2o,(w9v l0 l1 q),(w9u q l0 l1)],.leaf⟩
 | .h1 v3 v17=>⟨⟨38,0,true⟩,none,(Zb prog 197 [1,1,0,1,0,0,1,1,0,0,1,1,0,0] 0),none,(Zy prog 3),⟨Yg [(3,(.sla 7 3 0 v3.length (.un 3))),(4,(ii 1)),(8,(.sl 0 0 2 (.un 1))),(9,(ii 2)),(10,(ii 1)),(15,(.dat l1.length (Zz l1))),(16,(ii (l1.length:Int))),(17,(ii v17))],Wh [⟨[(.dat l0.length (Zz l0)),(.dat l1.length (Zz l1))],180,none⟩,⟨[(.fn (nC q) [])],213,none⟩,⟨[(ii 0),(ii 0)],142,none⟩,⟨[.nils],180,none⟩,⟨[(ii 0)],3,none⟩,⟨[(.bool false)],4,none⟩,⟨[(.fn 196 [(.ptr 5 0),(.ptr 4 0),(.ptr 3 0)])],242,none⟩,⟨Yx v3.length (Zz v3),246,some ⟨3,v3.length,(Zz v3)⟩⟩] 0,8,[],true⟩,[u2o,(w9v l0 l1 q),(w9u q l0 l1)],.leaf⟩
 | .h2 v5 v6 v7 aA aI aP aF aC=>⟨⟨16,0,true⟩,none,(Zb prog 205 [1,0,0] 0),none,[],⟨Yg [(0,(.yld 0)),(5,(.sla 7 3 0 v5.length (.un 3))),(6,(ii v6)),(7,(ii v7))],y1c [(1,⟨[(.fn (nC q) [])],213,none⟩),(2,⟨[(ii aA),(ii aI)],142,none⟩),(3,⟨[(ii aP)],3,none⟩),(4,⟨[(.bool aF)],4,none⟩),(5,⟨[(.fn 196 [(.ptr 4 0),(.ptr 3 0),(.ptr 6 0)])],242,none⟩),(6,⟨[(.sla 8 2 0 aC.length (.un 2))],180,none⟩),(7,⟨Yx v5.length (Zz v5),246,some ⟨3,v5.length,(Zz v5)⟩⟩),(8,⟨Yx aC.length (Zz aC),183,some ⟨2,aC.length,(Zz aC)⟩⟩)],9,[],true⟩,[⟨⟨42,0,true⟩,none,(.inRangeFunc 0::(Zb prog 186 [1,1,1,1,1,0,1,0] 1)),none,(Zy prog 8),Yg [(6,.nils),(8,(.ptr 6 0))]⟩,(w9v l0 l1 q),(w9u q l0 l1)],(y7b [(0,⟨.ready,none,42,Yg [(5,(.ptr 1 0)),(7,(.ptr 2 0)),(9,(.ptr 3 0)),(10,(.ptr 4 0)),(11,(.ptr 5 0))],[18],(Vb prog 186 [1,1,1,1,1,0,1,0,0]),(Vb prog 186 [1,1,1,1,1,0,1,0,1])⟩)])⟩
def spjN0 :List (Option (List Nat)):=[some [3,4,8,9,10,15,16,17],some [5,6,7,8,9,10,11,16],some [21,22,23],some [6,7]]
def spjM0 :List (Option (List Nat)):=[]
def spjN1 :List (Option (List Nat)):=[some [3,4,8,9,10,15,16,17],some [5,6,7,8,9,10,11,16],some [21,22,23],some [6,7]]
def spjM1 :List (Option (List Nat)):=[]
def y4e :List (Option (List Nat)):=[some [0,5,6,7],some [6,8],some [21,22,23],some [6,7]]
def y4f :List (Option (List Nat)):=[some [5,7,9,10,11],none,none,none,none,none,none,none,none]
def Wm (q:Op) (l0:List R2) (l1:List R2):spjS→Xv spjS
 | .h0 v3 v17=>(bif (decide (v17<(l0.length:Int))) then (bif ((decide (0≤v17∧v17<(l0.length:Int)))&&true) then (bif (Nat.beq 3 3&&((decide (0+v3.length=v3.length))&&decide ((v3.length+2+1)*(24+1)≤Uw))) then (.to (.h0 (v3++[(R3.mk (rd l0 v17.toNat).a 0 1),(R3.mk (rd l0 v17.toNat).b 0 (-1))]) (wrap .i64 (v17+1)))) else .stuck) else .stuck) else (.to (.h1 v3 0)))
 | .h1 v3 v17=>(bif (decide (v17<(l1.length:Int))) then (bif ((decide (0≤v17∧v17<(l1.length:Int)))&&true) then (bif (Nat.beq 3 3&&((decide (0+v3.length=v3.length))&&decide ((v3.length+2+1)*(24+1)≤Uw))) then (.to (.h1 (v3++[(R3.mk (rd l1 v17.toNat).a 1 1),(R3.mk (rd l1 v17.toNat).b 1 (-1))]) (wrap .i64 (v17+1)))) else .stuck) else .stuck) else (bif (y1q (cvT v3)) then (bif (decide (v3.length<4611686018427387904)) then (bif (decide (v3.length=v3.length)) then (.to (.h2 (z0w (cvT v3)) (v3.length:Int) 0 0 0 0 false ([]:List R2))) else .stuck) else .stuck) else .stuck))
 | .h2 v5 v6 v7 aA aI aP aF aC=>(bif (decide (v7<v6)) then (bif ((decide (0≤v7∧v7<(v5.length:Int)))&&true) then (bif (decide ((0+v7.toNat)<v5.length)) then (bif (!aF) then (bif (decide ((rd v5 (0+v7.toNat)).b =Int.ofNat 0)) then (.to (.h2 v5 v6 (wrap .i64 (v7+1)) (wrap .i64 (aA+(rd v5 (0+v7.toNat)).c)) aI (rd v5 (0+v7.toNat)).a ((cV q) (decide ((wrap .i64 (aA+(rd v5 (0+v7.toNat)).c))>0)) (decide (aI>0))) aC)) else (bif (decide ((rd v5 (0+v7.toNat)).b =Int.ofNat 1)) then (.to (.h2 v5 v6 (wrap .i64 (v7+1)) aA (wrap .i64 (aI+(rd v5 (0+v7.toNat)).c)) (rd v5 (0+v7.toNat)).a ((cV q) (decide (aA>0)) (decide ((wrap .i64 (aI+(rd v5 (0+v7.toNat)).c))>0))) aC)) else .stuck)) else (bif (aP == (rd v5 (0+v7.toNat)).a) then (bif (decide ((rd v5 (0+v7.toNat)).b =Int.ofNat 0)) then (.to (.h2 v5 v6 (wrap .i64 (v7+1)) (wrap .i64 (aA+(rd v5 (0+v7.toNat)).c)) aI (rd v5 (0+v7.toNat)).a ((cV q) (decide ((wrap .i64 (aA+(rd v5 (0+v7.toNat)).c))>0)) (decide (aI>0))) aC)) else (bif (decide ((rd v5 (0+v7.toNat)).b =Int.ofNat 1)) then (.to (.h2 v5 v6 (wrap .i64 (v7+1)) aA (wrap .i64 (aI+(rd v5 (0+v7.toNat)).c)) (rd v5 (0+v7.toNat)).a ((cV q) (decide (aA>0)) (decide ((wrap .i64 (aI+(rd v5 (0+v7.toNat)).c))>0))) aC)) else .stuck)) else (bif (decide ((aC.length:Int)>0)) then (bif ((decide (0≤(wrap .i64 ((aC.length:Int) - 1))∧(wrap .i64 ((aC.length:Int) - 1))<(aC.length:Int)))&&true) then (bif (decide ((0+(Int.toNat (wrap .i64 ((aC.length:Int) - 1))))<aC.length)) then (bif ((rd aC (0+(Int.toNat (wrap .i64 ((aC.length:Int) - 1))))).b == aP) then (bif (decide ((rd v5 (0+v7.toNat)).b =Int.ofNat 0)) then (.to (.h2 v5 v6 (wrap .i64 (v7+1)) (wrap .i64 (aA+(rd v5 (0+v7.toNat)).c)) aI (rd v5 (0+v7.toNat)).a ((cV q) (decide ((wrap .i64 (aA+(rd v5 (0+v7.toNat)).c))>0)) (decide (aI>0))) (aC.set (0+(Int.toNat (wrap .i64 ((aC.length:Int) - 1)))) (R2.mk (rd aC (0+(Int.toNat (wrap .i64 ((aC.length:Int) - 1))))).a (rd v5 (0+v7.toNat)).a)))) else (bif (decide ((rd v5 (0+v7.toNat)).b =Int.ofNat 1)) then (.to (.h2 v5 v6 (wrap .i64 (v7+1)) aA (wrap .i64 (aI+(rd v5 (0+v7.toNat)).c)) (rd v5 (0+v7.toNat)).a ((cV q) (decide (aA>0)) (decide ((wrap .i64 (aI+(rd v5 (0+v7.toNat)).c))>0))) (aC.set (0+(Int.toNat (wrap .i64 ((aC.length:Int) - 1)))) (R2.mk (rd aC (0+(Int.toNat (wrap .i64 ((aC.length:Int) - 1))))).a (rd v5 (0+v7.toNat)).a)))) else .stuck)) else (bif (Nat.beq 2 2&&((decide (0+aC.length=aC.length))&&decide ((aC.length+1+1)*(16+1)≤Uw))) then (bif (decide ((rd v5 (0+v7.toNat)).b =Int.ofNat 0)) then (.to (.h2 v5 v6 (wrap .i64 (v7+1)) (wrap .i64 (aA+(rd v5 (0+v7.toNat)).c)) aI (rd v5 (0+v7.toNat)).a ((cV q) (decide ((wrap .i64 (aA+(rd v5 (0+v7.toNat)).c))>0)) (decide (aI>0))) (aC++[(R2.mk aP (rd v5 (0+v7.toNat)).a)]))) else (bif (decide ((rd v5 (0+v7.toNat)).b =Int.ofNat 1)) then (.to (.h2 v5 v6 (wrap .i64 (v7+1)) aA (wrap .i64 (aI+(rd v5 (0+v7.toNat)).c)) (rd v5 (0+v7.toNat)).a ((cV q) (decide (aA>0)) (decide ((wrap .i64 (aI+(rd v5 (0+v7.toNat)).c))>0))) (aC++[(R2.mk aP (rd v5 (0+v7.toNat)).a)]))) else .stuck)) else .stuck)) else .stuck) else .stuck) else (bif (Nat.beq 2 2&&((decide (0+aC.length=aC.length))&&decide ((aC.length+1+1)*(16+1)≤Uw))) then (bif (decide ((rd v5 (0+v7.toNat)).b =Int.ofNat 0)) then (.to (.h2 v5 v6 (wrap .i64 (v7+1)) (wrap .i64 (aA+(rd v5 (0+v7.toNat)).c)) aI (rd v5 (0+v7.toNat)).a ((cV q) (decide ((wrap .i64 (aA+(rd v5 (0+v7.toNat)).c))>0)) (decide (aI>0))) (aC++[(R2.mk aP (rd v5 (0+v7.toNat)).a)]))) else (bif (decide ((rd v5 (0+v7.toNat)).b =Int.ofNat 1)) then (.to (.h2 v5 v6 (wrap .i64 (v7+1)) aA (wrap .i64 (aI+(rd v5 (0+v7.toNat)).c)) (rd v5 (0+v7.toNat)).a ((cV q) (decide (aA>0)) (decide ((wrap .i64 (aI+(rd v5 (0+v7.toNat)).c))>0))) (aC++[(R2.mk aP (rd v5 (0+v7.toNat)).a)]))) else .stuck)) else .stuck)))) else .stuck) else .stuck) else (bif (decide ((aC.length:Int)>400)) then (.ret [.nils,(.int .i64 4)]) else (.ret [(.dat aC.length (Zz aC)),(.int .i64 0)])))
def y2e (q:Op) (l0:List R2) (l1:List R2):Xv spjS:=(bif (z4b (cvT l0)) then (bif ((y8b (cvT l0)) != 0) then (.ret [.nils,(.int .i64 (y8b (cvT l0)))]) else (bif (z4b (cvT l1)) then (bif ((y8b (cvT l1)) != 0) then (.ret [.nils,(.int .i64 (y8b (cvT l1)))]) else (.to (.h0 ([]:List R3) 0))) else .stuck)) else .stuck)
theorem w4t (q:Op) (l0:List R2) (l1:List R2): ∀s,Yt prog (Zy prog (nSp q)) (spjC q l0 l1) (spjC q l0 l1 s) (Wm q l0 l1 s):=by cases q <;> refine (?f: ∀q:Op,∀s,Yt prog (Zy prog (nSp q)) (spjC q l0 l1) (spjC q l0 l1 s) (Wm q l0 l1 s)) _ <;> exact fun q=>fun
 | .h0 v3 v17=>(lb (fun k0=>(lo fun o0=>(lo fun o1=>(sl z2k 36 [] ⟨[0,1,2,3,4,5,6,10],[],spjN0,spjM0⟩ ⟨[(3,.len (y7q v3 l0 v17).length)],(kpB 7 [.rowed 3 (y7q v3 l0 v17).length (Zz (y7q v3 l0 v17))]),[]⟩ [true] (pp (xL (v3.length+2) (y7q v3 l0 v17).length) (pp (xL (v3.length+2) (y7q v3 l0 v17).length) (pp (xS (v3.length+2) (Ze (Zz v3) 0 v3.length 3 [(ii (rd l0 (tn v17)).a),(ii 0),(ii 1),(ii (rd l0 (tn v17)).b),(ii 0),(ii (-1))]) (Zz (y7q v3 l0 v17))) (pp (pp (xF (Ze (Zz v3) 0 v3.length 3 [(ii (rd l0 (tn v17)).a),(ii 0),(ii 1),(ii (rd l0 (tn v17)).b),(ii 0),(ii (-1))])) nn) (ww o1 (ww o0 (tt k0 nn))))))))))) (fun k0=>(sl z2k 38 [] ⟨(List.range 8),[],spjN1,spjM1⟩ ⟨[],[],[]⟩ (bl 2 2) (pp (fl v3 nn) (tt k0 nn)))))
 | .h1 v3 v17=>(lb (fun k0=>(lo fun o0=>(lo fun o1=>(sl z2k 36 [] ⟨[0,1,2,3,4,5,6,10],[],spjN1,spjM1⟩ ⟨[(3,.len (y7p v3 l1 v17).length)],(kpB 7 [.rowed 3 (y7p v3 l1 v17).length (Zz (y7p v3 l1 v17))]),[]⟩ [true] (pp (xL (v3.length+2) (y7p v3 l1 v17).length) (pp (xL (v3.length+2) (y7p v3 l1 v17).length) (pp (xS (v3.length+2) (Ze (Zz v3) 0 v3.length 3 [(ii (rd l1 (tn v17)).a),(ii 1),(ii 1),(ii (rd l1 (tn v17)).b),(ii 1),(ii (-1))]) (Zz (y7p v3 l1 v17))) (pp (pp (xF (Ze (Zz v3) 0 v3.length 3 [(ii (rd l1 (tn v17)).a),(ii 1),(ii 1),(ii (rd l1 (tn v17)).b),(ii 1),(ii (-1))])) nn) (ww o1 (ww o0 (tt k0 nn))))))))))) (fun k0=>(lo fun o0=>(lo fun o1=>(lo fun o2=>(sl z2k 54 [(183,2,Zz ([]:List R2))] ⟨[9,1,2,4,5,6,3,7,10],[],y4e,y4f⟩ ⟨[(5,.len (z0w (cvT v3)).length)],(kpB 6 [.cells [.grow 8 2],.rowed 3 (z0w (cvT v3)).length (Zz (z0w (cvT v3))),.keep]),[]⟩ (bl 2 0) (pp (xL v3.length (z0w (cvT v3)).length (by first | exact z8h _ | exact Va rfl)) (pp (xL v3.length (z0w (cvT v3)).length (by first | exact z8h _ | exact Va rfl)) (pp (xS v3.length (Zz (z0w (cvT v3))) (Zz (z0w (cvT v3)))) (pp (fl (z0w (cvT v3)) (fl ([]:List R2) nn)) (pp (pp (xG (Nat.beq 3 3)) (pp (xG (Nat.beq 3 3)) (pp (xG (Nat.beq 0 0)) (pp (pp (xG (decide (v3.length=v3.length))) (pp (xr v3) (xG (decide (v3.length<4611686018427387904))))) (xG (y1q (cvT v3))))))) (tt k0 nn))))))))))))
 | .h2 v5 v6 v7 aA aI aP aF aC=>(lb (fun k0=>(lo fun aG=>(lo fun aU=>(lb (fun k1=>(lb (fun k2=>(sl z2k 62 [] ⟨(List.range 9),[],y4e,y4f⟩ ⟨[],[],[]⟩ (trs 5 (bl 3 0)) (pp (fl v5 (fl aC nn)) (ww k2 (tt k1 (ww aU (ww aG (tt k0 nn)))))))) (fun k2=>(lb (fun k3=>(sl z2k 62 [] ⟨(List.range 9),[],y4e,y4f⟩ ⟨[],[],[]⟩ (trs 6 (bl 4 2)) (pp (fl v5 (fl aC nn)) (ww k3 (tt k1 (ww aU (ww aG (tt k0 nn)))))))) (fun k3=>trivial))))) (fun k1=>(lb (fun k2=>(lb (fun k3=>(sl z2k 62 [] ⟨(List.range 9),[],y4e,y4f⟩ ⟨[],[],[]⟩ (bl 8 17) (pp (fl v5 (fl aC nn)) (ww k3 (tt k2 (tt k1 (ww aU (ww aG (tt k0 nn))))))))) (fun k3=>(lb (fun k4=>(sl z2k 62 [] ⟨(List.range 9),[],y4e,y4f⟩ ⟨[],[],[]⟩ (bl 10 177) (pp (fl v5 (fl aC nn)) (ww k4 (tt k2 (tt k1 (ww aU (ww aG (tt k0 nn))))))))) (fun k4=>trivial))))) (fun k2=>(lb (fun k3=>(lo fun bX=>(lo fun cM=>(lb (fun k4=>(lb (fun k5=>(sl z2k 81 [] ⟨(List.range 9),[],y4e,y4f⟩ ⟨[],(kpB 6 [.cells [.len (aC.set (0+(tn (wr ((aC.length:Int) - 1)))) (R2.mk (rd aC (0+(tn (wr ((aC.length:Int) - 1))))).a (rd v5 (0+(tn v7))).a)).length],.keep,.rowed 2 (aC.set (0+(tn (wr ((aC.length:Int) - 1)))) (R2.mk (rd aC (0+(tn (wr ((aC.length:Int) - 1))))).a (rd v5 (0+(tn v7))).a)).length (Zz (aC.set (0+(tn (wr ((aC.length:Int) - 1)))) (R2.mk (rd aC (0+(tn (wr ((aC.length:Int) - 1))))).a (rd v5 (0+(tn v7))).a)))]),[]⟩ (bl 17 16353) (pp (xL aC.length (aC.set (0+(tn (wr ((aC.length:Int) - 1)))) (R2.mk (rd aC (0+(tn (wr ((aC.length:Int) - 1))))).a (rd v5 (0+(tn v7))).a)).length) (pp (xL aC.length (aC.set (0+(tn (wr ((aC.length:Int) - 1)))) (R2.mk (rd aC (0+(tn (wr ((aC.length:Int) - 1))))).a (rd v5 (0+(tn v7))).a)).length) (pp (xS aC.length (Xo (Zz aC) (0+(tn (wr ((aC.length:Int) - 1)))) 1 [(ii (rd v5 (0+(tn v7))).a)]) (Zz (aC.set (0+(tn (wr ((aC.length:Int) - 1)))) (R2.mk (rd aC (0+(tn (wr ((aC.length:Int) - 1))))).a (rd v5 (0+(tn v7))).a)))) (pp (fl v5 (pp (xF (Xo (Zz aC) (0+(tn (wr ((aC.length:Int) - 1)))) 1 [(ii (rd v5 (0+(tn v7))).a)])) nn)) (ww k5 (ww cM (ww bX (tt k4 (ww cM (ww bX (tt k3 (tt k2 (tt k1 (ww aU (ww aG (tt k0 nn)))))))))))))))))) (fun k5=>(lb (fun k6=>(sl z2k 81 [] ⟨(List.range 9),[],y4e,y4f⟩ ⟨[],(kpB 6 [.cells [.len (aC.set (0+(tn (wr ((aC.length:Int) - 1)))) (R2.mk (rd aC (0+(tn (wr ((aC.length:Int) - 1))))).a (rd v5 (0+(tn v7))).a)).length],.keep,.rowed 2 (aC.set (0+(tn (wr ((aC.length:Int) - 1)))) (R2.mk (rd aC (0+(tn (wr ((aC.length:Int) - 1))))).a (rd v5 (0+(tn v7))).a)).length (Zz (aC.set (0+(tn (wr ((aC.length:Int) - 1)))) (R2.mk (rd aC (0+(tn (wr ((aC.length:Int) - 1))))).a (rd v5 (0+(tn v7))).a)))]),[]⟩ (bl 19 98273) (pp (xL aC.length (aC.set (0+(tn (wr ((aC.length:Int) - 1)))) (R2.mk (rd aC (0+(tn (wr ((aC.length:Int) - 1))))).a (rd v5 (0+(tn v7))).a)).length) (pp (xL aC.length (aC.set (0+(tn (wr ((aC.length:Int) - 1)))) (R2.mk (rd aC (0+(tn (wr ((aC.length:Int) - 1))))).a (rd v5 (0+(tn v7))).a)).length) (pp (xS aC.length (Xo (Zz aC) (0+(tn (wr ((aC.length:Int) - 1)))) 1 [(ii (rd v5 (0+(tn v7))).a)]) (Zz (aC.set (0+(tn (wr ((aC.length:Int) - 1)))) (R2.mk (rd aC (0+(tn (wr ((aC.length:Int) - 1))))).a (rd v5 (0+(tn v7))).a)))) (pp (fl v5 (pp (xF (Xo (Zz aC) (0+(tn (wr ((aC.length:Int) - 1)))) 1 [(ii (rd v5 (0+(tn v7))).a)])) nn)) (ww k6 (ww cM (ww bX (tt k4 (ww cM (ww bX (tt k3 (tt k2 (tt k1 (ww aU (ww aG (tt k0 nn)))))))))))))))))) (fun k6=>trivial))))) (fun k4=>(lo fun cN=>(lb (fun k5=>(sl z2k 81 [] ⟨[0,1,2,3,4,5,6,7,12],[],y4e,y4f⟩ ⟨[],(kpB 6 [.cells [.len (Vt aC aP v5 v7).length],.keep,.rowed 2 (Vt aC aP v5 v7).length (Zz (Vt aC aP v5 v7))]),[]⟩ (bl 17 8161) (pp (xL (aC.length+1) (Vt aC aP v5 v7).length) (pp (xL (aC.length+1) (Vt aC aP v5 v7).length) (pp (xS (aC.length+1) (y0v aC aP v5 v7) (Zz (Vt aC aP v5 v7))) (pp (fl v5 (pp (xF (y0v aC aP v5 v7)) nn)) (ww k5 (ww cN (tt k4 (ww cM (ww bX (tt k3 (tt k2 (tt k1 (ww aU (ww aG (tt k0 nn))))))))))))))))) (fun k5=>(lb (fun k6=>(sl z2k 81 [] ⟨[0,1,2,3,4,5,6,7,12],[],y4e,y4f⟩ ⟨[],(kpB 6 [.cells [.len (Vt aC aP v5 v7).length],.keep,.rowed 2 (Vt aC aP v5 v7).length (Zz (Vt aC aP v5 v7))]),[]⟩ (bl 19 90081) (pp (xL (aC.length+1) (Vt aC aP v5 v7).length) (pp (xL (aC.length+1) (Vt aC aP v5 v7).length) (pp (xS (aC.length+1) (y0v aC aP v5 v7) (Zz (Vt aC aP v5 v7))) (pp (fl v5 (pp (xF (y0v aC aP v5 v7)) nn)) (ww k6 (ww cN (tt k4 (ww cM (ww bX (tt k3 (tt k2 (tt k1 (ww aU (ww aG (tt k0 nn))))))))))))))))) (fun k6=>trivial)))))))))) (fun k3=>(lo fun bX=>(lb (fun k4=>(sl z2k 81 [] ⟨[0,1,2,3,4,5,6,7,12],[],y4e,y4f⟩ ⟨[],(kpB 6 [.cells [.len (Vt aC aP v5 v7).length],.keep,.rowed 2 (Vt aC aP v5 v7).length (Zz (Vt aC aP v5 v7))]),[]⟩ (bl 17 1) (pp (xL (aC.length+1) (Vt aC aP v5 v7).length) (pp (xL (aC.length+1) (Vt aC aP v5 v7).length) (pp (xS (aC.length+1) (y0v aC aP v5 v7) (Zz (Vt aC aP v5 v7))) (pp (fl v5 (pp (xF (y0v aC aP v5 v7)) nn)) (ww k4 (ww bX (tt k3 (tt k2 (tt k1 (ww aU (ww aG (tt k0 nn)))))))))))))) (fun k4=>(lb (fun k5=>(sl z2k 81 [] ⟨[0,1,2,3,4,5,6,7,12],[],y4e,y4f⟩ ⟨[],(kpB 6 [.cells [.len (Vt aC aP v5 v7).length],.keep,.rowed 2 (Vt aC aP v5 v7).length (Zz (Vt aC aP v5 v7))]),[]⟩ (bl 19 81921) (pp (xL (aC.length+1) (Vt aC aP v5 v7).length) (pp (xL (aC.length+1) (Vt aC aP v5 v7).length) (pp (xS (aC.length+1) (y0v aC aP v5 v7) (Zz (Vt aC aP v5 v7))) (pp (fl v5 (pp (xF (y0v aC aP v5 v7)) nn)) (ww k5 (ww bX (tt k3 (tt k2 (tt k1 (ww aU (ww aG (tt k0 nn)))))))))))))) (fun k5=>trivial)))))))))))))) (fun k0=>(lb (fun k1=>(lr 11 3 [1,1,1,1,1,1,1,0] 1 28 [(4,.nils),(5,(ii 4))] (sl z2k 37 [] ⟨[],[],[some [4,5]],[]⟩ ⟨[],[],[]⟩ (bl 2 2) (tt k1 (tt k0 nn))))) (fun k1=>(lr 11 3 [1,1,1,1,1,1,1,0] 1 28 [(4,(.dat aC.length (Zz aC))),(5,(ii 0))] (sl z2k 39 [] ⟨[],[8],[some [4,5]],[]⟩ ⟨[(4,.frz aC.length aC.length (Zz aC) (Zz aC))],[],[]⟩ (bl 2 0) (pp (xZ (z1p 2 2 0 aC.length aC.length (Zz aC)) aC.length (Zz aC)) (pp (xL aC.length aC.length) (pp (xS aC.length (Zz aC) (Zz aC)) (pp (fl aC nn) (tt k1 (tt k0 nn))))))))))))
theorem x6h (q:Op) (l0:List R2) (l1:List R2):Yt prog (Zy prog (nSp q)) (spjC q l0 l1) (Za prog (nSp q) [(.dat l0.length (Zz l0)),(.dat l1.length (Zz l1))] true []) (y2e q l0 l1):=by cases q <;> exact (lo fun bZ=>(lb (fun k0=>(lr 11 3 [1,1,1,1,1,1,1,0] 1 28 [(4,.nils),(5,(ii (y8b (cvT l0))))] (sl z2k 40 [] ⟨[],[],[some [4,5]],[]⟩ ⟨[],[],[]⟩ [true] (tt k0 (pp (pp (xr l0) (xw bZ)) nn))))) (fun k0=>(lo fun aG=>(lb (fun k1=>(lr 11 3 [1,1,1,1,1,1,1,0] 1 28 [(4,.nils),(5,(ii (y8b (cvT l1))))] (sl z2k 54 [] ⟨[],[],[some [4,5]],[]⟩ ⟨[],[],[]⟩ [false,true] (tt k1 (pp (pp (xr l1) (xw aG)) (tt k0 (pp (pp (xr l0) (xw bZ)) nn))))))) (fun k1=>(sl z2k 124 [(246,3,Zz ([]:List R3))] ⟨[6,0,1,2,3,4,5,7],[],spjN0,spjM0⟩ ⟨[(3,.grow 7 3)],[],[]⟩ [false,false,true] (pp (fl ([]:List R3) nn) (tt k1 (pp (pp (xr l1) (xw aG)) (tt k0 (pp (pp (xr l0) (xw bZ)) nn))))))))))))
theorem v6r (q:Op) (l0:List R2) (l1:List R2) (n:Nat) (vs:List AVal) (h:Zs (Wm q l0 l1) n (y2e q l0 l1)=.ret vs):Jy prog (Zy prog (nSp q)) (Za prog (nSp q) [(.dat l0.length (Zz l0)),(.dat l1.length (Zz l1))] true []) vs:=by have:=Zd (w4t q l0 l1) n _ (x6h q l0 l1);rwa [h] at this
def spE (k:Nat) (a b:List R2):Int:=bif y8b a != 0 then y8b a else bif y8b b != 0 then y8b b else y9s (spJ k a b).length
theorem y1i (i:Int) (l:List R2):(Wq i l).length =2*l.length:=by
 induction l with
 | nil=>rfl
 | cons r l ih=>show (_::_::Wq i l).length =_;simp only [AW,ih];omega
theorem y9p (j:Int) (l:List R2) (i:Nat) (h:i<l.length):Wq j (l.drop i)=Wq j [rd l i]++Wq j (l.drop (i+1)):=by rw [Yj h];rfl
theorem z8q {j:Int} {l:List R2} {e:R3} (h:e∈Wq j l):e.b=j∧(e.c=1∨e.c= -1):=by
 obtain ⟨s,_,h⟩:=AN.1 h;simp only [AE,Bc,BX] at h;rcases h with rfl | rfl
 ·exact ⟨rfl,.inl rfl⟩
 ·exact ⟨rfl,.inr rfl⟩
theorem w1o (f:Bool→Bool→Bool) (e:R3) (r:List R3) (o p last:Int) (inn:Bool) (out:List R2):sw2 f (e::r) o p last inn out=sw2 f r (bif e.b == 0 then o+e.c else o) (bif e.b == 0 then p else p+e.c) e.a (f (decide ((bif e.b == 0 then o+e.c else o)>0)) (decide ((bif e.b == 0 then p else p+e.c)>0))) (Vj out last inn e.a):=rfl
section
variable (q:Op) (a b:List R2)
theorem u2l (L:List R3) (hL:L.length≤2000) (hE: ∀i,i<L.length→((rd L i).b =0∨(rd L i).b =1)∧((rd L i).c =1∨(rd L i).c = -1)): ∀(k i:Nat) (o p last:Int) (inn:Bool) (out:List R2),i+k=L.length→ -(i:Int)≤o→o≤i→ -(i:Int)≤p→p≤i→out.length≤i→
  ∃n,Zs (Wm q a b) n (.to (.h2 L (L.length:Int) (i:Int) o p last inn out))=.ret (Qx (sw2 (opB q.k) (L.drop i) o p last inn out))
 | 0,i,o,p,last,inn,out,h,ho1,ho2,hp1,hp2,hout=>by
  refine ⟨1,?_⟩;rw [Zv,At (by omega)];unfold Qx;show _=Xv.ret (bif decide ((out.length:Int)>400) then _ else _);rcases Yd (decide ((out.length:Int)>400)) with g | g <;>
  simp (disch:=omega) only [Wm,Yz,g,Ab,Aa,Zp];rfl
 | k + 1,i,o,p,last,inn,out,h,ho1,ho2,hp1,hp2,hout=>by
  obtain ⟨hb,hc⟩:=hE i (by omega);have hcl:=z3l out last inn (rd L i).a;have hcf: ∀x y,cV q x y=opB q.k x y:=fun _ _=>rfl;have hlt:decide ((i:Int)<(L.length:Int))=true:=Ah (by omega);have hw:wrap .i64 (o+(rd L i).c)=o+(rd L i).c :=Zk (by rcases hc with hc | hc <;> omega);have hw':wrap .i64 (p+(rd L i).c)=p+(rd L i).c :=Zk (by rcases hc with hc | hc <;> omega);have key: ∀(o' p':Int) (out':List R2),-((i+1:Nat):Int)≤o'→o'≤((i+1:Nat):Int)→ -((i+1:Nat):Int)≤p'→p'≤((i+1:Nat):Int)→out'=Vj out last inn (rd L i).a →
    Wm q a b (.h2 L (L.length:Int) (i:Int) o p last inn out)=.to (.h2 L (L.length:Int) ((i+1:Nat):Int) o' p' (rd L i).a (opB q.k (decide (o'>0)) (decide (p'>0))) out')→
    sw2 (opB q.k) (L.drop i) o p last inn out=sw2 (opB q.k) (L.drop (i+1)) o' p' (rd L i).a (opB q.k (decide (o'>0)) (decide (p'>0))) out'→
    ∃n,Zs (Wm q a b) n (.to (.h2 L (L.length:Int) (i:Int) o p last inn out))=.ret (Qx (sw2 (opB q.k) (L.drop i) o p last inn out)):=fun o' p' out' b1 b2 b3 b4 eo hs hq=>by
   obtain ⟨n,hn⟩:=u2l L hL hE k (i+1) o' p' (rd L i).a (opB q.k (decide (o'>0)) (decide (p'>0))) out' (by omega) b1 b2 b3 b4 (by rw [eo];omega);refine ⟨n+1,?_⟩;rw [Zv,hs,hq];exact hn
  rcases hb with hb | hb
  ·have hz:decide ((rd L i).b =Int.ofNat 0)=true:=Ah hb;have hb0:((rd L i).b == 0)=true:=by rw [hb];rfl
   refine key (o+(rd L i).c) p (Vj out last inn (rd L i).a) (by rcases hc with hc | hc <;> omega) (by rcases hc with hc | hc <;> omega) (by omega) (by omega) rfl ?_ ?_
   ·unfold Vj;cases inn with
    | false=>simp (disch:=omega) only [Wm,hlt,hz,hw,hw',hcf,Zn,Zo,Yk,Zk,Zx,Zj,Ag,Ai,Ab,Aa,AK]
    | true=>
     rcases Yd (last == (rd L i).a) with g | g
     ·simp (disch:=omega) only [Wm,hlt,hz,hw,hw',hcf,Zn,Zo,Yk,Zk,Zx,Zj,Ag,Ai,Ab,Aa,AG,g]
     ·by_cases h0:0<out.length
      ·rw [Ah h0,Al];rcases Yd ((rd out (out.length - 1)).b == last) with q2 | q2
       ·simp (disch:=omega) only [Wm,hlt,hz,hw,hw',hcf,Zn,Zo,Yk,Zk,Zx,Zj,Ag,Ai,Ab,Aa,AG,g,q2,Yn,Zh]
       ·simp (disch:=omega) only [Wm,hlt,hz,hw,hw',hcf,Zn,Zo,Yk,Zk,Zx,Zj,Ag,Ai,Ab,Aa,AG,Al,g,q2,Yn,Zh,Yp,Zf,Ym,Av]
      ·rw [Ay h0,Bx];simp (disch:=omega) only [Wm,hlt,hz,hw,hw',hcf,Zn,Zo,Yk,Zk,Zx,Zj,Ag,Ai,Ab,Aa,AG,Al,g,Xm,Yp,Zf,Ym,Av]
   ·rw [Yj (show i<L.length by omega),w1o,hb0];rfl
  ·have hz0:decide ((rd L i).b =Int.ofNat 0)=false:=Ay (by rw [hb];decide);have hz:decide ((rd L i).b =Int.ofNat 1)=true:=Ah hb;have hb0:((rd L i).b == 0)=false:=by rw [hb];rfl
   refine key o (p+(rd L i).c) (Vj out last inn (rd L i).a) (by omega) (by omega) (by rcases hc with hc | hc <;> omega) (by rcases hc with hc | hc <;> omega) rfl ?_ ?_
   ·unfold Vj;cases inn with
    | false=>simp (disch:=omega) only [Wm,hlt,hz0,hz,hw,hw',hcf,Zn,Zo,Yk,Zk,Zx,Zj,Ag,Ai,Ab,Aa,AK]
    | true=>
     rcases Yd (last == (rd L i).a) with g | g
     ·simp (disch:=omega) only [Wm,hlt,hz0,hz,hw,hw',hcf,Zn,Zo,Yk,Zk,Zx,Zj,Ag,Ai,Ab,Aa,AG,g]
     ·by_cases h0:0<out.length
      ·rw [Ah h0,Al];rcases Yd ((rd out (out.length - 1)).b == last) with q2 | q2
       ·simp (disch:=omega) only [Wm,hlt,hz0,hz,hw,hw',hcf,Zn,Zo,Yk,Zk,Zx,Zj,Ag,Ai,Ab,Aa,AG,g,q2,Yn,Zh]
       ·simp (disch:=omega) only [Wm,hlt,hz0,hz,hw,hw',hcf,Zn,Zo,Yk,Zk,Zx,Zj,Ag,Ai,Ab,Aa,AG,Al,g,q2,Yn,Zh,Yp,Zf,Ym,Av]
      ·rw [Ay h0,Bx];simp (disch:=omega) only [Wm,hlt,hz0,hz,hw,hw',hcf,Zn,Zo,Yk,Zk,Zx,Zj,Ag,Ai,Ab,Aa,AG,Al,g,Xm,Yp,Zf,Ym,Av]
   ·rw [Yj (show i<L.length by omega),w1o,hb0];rfl
theorem u2m (ha:a.length≤400) (hb:b.length≤400) (va:a.all z1o=true) (vb:b.all z1o=true): ∀(k i:Nat) (E:List R3),i+k=b.length→E.length=2*a.length+2*i→E++Wq 1 (b.drop i)=Wq 0 a++Wq 1 b→ ∃n,Zs (Wm q a b) n (.to (.h1 E (i:Int)))=.ret (Qx (spJ q.k a b))
 | 0,i,E,h,hl,he=>by
  rw [At (by omega),show Wq 1 []=[] from rfl,Az] at he;subst he;have hbnd:y1q (Wq 0 a++Wq 1 b)=true:=by have h1:=z8r 0 a va;have h2:=z8r 1 b vb;unfold y1q at*;rw [List.all_append,h1,h2];rfl
  have hsl:=y4a (Wq 0 a++Wq 1 b);obtain ⟨hp,_⟩:=Ks _ hbnd;obtain ⟨n,hn⟩:=u2l q a b (z0w (Wq 0 a++Wq 1 b)) (by rw [hsl];omega) (fun i hi=>by
   have hm:rd (z0w (Wq 0 a++Wq 1 b)) i∈Wq 0 a++Wq 1 b:=hp.mem_iff.1 (by rw [Yo hi];exact AR hi);rcases AF.1 hm with g | g
   ·exact ⟨.inl (z8q g).1,(z8q g).2⟩
   ·exact ⟨.inr (z8q g).1,(z8q g).2⟩) (z0w (Wq 0 a++Wq 1 b)).length 0 0 0 0 false [] (Ag _) (by omega) (by omega) (by omega) (by omega) (AA _)
  refine ⟨n+1,?_⟩;rw [Zv];have step:Wm q a b (.h1 (Wq 0 a++Wq 1 b) (i:Int))=.to (.h2 (z0w (Wq 0 a++Wq 1 b)) (((Wq 0 a++Wq 1 b).length :Nat):Int) 0 0 0 0 false []):=by simp (disch:=omega) only [Wm,Zg,Yz,hbnd,Yk,Av,Ab,Aa]
  rw [step,←hsl];exact hn
 | k+1,i,E,h,hl,he=>by rw [y9p 1 b i (by omega),←AH] at he;obtain ⟨n,hn⟩:=u2m ha hb va vb k (i+1) (E++Wq 1 [rd b i]) (by omega) (by rw [Ar,y1i];simp;omega) he;refine ⟨n+1,?_⟩;rw [Zv];simp (disch:=omega) only [Wm,Yp,Zf,Ym,Av,Al,Zn,Zo,Yk,Zk,Zx,Zj,Ag,Ai,Ab,Aa];exact hn
theorem u2n (ha:a.length≤400) (hb:b.length≤400) (va:a.all z1o=true) (vb:b.all z1o=true): ∀(k i:Nat) (E:List R3),i+k=a.length→E.length=2*i→E++Wq 0 (a.drop i)=Wq 0 a→ ∃n,Zs (Wm q a b) n (.to (.h0 E (i:Int)))=.ret (Qx (spJ q.k a b))
 | 0,i,E,h,hl,he=>by rw [At (by omega),show Wq 0 []=[] from rfl,Az] at he;subst he;obtain ⟨n,hn⟩:=u2m q a b ha hb va vb b.length 0 (Wq 0 a) (Ag _) (by omega) (by rw [A3]);refine ⟨n+1,?_⟩;rw [Zv];simp (disch:=omega) only [Wm,Yz,Aa];exact hn
 | k+1,i,E,h,hl,he=>by rw [y9p 0 a i (by omega),←AH] at he;obtain ⟨n,hn⟩:=u2n ha hb va vb k (i+1) (E++Wq 0 [rd a i]) (by omega) (by rw [Ar,y1i];simp;omega) he;refine ⟨n+1,?_⟩;rw [Zv];simp (disch:=omega) only [Wm,Yp,Zf,Ym,Av,Al,Zn,Zo,Yk,Zk,Zx,Zj,Ag,Ai,Ab,Aa];exact hn
theorem u7z : ∃n,Zs (Wm q a b) n (y2e q a b)=.ret (y1a (spE q.k a b) (spJ q.k a b)):=by
 unfold y2e;have o: ∀l,z4b l=true:=fun _=>rfl;simp only [Zg,o,Ab];rcases Yd (y8b a != 0) with q1 | q1
 ·exact ⟨0,by simp only [spE,q1,Ab,z0x _ q1];rfl⟩
 rcases Yd (y8b b != 0) with q2 | q2
 ·exact ⟨0,by simp only [spE,q1,q2,Ab,Aa,z0x _ q2];rfl⟩
 obtain ⟨a1,a2,_⟩:=(x0h a).1 (by simpa using q1);obtain ⟨b1,b2,_⟩:=(x0h b).1 (by simpa using q2);obtain ⟨n,hn⟩:=u2n q a b a1 b1 a2 b2 a.length 0 [] (Ag _) rfl (by rw [A3,Bf]);refine ⟨n,?_⟩;simp only [spE,q1,q2,Aa,←z8y];exact hn
end
def z3y (q:Op) (a b:List R2):List R2:=y6t (spE q.k a b) (spJ q.k a b)
def w4u (q:Op) (a b:List R2):Int:=spE q.k a b
def x0d (q:Op) (a b:List R2):Bool:=true
def fSp (q:Op):List AVal→Option (AVal×Bool)
 | [a1,a2]=>match asL R2 a1,asL R2 a2 with
  | some (L1,g1,n1),some (L2,g2,n2)=>some (.tup [.dat (z3y q L1 L2).length (Zz (z3y q L1 L2)),.int .i64 (w4u q L1 L2)],isT R2 n1 g1&&(isT R2 n2 g2&&x0d q L1 L2))
  | _,_=>none
 | _=>none
theorem v4e (q:Op) {S:Specs} (hS:Zu prog S):Zu prog (S.with (nSp q) (fSp q)):=by
 refine w8u hS (by cases q <;> kernel_rfl) fun args v h=> ?_;unfold fSp at h;split at h
 ·rename_i a1 a2;split at h
  ·rename_i L1 g1 n1 L2 g2 n2 e1 e2;simp only [Ae,Ad,Ac] at h;obtain ⟨rfl,ho1,ho2,_⟩:=h;obtain ⟨N,hN⟩:=u7z q L1 L2;exact ⟨_,_,(.cons (asL_le e1 ho1) (.cons (asL_le e2 ho2) .nil)),z2v _ _,v6r q L1 L2 N _ hN,3,z6k _ _⟩
  ·cases h
 ·cases h
def Ub :Specs:=((Ua.with (nSp .u) (fSp .u)).with (nSp .e) (fSp .e)).with (nSp .d) (fSp .d)
theorem y6q :Zu prog Ub:=v4e .d (v4e .e (v4e .u z2k))
inductive rgcS where
 | h0 (v8:Int)
def rgcC (l0:List R4):rgcS→Cfg
 | .h0 v8=>⟨⟨19,0,true⟩,none,(Zb prog 203 [1,0,1,0,0] 0),none,(Zy prog 5),⟨Yg [(0,(.dat l0.length (Zz l0))),(1,(.fn 199 [])),(7,(ii (l0.length:Int))),(8,(ii v8))],Wh [] 0,0,[],true⟩,[⟨⟨9,0,true⟩,(Uv prog 198 [1,0] 2),(Zb prog 198 [1,0] 1),none,(Zy prog 5),Yg [(5,(.dat l0.length (Zz l0))),(6,(.fn 199 []))]⟩,⟨⟨23,0,true⟩,(Uv prog 189 [1,1,0,0] 1),(Zb prog 189 [1,1,0,0] 1),none,(Zy prog 3),Yg [(0,(.dat l0.length (Zz l0))),(8,(.dat l0.length (Zz l0)))]⟩],.leaf⟩
def rgcN0 :List (Option (List Nat)):=[some [0,1,7,8],some [5,6],some [0,8]]
def rgcM0 :List (Option (List Nat)):=[]
def z2u (l0:List R4):rgcS→Xv rgcS
 | .h0 v8=>(bif (decide (v8<(l0.length:Int))) then (bif ((decide (0≤v8∧v8<(l0.length:Int)))&&true) then (bif (!(u7o (rd l0 v8.toNat).a (rd l0 v8.toNat).b (rd l0 v8.toNat).c (rd l0 v8.toNat).d)) then (bif (decide (v8≥0)) then (.ret [(.int .i64 8)]) else (bif (Qz (cvT l0)) then (bif ((z1c (cvT l0)) != 0) then (.ret [(.int .i64 8)]) else (bif (Wg (cvT (Wk (cvT l0))) (cvT l0)) then (bif (!(Ur (cvT (Wk (cvT l0))) (cvT l0))) then (.ret [(.int .i64 8)]) else (.ret [(.int .i64 0)])) else .stuck)) else .stuck)) else (.to (.h0 (wrap .i64 (v8+1))))) else .stuck) else (bif (Qz (cvT l0)) then (bif ((z1c (cvT l0)) != 0) then (.ret [(.int .i64 8)]) else (bif (Wg (cvT (Wk (cvT l0))) (cvT l0)) then (bif (!(Ur (cvT (Wk (cvT l0))) (cvT l0))) then (.ret [(.int .i64 8)]) else (.ret [(.int .i64 0)])) else .stuck)) else .stuck))
def z7v (l0:List R4):Xv rgcS:=(bif (decide ((l0.length:Int)>400)) then (.ret [(.int .i64 4)]) else (.to (.h0 0)))
theorem w6a (l0:List R4): ∀s,Yt prog (Zy prog 189) (rgcC l0) (rgcC l0 s) (z2u l0 s)
 | .h0 v8=>(lb (fun k0=>(lo fun aG=>(lb (fun k1=>(lb (fun k2=>(lr 23 189 [1,1,0,1,0,0] 1 3 [(2,(ii 8))] (sl y6q 53 [] ⟨[],[],[some [2]],[]⟩ ⟨[],[],[]⟩ (trs 3 []) (tt k2 (tt k1 (ww aG (tt k0 nn))))))) (fun k2=>(lo fun cF=>(lb (fun k3=>(lr 23 189 [1,1,1,0,1,1,0,0] 1 3 [(2,(ii 8))] (sl y6q 77 [] ⟨[],[],[some [2]],[]⟩ ⟨[],[],[]⟩ (bl 8 251) (tt k3 (pp (pp (xr l0) (xw cF)) (tt k2 (tt k1 (ww aG (tt k0 nn))))))))) (fun k3=>(lo fun bX=>(lb (fun k4=>(lr 23 189 [1,1,1,0,1,1,0,0] 1 3 [(2,(ii 8))] (sl y6q 77 [] ⟨[],[],[some [2]],[]⟩ ⟨[],[],[]⟩ (bl 8 131) (tt k4 (pp (pp (xI R4 (Wk (cvT l0)).length (Zz (Wk (cvT l0)))) (pp (xr l0) (xw bX))) (tt k3 (pp (pp (xr l0) (xw cF)) (tt k2 (tt k1 (ww aG (tt k0 nn))))))))))) (fun k4=>(lr 23 3 [1,1,1,1,1,1,1,0] 1 3 [(2,(ii 0))] (sl y6q 78 [] ⟨[],[],[some [2]],[]⟩ ⟨[],[],[]⟩ (bl 8 3) (tt k4 (pp (pp (xI R4 (Wk (cvT l0)).length (Zz (Wk (cvT l0)))) (pp (xr l0) (xw bX))) (tt k3 (pp (pp (xr l0) (xw cF)) (tt k2 (tt k1 (ww aG (tt k0 nn))))))))))))))))))) (fun k1=>(sl y6q 44 [] ⟨[],[],rgcN0,rgcM0⟩ ⟨[],[],[]⟩ (bl 2 1) (tt k1 (ww aG (tt k0 nn)))))))) (fun k0=>(lo fun aG=>(lb (fun k1=>(lr 23 189 [1,1,1,0,1,1,0,0] 1 3 [(2,(ii 8))] (sl y6q 46 [] ⟨[],[],[some [2]],[]⟩ ⟨[],[],[]⟩ (bl 7 124) (tt k1 (pp (pp (xr l0) (xw aG)) (tt k0 nn)))))) (fun k1=>(lo fun bW=>(lb (fun k2=>(lr 23 189 [1,1,1,0,1,1,0,0] 1 3 [(2,(ii 8))] (sl y6q 46 [] ⟨[],[],[some [2]],[]⟩ ⟨[],[],[]⟩ (bl 7 64) (tt k2 (pp (pp (xI R4 (Wk (cvT l0)).length (Zz (Wk (cvT l0)))) (pp (xr l0) (xw bW))) (tt k1 (pp (pp (xr l0) (xw aG)) (tt k0 nn)))))))) (fun k2=>(lr 23 3 [1,1,1,1,1,1,1,0] 1 3 [(2,(ii 0))] (sl y6q 47 [] ⟨[],[],[some [2]],[]⟩ ⟨[],[],[]⟩ (bl 7 0) (tt k2 (pp (pp (xI R4 (Wk (cvT l0)).length (Zz (Wk (cvT l0)))) (pp (xr l0) (xw bW))) (tt k1 (pp (pp (xr l0) (xw aG)) (tt k0 nn)))))))))))))))
theorem x7u (l0:List R4):Yt prog (Zy prog 189) (rgcC l0) (Za prog 189 [(.dat l0.length (Zz l0))] true []) (z7v l0):=(lb (fun k0=>(lr 23 189 [1,0,1,0,0] 1 3 [(2,(ii 4))] (sl y6q 16 [] ⟨[],[],[some [2]],[]⟩ ⟨[],[],[]⟩ [true] (tt k0 nn)))) (fun k0=>(sl y6q 40 [] ⟨[],[],rgcN0,rgcM0⟩ ⟨[],[],[]⟩ [false] (tt k0 nn))))
theorem v8q (l0:List R4) (n:Nat) (vs:List AVal) (h:Zs (z2u l0) n (z7v l0)=.ret vs):Jy prog (Zy prog 189) (Za prog 189 [(.dat l0.length (Zz l0))] true []) vs:=by have:=Zd (w6a l0) n _ (x7u l0);rwa [h] at this
def rgcF (l:List R4):Int:=bif z1c l != 0 then 8 else bif Ur (Wk l) l then 0 else 8
def y6s (l:List R4):Int:=bif decide (400<l.length) then 4 else bif l.all Vo then rgcF l else 8
def z4i (l:List R4):Bool:=true
theorem x8v (l:List R4):(Wk l).length ≤400:=by
 unfold Wk u6q y6t y9s;by_cases h:((D4.out l).length :Int)>400
 ·rw [Ah h];exact AA _
 ·rw [Ay h];show (D4.out l).length ≤400;omega
theorem u4u (l:List R4) (hl:l.length≤400): ∀(k i:Nat),i+k=l.length→(∀s∈l.take i,Vo s=true)→ ∃n,Zs (z2u l) n (.to (.h0 (i:Int)))=.ret (bif l.all Vo then [.int .i64 (rgcF l)] else [.int .i64 8])
 | 0,i,h,ht=>by
  have hv:l.all Vo=true:=Au.2 fun s hs=>ht s (by rw [AP (by omega)];exact hs);have w:Qz l=true:=Ah hl;refine ⟨1,?_⟩;rw [Zv,hv,Ab];have w2:Wg (Wk l) l=true:=Ah (by have:=x8v l;omega);unfold rgcF;rcases Yd (z1c l != 0) with q | q
  ·simp (disch:=omega) only [z2u,Zg,w,q,Yz,Ab,Aa,Zp]
  ·rcases Yd (Ur (Wk l) l) with q2 | q2 <;>
   simp (disch:=omega) only [z2u,Zg,w,w2,q,q2,Yz,AG,AK,Ab,Aa,Zp]
 | k+1,i,h,ht=>by
  have hi:i<l.length:=by omega
  have hs:z2u l (.h0 (i:Int))=bif Vo (rd l i) then .to (.h0 ((i+1:Nat):Int)) else .ret [.int .i64 8]:=by have e:u7o (rd l i).a (rd l i).b (rd l i).c (rd l i).d =Vo (rd l i):=rfl;simp (disch:=omega) only [z2u,e,z6z,x4s,x4t,Zo,Zk,Zx,Zj,Ai,Ab,Aa]
  rcases Yd (Vo (rd l i)) with q | q
  ·obtain ⟨n,hn⟩:=u4u l hl k (i+1) (by omega) (fun s hs=>by
    rw [A9] at hs;have e:l[i]? =some (rd l i):=by rw [Yo hi];exact Aq _
    rw [e] at hs;simp only [Cb,AF,AT] at hs;rcases hs with hs | rfl
    ·exact ht s hs
    ·exact q)
   refine ⟨n+1,?_⟩;rw [Zv,hs,q,Ab];exact hn
  ·have hv:l.all Vo=false:=A8.2 fun e=>by have:=Au.1 e (rd l i) (by rw [Yo hi];exact AR hi);rw [this] at q;cases q
   refine ⟨1,?_⟩;rw [Zv,hv,Aa,hs,q,Aa,Zp]
theorem v8p (l:List R4): ∃n,Zs (z2u l) n (z7v l)=.ret (bif decide (400<l.length) then [.int .i64 4] else bif l.all Vo then [.int .i64 (rgcF l)] else [.int .i64 8]):=by
 unfold z7v;by_cases h:400<l.length
 ·refine ⟨0,?_⟩;rw [Ah h,Yn (show (l.length:Int)>400 by omega)];rfl
 ·obtain ⟨n,hn⟩:=u4u l (by omega) l.length 0 (Ag _) (fun s hs=>by simp at hs);refine ⟨n,?_⟩;rw [Ay h,Xm (show¬(l.length:Int)>400 by omega),Aa,Aa];exact hn
theorem j0e (l:List R4) (h:z4i l=true): ∃n,Zs (z2u l) n (z7v l)=.ret [.int .i64 (y6s l)]:=by obtain ⟨n,hn⟩:=v8p l;refine ⟨n,hn.trans ?_⟩;unfold y6s;cases decide (400<l.length) <;> cases l.all Vo <;> rfl
def fRgc :List AVal→Option (AVal×Bool)
 | [a0]=>match asL R4 a0 with
  | some (L0,g0,n0)=>some (.int .i64 (y6s L0),isT R4 n0 g0&&(z4i L0))
  | _=>none
 | _=>none
theorem j2x {S:Specs} (hS:Zu prog S):Zu prog (S.with w2t fRgc):=by
 refine z0l hS (by kernel_rfl) fun args v h=> ?_;unfold fRgc at h;split at h
 ·rename_i a0;split at h
  ·rename_i L0 g0 n0 e0;simp only [Ae,Ad,Ac] at h;obtain ⟨rfl,ho0,hw⟩:=h;obtain ⟨N,hN⟩:=j0e L0 hw;exact ⟨_,_,(.cons (asL_le e0 ho0) .nil),rfl,v8q L0 N _ hN,3,rfl⟩
  ·cases h
 ·cases h
def Uc :Specs:=(Ub.with w2t fRgc)
theorem Kg :Zu prog Uc:=(j2x y6q)
end Go.Am
end
