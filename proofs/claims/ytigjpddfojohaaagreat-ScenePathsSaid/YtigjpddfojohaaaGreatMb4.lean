/- A part of a proof: several texts in one. -/
import Derived.Test.YtigjpddfojohaaaGreatMb3
import Derived.Below
import Derived.Lib.SplitLaws
set_option maxRecDepth 1000000
set_option maxHeartbeats 8000000
set_option linter.unusedVariables false
set_option linter.unusedSimpArgs false
noncomputable section
namespace Go.Am
open IntKind (wrap)
open Go.Proofs.Tryz
open Go.Proofs Go.Sort Go.Shelf Go.RowKit Go.Lib
theorem w6c {i n:Nat} (h:i<n):decide ((i:Int)<(n:Int))=true:=by grind
theorem y8u {σ:Type} (step:σ→Ya σ) (a b:Nat) (s:Ya σ):Zo step (a+b) s=Zo step a (Zo step b s):=by
 induction b generalizing s with
 | zero=>cases s <;> simp [Zo]
 | succ b ih=>cases s with
  | to s=>exact ih (step s)
  | ret vs=>simp only [Zp]
  | stuck=>cases a <;> cases b <;> rfl
theorem v5q {i:Nat}:decide ((i:Int)≥0)=true:=by grind
def y3v {α:Type} [Ym α] (out:List α):List AVal:=bif decide ((out.length:Int)>400) then [.nils,.int .i64 4] else [.dat out.length (Zy out),.int .i64 0]
def v4e {α:Type} [Ym α] (e:Int) (L:List α):List AVal:=bif e != 0 then [.nils,.int .i64 e] else [.dat L.length (Zy L),.int .i64 0]
def errL {α:Type} (e:Int) (L:List α):List α:=bif e != 0 then [] else L
theorem w9a {α:Type} [Ym α] (e:Int) (L:List α) (ρ:Rho) (u:Value) (hu:Za ρ (Vt (v4e e L)) u):Za ρ (.tup [.dat (errL e L).length (Zy (errL e L)),.int .i64 e]) u:=by
 unfold v4e at hu;unfold errL;by_cases h:e=0
 ·subst h;exact hu
 ·have h:(e != 0)=true:=by simpa using h
  rw [h] at hu ⊢;exact z9o (.cons (z3c α) (RLe.refl _)) ρ u hu
theorem v8f {α:Type} [Ym α] (e:Int) (L:List α):pf 3 (Vt (v4e e L))=true:=by unfold v4e;cases (e != 0) <;> rfl
def capE (n:Nat):Int:=bif decide ((n:Int)>400) then 4 else 0
theorem w6n {α:Type} [Ym α] (L:List α):y3v L=v4e (capE L.length) L:=by
 grind [y3v,v4e,capE]
theorem y2w : ∀(L:List R3) (o last:Int) (inn:Bool) (out:List R2),(swF L o last inn out).length ≤out.length+L.length
 | [],_,_,_,out=>Ao _
 | e::r,o,last,inn,out=>by rw [z8i];have:=y2w r (o+e.c) e.a (decide (o+e.c>0)) (Km out last inn e.a);have:=z6b out last inn e.a;simp only [AQ];omega
theorem x0f (l:List R3):(z3v l).length =l.length:=by
 by_cases h:y6s l=true
 ·exact (Kn l h).1.length_eq
 ·unfold z3v;grind
theorem x0h (l:List R2):(Xg l).length ≤800:=by
 grind [Xg,swV,y2w,x0f,z1i]
def y2c (r:R4):Bool:=decide (r.a<r.c)&&(decide (r.b<r.d)&&(decide (r.a≥ -1000000)&&(decide (r.a≤1000000)&&(decide (r.c≥ -1000000)&&(decide (r.c≤1000000)&&(decide (r.b≥ -1000000)&&(decide (r.b≤1000000)&&(decide (r.d≥ -1000000)&&decide (r.d≤1000000)))))))))
def D4 :Dim R4 R2:=⟨R4.a,R4.c,fun r=>⟨r.b,r.d⟩,fun x x' s=>⟨x,s.a,x',s.b⟩,fun x r=>⟨r.a,r.b,x,r.d⟩,Xg,Jt⟩
theorem D4_sec (l:List R4) (x:Int):(D4.sec l x).length ≤1000:=AG (x0h _) (by omega)
section
variable (l:List R4) (hl:l.length≤400)
include hl
theorem v5b (i:Nat) (out:List R4) (last:List R2) (first fin x x':Int): ∀(k j:Nat) (acc:List R2),j+k=l.length→acc.length≤j→
  ∃n,∀N,Zo (Xy l) (N+n) (.to (.h2 (i:Int) (j:Int) out last first fin ((D4.cuts l).length) (Jv (Vv (D4.ends l))) x x' acc))=Zo (Xy l) N (.to (.h2 (i:Int) (l.length:Int) out last first fin ((D4.cuts l).length) (Jv (Vv (D4.ends l))) x x' (acc++D4.inn (l.drop j) x)))
 | 0,j,acc,h,ha=>by refine ⟨0,fun N=> ?_⟩;rw [At (by omega),show D4.inn ([]:List R4) x=[] from rfl,AJ,Bh,show j=l.length by omega]
 | k+1,j,acc,h,ha=>by
  have hj:j<l.length:=by omega
  obtain ⟨n,hn⟩:=v5b i out last first fin x x' k (j+1) (acc++D4.inn [rd l j] x) (by omega) (by have:=D4.inn_length [rd l j] x;grind)
  refine ⟨n+1,fun N=> ?_⟩;have e:D4.inn (l.drop j) x=D4.inn [rd l j] x++D4.inn (l.drop (j+1)) x:=by rw [drop_rd hj,←D4.inn_append];rfl
  rw [e,←AH,Zv,←AF,←hn N];by_cases h1:D4.lo (rd l j)≤x
  ·by_cases h2:x<D4.hi (rd l j)
   ·rw [D4.inn_t _ _ h1 h2];simp only [D4] at h1 h2 ⊢;simp (disch:=omega) only [Xy,dle_t,Zn,Zc,dlt_t,din_t,nle_t,nlt_t,neq_t,room_t,wrap_t,cast_succ,beq11,toNat_c,Al,Av,Ap,Aq,Ag,Ad]
   ·rw [D4.inn_f2 _ _ h2,AJ];simp only [D4] at h1 h2;simp (disch:=omega) only [Xy,dle_t,dlt_f,Zn,Zc,dlt_t,din_t,nle_t,nlt_t,neq_t,room_t,wrap_t,cast_succ,beq11,toNat_c,Al,Av,Ap,Aq,Ag,Ad]
  ·rw [D4.inn_f1 _ _ h1,AJ];simp only [D4] at h1;simp (disch:=omega) only [Xy,dle_f,Zn,Zc,dlt_t,din_t,nle_t,nlt_t,neq_t,room_t,wrap_t,cast_succ,beq11,toNat_c,Al,Av,Ap,Aq,Ag,Ad]
theorem v5a (i:Nat) (hi:i≤1000) (x x':Int) (s last:List R2) (first:Int) (inn:List R2) (hs:s.length≤1000): ∀(k j:Nat) (out:List R4),j+k=s.length→out.length≤10000000+j→
  ∃n,∀N,Zo (Xy l) (N+n) (.to (.h3 x x' s (s.length:Int) (j:Int) s (i:Int) out last first ((D4.cuts l).length) (Jv (Vv (D4.ends l))) inn))=Zo (Xy l) N (.to (.h1 ((i+1:Nat):Int) (out++(s.drop j).map (D4.put x x')) last first x' ((D4.cuts l).length) (Jv (Vv (D4.ends l)))))
 | 0,j,out,h,ho=>by
  have _u:=hl;refine ⟨1,fun N=> ?_⟩
  grind [Zv,Xy,wrap_t]
 | k+1,j,out,h,ho=>by
  obtain ⟨n,hn⟩:=v5a i hi x x' s last first inn hs k (j+1) (out++[D4.put x x' (rd s j)]) (by omega) (by simp;omega)
  refine ⟨n+1,fun N=> ?_⟩;have:=hn N;rw [drop_rd (show j<s.length by omega),A2,←AH,Zv];simp (disch:=omega) only [Xy,Zn,Zc,dlt_t,din_t,nle_t,nlt_t,neq_t,room_t,wrap_t,cast_succ,beq11,toNat_c,Al,Av,Ap,Aq,Ag,Ad];rw [AF] at this;exact this
theorem v4z (i:Nat) (hi:i≤1000) (x x' fin:Int) (s last:List R2) (first:Int) (inn:List R2): ∀(k j:Nat) (out:List R4),j+k=out.length→out.length≤10000000→
  ∃n,∀N,Zo (Xy l) (N+n) (.to (.h4 x' (j:Int) x s (i:Int) out last first fin ((D4.cuts l).length) (Jv (Vv (D4.ends l))) inn))=Zo (Xy l) N (.to (.h1 ((i+1:Nat):Int) (D4.grow out j x') last first x' ((D4.cuts l).length) (Jv (Vv (D4.ends l)))))
 | 0,j,out,h,ho=>by
  have _u:=hl;refine ⟨1,fun N=> ?_⟩;rw [D4.grow_nil _ _ _ (by omega),Zv]
  grind [Xy,wrap_t]
 | k+1,j,out,h,ho=>by
  obtain ⟨n,hn⟩:=v4z i hi x x' fin s last first inn k (j+1) (out.set j (D4.ext x' (rd out j))) (by simp;omega) (by grind)
  refine ⟨n+1,fun N=> ?_⟩;have:=hn N;rw [D4.grow_set out j _ (by omega)] at this;rw [←AH,Zv];simp (disch:=omega) only [Xy,Zn,Zc,dlt_t,din_t,nle_t,nlt_t,neq_t,room_t,wrap_t,cast_succ,beq11,toNat_c,Al,Av,Ap,Aq,Ag,Ad];exact this
theorem w4w : ∀(k i:Nat) (s:Sw R4 R2),k=(D4.cuts l).length - 1 - i→i≤(D4.cuts l).length →s.out.length≤i*1000→s.last.length≤1000→s.first≤s.out.length→
  ∃n,Zo (Xy l) n (.to (.h1 ((i+1:Nat):Int) s.out s.last (s.first:Int) s.fin ((D4.cuts l).length) (Jv (Vv (D4.ends l)))))=.ret (y3v (D4.go l k i s).out)
 | 0,i,s,h,hi,ho,hla,hf=>by
  have hc:=D4.cuts_length l;refine ⟨1,?_⟩;rw [Zv,show D4.go l 0 i s=s from rfl]
  grind [y3v,Xy,Zp]
 | k +1,i,s,h,hi,ho,hla,hf=>by
  have hc:=D4.cuts_length l;have hi1:i+1<(D4.cuts l).length :=by omega
  have hpl:(Jv (Vv (D4.ends l))).length =2*l.length:=by rw [z3b,Qa,D4.ends_length]
  have r0:rd (Jv (Vv (D4.ends l))) i=rd (D4.cuts l) i:=x6b _ _ (by show i<(D4.cuts l).length;omega);have r1:rd (Jv (Vv (D4.ends l))) (i+1)=rd (D4.cuts l) (i+1):=x6b _ _ (by show i+1<(D4.cuts l).length;omega);have hbig:i*1000≤1000*1000:=Az _ (by omega);have hsl:=D4_sec l (rd (D4.cuts l) i);have hsd:D4.sec l (rd (D4.cuts l) i)=Xg (D4.inn l (rd (D4.cuts l) i)):=rfl;obtain ⟨n3,h3⟩:=v5b l hl (i+1) s.out s.last (s.first:Int) s.fin (rd (D4.cuts l) i) (rd (D4.cuts l) (i+1)) l.length 0 [] (Al _) (Ao _);simp only [A0,A6,cast0] at h3;have w1:z9q (D4.inn l (rd (D4.cuts l) i))=true:=rfl;have w2:Vq s.last (Xg (D4.inn l (rd (D4.cuts l) i)))=true:=Ae (by omega);have ol:=D4.one_length l (rd (D4.cuts l) i) (rd (D4.cuts l) (i+1)) s;have st0: ∀N,Zo (Xy l) (N+n3+1) (.to (.h1 ((i+1:Nat):Int) s.out s.last (s.first:Int) s.fin ((D4.cuts l).length) (Jv (Vv (D4.ends l)))))=Zo (Xy l) N (.to (.h2 ((i+1:Nat):Int) (l.length:Int) s.out s.last (s.first:Int) s.fin ((D4.cuts l).length) (Jv (Vv (D4.ends l))) (rd (D4.cuts l) i) (rd (D4.cuts l) (i+1)) (D4.inn l (rd (D4.cuts l) i)))):=fun N=>by
   rw [←h3 N,Zv];have e1:wrap .i64 (((i+1:Nat):Int) - 1)=(i:Int):=by rw [cast_pred];exact wrap_t (by omega)
   simp (disch:=omega) only [Xy,e1,r0,r1,Zn,Zc,dlt_t,din_t,nle_t,nlt_t,neq_t,room_t,wrap_t,cast_succ,beq11,toNat_c,Al,Av,Ap,Aq,Ag,Ad]
  rcases boolc (decide (0<(D4.sec l (rd (D4.cuts l) i)).length)&&((s.fin == rd (D4.cuts l) i)&&D4.same s.last (D4.sec l (rd (D4.cuts l) i)))) with q | q
  ·obtain ⟨n5,h5⟩:=v4z l hl (i+1) (by omega) (rd (D4.cuts l) i) (rd (D4.cuts l) (i+1)) s.fin (D4.sec l (rd (D4.cuts l) i)) s.last (s.first:Int) (D4.inn l (rd (D4.cuts l) i)) (s.out.length - s.first) s.first s.out (by omega) (by omega)
   have e:D4.one l (rd (D4.cuts l) i) (rd (D4.cuts l) (i+1)) s=⟨D4.grow s.out s.first (rd (D4.cuts l) (i+1)),s.last,s.first,rd (D4.cuts l) (i+1)⟩:=by unfold Dim.one;rw [q];rfl
   obtain ⟨n0,h0⟩:=w4w k (i+1) (D4.one l (rd (D4.cuts l) i) (rd (D4.cuts l) (i+1)) s) (by omega) (by omega) (by omega) (by grind) (by grind [Dim.grow_length]);refine ⟨n0+n5+1+n3+1,?_⟩;rw [st0 (n0+n5+1),Zv];simp only [Ac,Ak] at q;obtain ⟨q1,q2,q3⟩:=q;have q3':Jt s.last (Xg (D4.inn l (rd (D4.cuts l) i)))=true:=q3
   grind [Xy,Zn,Dim.go]
  ·obtain ⟨n4,h4⟩:=v5a l hl (i+1) (by omega) (rd (D4.cuts l) i) (rd (D4.cuts l) (i+1)) (D4.sec l (rd (D4.cuts l) i)) (D4.sec l (rd (D4.cuts l) i)) (s.out.length:Int) (D4.inn l (rd (D4.cuts l) i)) hsl (D4.sec l (rd (D4.cuts l) i)).length 0 s.out (Al _) (by omega);simp only [A0,cast0] at h4;have e:D4.one l (rd (D4.cuts l) i) (rd (D4.cuts l) (i+1)) s=⟨s.out++(D4.sec l (rd (D4.cuts l) i)).map (D4.put (rd (D4.cuts l) i) (rd (D4.cuts l) (i+1))),D4.sec l (rd (D4.cuts l) i),s.out.length,rd (D4.cuts l) (i+1)⟩:=by unfold Dim.one;rw [q];rfl
   obtain ⟨n0,h0⟩:=w4w k (i+1) (D4.one l (rd (D4.cuts l) i) (rd (D4.cuts l) (i+1)) s) (by omega) (by omega) (by omega) (by grind) (by rw [e];simp);have hg:Zo (Xy l) 1 (.to (.h2 ((i+1:Nat):Int) (l.length:Int) s.out s.last (s.first:Int) s.fin ((D4.cuts l).length) (Jv (Vv (D4.ends l))) (rd (D4.cuts l) i) (rd (D4.cuts l) (i+1)) (D4.inn l (rd (D4.cuts l) i))))=.to (.h3 (rd (D4.cuts l) i) (rd (D4.cuts l) (i+1)) (D4.sec l (rd (D4.cuts l) i)) ((D4.sec l (rd (D4.cuts l) i)).length :Int) 0 (D4.sec l (rd (D4.cuts l) i)) ((i+1:Nat):Int) s.out (D4.sec l (rd (D4.cuts l) i)) (s.out.length:Int) ((D4.cuts l).length) (Jv (Vv (D4.ends l))) (D4.inn l (rd (D4.cuts l) i))):=by
    rw [show (1:Nat)=0+1 from rfl,Zv];rw [hsd] at q ⊢;have e3:D4.same s.last (Xg (D4.inn l (rd (D4.cuts l) i)))=Jt s.last (Xg (D4.inn l (rd (D4.cuts l) i))):=rfl;rw [e3] at q;by_cases q1:0<(Xg (D4.inn l (rd (D4.cuts l) i))).length
    ·rw [Ae q1,Aq] at q;rcases boolc (s.fin == rd (D4.cuts l) i) with q2 | q2
     ·rw [q2,Aq] at q;simp (disch:=omega) only [Xy,Zn,Zc,dlt_f,dgt_t,q2,q,w1,w2,Ag,Ad];rfl
     ·simp (disch:=omega) only [Xy,Zn,Zc,dlt_f,dgt_t,q2,w1,w2,Ag,Ad];rfl
    ·simp (disch:=omega) only [Xy,Zn,Zc,dlt_f,dgt_f,w1,w2,Ag,Ad];rfl
   refine ⟨n0+n4+1+n3+1,?_⟩;simp_all [y8u,Dim.go]
theorem v5c : ∀(k i:Nat) (acc:List Int),i+k=l.length→acc=D4.ends (l.take i)→ ∃n,Zo (Xy l) n (.to (.h0 (i:Int) acc))=.ret (y3v (D4.go l ((D4.cuts l).length - 1) 0 ⟨[],[],0,0⟩).out)
 | 0,i,acc,h,ha=>by
  have e:acc=D4.ends l:=by grind
  subst e;have hle:=D4.ends_length l;obtain ⟨n,hn⟩:=w4w l hl ((D4.cuts l).length - 1) 0 ⟨[],[],0,0⟩ (by omega) (AE _) (AE _) (AE _) (AE _);refine ⟨n+1,?_⟩;rw [Zv];simp (disch:=omega) only [Xy,z3h,y3l,w6k,dlt_f,nlt_t,neq_t,Av,Ag,Ad];exact hn
 | k+1,i,acc,h,ha=>by
  have hle:=D4.ends_length (l.take i);have hacc:acc.length≤2*i:=by grind
  obtain ⟨n,hn⟩:=v5c k (i+1) (acc++D4.ends [rd l i]) (by omega) (by
   rw [ha,Bl];have:l[i]? =some (rd l i):=by grind [Xf]
   rw [this,D4.ends_append];rfl)
  refine ⟨n+1,?_⟩;rw [Zv];simp (disch:=omega) only [Xy,Zn,Zc,dlt_t,din_t,nle_t,nlt_t,neq_t,room_t,wrap_t,cast_succ,beq11,toNat_c,Al,Av,Ap,Aq,Ag,Ad];exact hn
end
def madE (l:List R4):Int:=capE (D4.out l).length
def Jb (l:List R4):List R4:=errL (madE l) (D4.out l)
def z7l (l:List R4):Int:=madE l
def z1d (l:List R4):Bool:=decide (l.length≤400)
theorem v8v (l:List R4) (h:z1d l=true): ∃n,Zo (Xy l) n (y5i l)=.ret (v4e (madE l) (D4.out l)):=by rw [show v4e (madE l) (D4.out l)=y3v (D4.out l) from (w6n _).symm];exact v5c l (As h) l.length 0 [] (Al _) rfl
def vl4V (a b c d:Int):Bool:=y2c ⟨a,b,c,d⟩
theorem v6c (a b c d:Int): ∃N,Zo (y9x a b c d) N (z8h a b c d)=.ret [.bool (vl4V a b c d)]:=⟨0,by
 unfold z8h vl4V y2c;simp only [bif_and];cases decide (a<c) <;> cases decide (b<d) <;> cases decide (a≥ -1000000) <;> cases decide (a≤1000000) <;> cases decide (c≥ -1000000) <;> cases decide (c≤1000000) <;> cases decide (b≥ -1000000) <;> cases decide (b≤1000000) <;> cases decide (d≥ -1000000) <;> rfl⟩
def fVl4 :List AVal→Option (AVal×Bool)
 | [.agg [.int .i64 aA,.int .i64 aG,.int .i64 aH,.int .i64 aF]]=>some (.bool (vl4V aA aG aH aF),true)
 | _=>none
theorem u0f {S:Specs} (hS:Zw prog S):Zw prog (S.with x6j fVl4):=by
 refine fOne hS (by kernel_rfl) fun args v h=> ?_;unfold fVl4 at h;split at h
 ·rename_i aA aG aH aF;simp only [Ab,Aa,and_true] at h;subst h;obtain ⟨N,hN⟩:=v6c aA aG aH aF;exact ⟨_,_,(.cons (.refl _) .nil),rfl,w7h aA aG aH aF N _ hN,3,rfl⟩
 ·cases h
def fMad :List AVal→Option (AVal×Bool)
 | [a0]=>match asL R4 a0 with
  | some (L0,g0,n0)=>some (.tup [.dat (Jb L0).length (Zy (Jb L0)),.int .i64 (z7l L0)],isT R4 n0 g0&&(z1d L0))
  | _=>none
 | _=>none
theorem u1h {S:Specs} (hS:Zw prog S):Zw prog (S.with w4u fMad):=by
 refine fTwo hS (by kernel_rfl) fun args v h=> ?_;unfold fMad at h;split at h
 ·rename_i a0;split at h
  ·rename_i L0 g0 n0 e0;simp only [Ab,Aa,Ac] at h;obtain ⟨rfl,ho0,hw⟩:=h;obtain ⟨N,hN⟩:=v8v L0 hw;exact ⟨_,_,(.cons (Yg e0 ho0) .nil),w9a _ _,v0d L0 N _ hN,3,v8f _ _⟩
  ·cases h
 ·cases h
def T6v :Specs:=(T6.with x6j fVl4)
theorem T6v_ok :Zw prog T6v:=(u0f Vo)
def T6m :Specs:=(T6v.with w4u fMad)
theorem y1x :Zw prog T6m:=(u1h T6v_ok)
inductive rgmS where
 | h0 (v8:Int)
def rgmC (l0:List R4):rgmS→Cfg
 | .h0 v8=>⟨⟨19,0,true⟩,none,(Zm prog 142 [1,0,1,0,0] 0),none,(Zz prog 4),⟨Yx [(0,(.dat l0.length (Zy l0))),(1,(.fn 113 [])),(7,(ii (l0.length:Int))),(8,(ii v8))],Xj [] 0,0,[],true⟩,[⟨⟨9,0,true⟩,(z1q prog 112 [1,0] 2),(Zm prog 112 [1,0] 1),none,(Zz prog 4),Yx [(5,(.dat l0.length (Zy l0))),(6,(.fn 113 []))]⟩,⟨⟨13,0,true⟩,(z1q prog 86 [1,1,0,0] 1),(Zm prog 86 [1,1,0,0] 1),none,(Zz prog 17),Yx [(0,(.dat l0.length (Zy l0))),(7,(.dat l0.length (Zy l0)))]⟩],.leaf⟩
def rgmN0 :List (Option (List Nat)):=[some [0,1,7,8],some [5,6],some [0,7]]
def rgmM0 :List (Option (List Nat)):=[]
def z0z (l0:List R4):rgmS→Ya rgmS
 | .h0 v8=>(bif (decide (v8<(l0.length:Int))) then (bif ((decide (0≤v8∧v8<(l0.length:Int)))&&true) then (bif (!(vl4V (rd l0 v8.toNat).a (rd l0 v8.toNat).b (rd l0 v8.toNat).c (rd l0 v8.toNat).d)) then (bif (decide (v8≥0)) then (.ret [.nils,(.int .i64 8)]) else (bif (z1d (cvT l0)) then (.ret [(.dat (Jb (cvT l0)).length (Zy (Jb (cvT l0)))),(.int .i64 (z7l (cvT l0)))]) else .stuck)) else (.to (.h0 (wrap .i64 (v8+1))))) else .stuck) else (bif (z1d (cvT l0)) then (.ret [(.dat (Jb (cvT l0)).length (Zy (Jb (cvT l0)))),(.int .i64 (z7l (cvT l0)))]) else .stuck))
def z4j (l0:List R4):Ya rgmS:=(bif (decide ((l0.length:Int)>400)) then (.ret [.nils,(.int .i64 4)]) else (.to (.h0 0)))
theorem x9d (l0:List R4): ∀s,Yh prog (Zz prog 86) (rgmC l0) (rgmC l0 s) (z0z l0 s)
 | .h0 v8=>(lb (fun k0=>(lo fun aI=>(lb (fun k1=>(lb (fun k2=>(lr 13 86 [1,1,0,1,0,0] 1 17 [(2,.nils),(3,(ii 8))] (sl y1x 54 [] ⟨[],[],[some [2,3]],[]⟩ ⟨[],[],[]⟩ (trs 3 []) (tt k2 (tt k1 (ww aI (tt k0 nn))))))) (fun k2=>(lo fun o0=>(lr 13 3 [1,1,1,1,1,1,1,1,0] 1 17 [(2,(.dat (Jb (cvT l0)).length (Zy (Jb (cvT l0))))),(3,(ii (z7l (cvT l0))))] (sl y1x 59 [] ⟨[],[],[some [2,3]],[]⟩ ⟨[],[],[]⟩ (bl 3 3) (pp (pp (xr l0) (xw o0)) (tt k2 (tt k1 (ww aI (tt k0 nn))))))))))) (fun k1=>(sl y1x 44 [] ⟨[],[],rgmN0,rgmM0⟩ ⟨[],[],[]⟩ (bl 2 1) (tt k1 (ww aI (tt k0 nn)))))))) (fun k0=>(lo fun o0=>(lr 13 3 [1,1,1,1,1,1,1,1,0] 1 17 [(2,(.dat (Jb (cvT l0)).length (Zy (Jb (cvT l0))))),(3,(ii (z7l (cvT l0))))] (sl y1x 28 [] ⟨[],[],[some [2,3]],[]⟩ ⟨[],[],[]⟩ (bl 2 0) (pp (pp (xr l0) (xw o0)) (tt k0 nn)))))))
theorem x1r (l0:List R4):Yh prog (Zz prog 86) (rgmC l0) (Zj prog 86 [(.dat l0.length (Zy l0))] true []) (z4j l0):=(lb (fun k0=>(lr 13 86 [1,0,1,0,0] 1 17 [(2,.nils),(3,(ii 4))] (sl y1x 18 [] ⟨[],[],[some [2,3]],[]⟩ ⟨[],[],[]⟩ [true] (tt k0 nn)))) (fun k0=>(sl y1x 41 [] ⟨[],[],rgmN0,rgmM0⟩ ⟨[],[],[]⟩ [false] (tt k0 nn))))
theorem w8x (l0:List R4) (n:Nat) (vs:List AVal) (h:Zo (z0z l0) n (z4j l0)=.ret vs):Ws prog (Zz prog 86) (Zj prog 86 [(.dat l0.length (Zy l0))] true []) vs:=by have:=Zk (x9d l0) n _ (x1r l0);rwa [h] at this
theorem v4c (l:List R4) (hl:l.length≤400): ∀(k i:Nat),i+k=l.length→(∀s∈l.take i,y2c s=true)→ ∃n,Zo (z0z l) n (.to (.h0 (i:Int)))=.ret (bif l.all y2c then [.dat (Jb l).length (Zy (Jb l)),.int .i64 (z7l l)] else [.nils,.int .i64 8])
 | 0,i,h,ht=>by
  have hv:l.all y2c=true:=Aw.2 fun s hs=>ht s (by grind);have w:z1d l=true:=Ae hl;refine ⟨1,?_⟩
  grind [Zv,z0z,Zn,Zp]
 | k+1,i,h,ht=>by
  have hi:i<l.length:=by omega
  have hs:z0z l (.h0 (i:Int))=bif y2c (rd l i) then .to (.h0 ((i+1:Nat):Int)) else .ret [.nils,.int .i64 8]:=by have e:vl4V (rd l i).a (rd l i).b (rd l i).c (rd l i).d =y2c (rd l i):=rfl;simp (disch:=omega) only [z0z,e,bif_not,w6c,v5q,din_t,wrap_t,cast_succ,toNat_c,Ap,Ag,Ad]
  rcases boolc (y2c (rd l i)) with q | q
  ·obtain ⟨n,hn⟩:=v4c l hl k (i+1) (by omega) (fun s hs=>by
    rw [Bl] at hs
    grind [Xf])
   refine ⟨n+1,?_⟩
   grind [Zv]
  ·have hv:l.all y2c=false:=A3.2 fun e=>by
    grind [Xf]
   refine ⟨1,?_⟩
   grind [Zv,Zp]
theorem w8w (l:List R4): ∃n,Zo (z0z l) n (z4j l)=.ret (bif decide (400<l.length) then [.nils,.int .i64 4] else bif l.all y2c then [.dat (Jb l).length (Zy (Jb l)),.int .i64 (z7l l)] else [.nils,.int .i64 8]):=by
 unfold z4j;by_cases h:400<l.length
 ·refine ⟨0,?_⟩;rw [Ae h,dgt_t (show (l.length:Int)>400 by omega)];rfl
 ·obtain ⟨n,hn⟩:=v4c l (by omega) l.length 0 (Al _) (fun s hs=>by simp at hs)
  grind
def Xu (l:List R4):List R4:=bif decide (400<l.length) then [] else bif l.all y2c then (bif decide (((D4.out l).length :Int)>400) then [] else D4.out l) else []
def z4l (l:List R4):Int:=bif decide (400<l.length) then 4 else bif l.all y2c then (bif decide (((D4.out l).length :Int)>400) then 4 else 0) else 8
def z4k (l:List R4):Bool:=true
theorem v8b (l:List R4) (h:z4k l=true): ∃n,Zo (z0z l) n (z4j l)=.ret (bif decide (400<l.length) then [.nils,.int .i64 4] else bif l.all y2c then [.dat (Xu l).length (Zy (Xu l)),.int .i64 (z4l l)] else [.nils,.int .i64 8]):=by
 obtain ⟨n,hn⟩:=w8w l
 grind [Jb,Xu,madE,errL,capE,z7l,z4l]
def fRgm :List AVal→Option (AVal×Bool)
 | [a0]=>match asL R4 a0 with
  | some (L0,g0,n0)=>some (.tup [.dat (Xu L0).length (Zy (Xu L0)),.int .i64 (z4l L0)],isT R4 n0 g0&&(z4k L0))
  | _=>none
 | _=>none
theorem u0w {S:Specs} (hS:Zw prog S):Zw prog (S.with x6k fRgm):=by
 refine fTwo hS (by kernel_rfl) fun args v h=> ?_;unfold fRgm at h;split at h
 ·rename_i a0;split at h
  ·rename_i L0 g0 n0 e0;simp only [Ab,Aa,Ac] at h;obtain ⟨rfl,ho0,hw⟩:=h;obtain ⟨N,hN⟩:=v8b L0 hw;refine ⟨_,_,(.cons (Yg e0 ho0) .nil),?_,w8x L0 N _ hN,3,?_⟩
   ·cases h1:decide (400<L0.length) <;> cases h2:L0.all y2c <;> simp only [Xu,z4l,h1,h2,Ag,Ad]
    ·exact fun ρ u hu=>z9o (.cons (z3c R4) (RLe.refl _)) ρ u hu
    ·exact fun ρ u hu=>hu
    ·exact fun ρ u hu=>z9o (.cons (z3c R4) (RLe.refl _)) ρ u hu
    ·exact fun ρ u hu=>z9o (.cons (z3c R4) (RLe.refl _)) ρ u hu
   ·cases decide (400<L0.length) <;> cases L0.all y2c <;> rfl
  ·cases h
 ·cases h
def T7 :Specs:=(T6m.with x6k fRgm)
theorem y9r :Zw prog T7:=(u0w y1x)
inductive vl6S where
def vl6C (aA:Int) (aG:Int) (aH:Int) (aF:Int) (aY:Int) (aZ:Int):vl6S→Cfg
 :=nofun
def y9v (aA:Int) (aG:Int) (aH:Int) (aF:Int) (aY:Int) (aZ:Int):vl6S→Ya vl6S
 :=nofun
def z8g (aA:Int) (aG:Int) (aH:Int) (aF:Int) (aY:Int) (aZ:Int):Ya vl6S:=(bif (decide (aA<aF)) then (bif (decide (aG<aY)) then (bif (decide (aH<aZ)) then (bif (decide ((y6q (y6q aA aG) aH)≥(-1000000))) then (bif (decide ((y6r (y6r aA aG) aH)≤1000000)) then (bif (decide ((y6q (y6q aF aY) aZ)≥(-1000000))) then (.ret [(.bool (decide ((y6r (y6r aF aY) aZ)≤1000000)))]) else (.ret [(.bool false)])) else (.ret [(.bool false)])) else (.ret [(.bool false)])) else (.ret [(.bool false)])) else (.ret [(.bool false)])) else (.ret [(.bool false)]))
theorem x7n (aA:Int) (aG:Int) (aH:Int) (aF:Int) (aY:Int) (aZ:Int): ∀s,Yh prog (Zz prog 52) (vl6C aA aG aH aF aY aZ) (vl6C aA aG aH aF aY aZ s) (y9v aA aG aH aF aY aZ s)
 :=nofun
theorem y9w (aA:Int) (aG:Int) (aH:Int) (aF:Int) (aY:Int) (aZ:Int):Yh prog (Zz prog 52) (vl6C aA aG aH aF aY aZ) (Zj prog 52 [(.agg [(.int .i64 aA),(.int .i64 aG),(.int .i64 aH),(.int .i64 aF),(.int .i64 aY),(.int .i64 aZ)])] true []) (z8g aA aG aH aF aY aZ):=(lb (fun k0=>(lb (fun k1=>(lb (fun k2=>(lb (fun k3=>(lb (fun k4=>(lb (fun k5=>(lr 38 3 [1,1,1,1,1,1,1,1,0] 1 5 [(2,(.bool (decide ((y6r (y6r aF aY) aZ)≤1000000))))] (sl y9r 100 [] ⟨[],[],[some [2]],[]⟩ ⟨[],[],[]⟩ (trs 36 []) (tt k5 (tt k4 (tt k3 (tt k2 (tt k1 (tt k0 nn))))))))) (fun k5=>(lr 38 3 [1,1,1,1,1,1,1,1,0] 1 5 [(2,(.bool false))] (sl y9r 100 [] ⟨[],[],[some [2]],[]⟩ ⟨[],[],[]⟩ (trs 28 [false,false,false,false,false,false,false,false]) (tt k5 (tt k4 (tt k3 (tt k2 (tt k1 (tt k0 nn))))))))))) (fun k4=>(lr 38 3 [1,1,1,1,1,1,1,1,0] 1 5 [(2,(.bool false))] (sl y9r 72 [] ⟨[],[],[some [2]],[]⟩ ⟨[],[],[]⟩ (trs 25 [false,false,false]) (tt k4 (tt k3 (tt k2 (tt k1 (tt k0 nn)))))))))) (fun k3=>(lr 38 3 [1,1,1,1,1,1,1,1,0] 1 5 [(2,(.bool false))] (sl y9r 72 [] ⟨[],[],[some [2]],[]⟩ ⟨[],[],[]⟩ (trs 17 [false,false,false,false,false,false,false,false,false,false,false]) (tt k3 (tt k2 (tt k1 (tt k0 nn))))))))) (fun k2=>(lr 38 3 [1,1,1,1,1,1,1,1,0] 1 5 [(2,(.bool false))] (sl y9r 44 [] ⟨[],[],[some [2]],[]⟩ ⟨[],[],[]⟩ (trs 14 [false,false,false,false,false,false]) (tt k2 (tt k1 (tt k0 nn)))))))) (fun k1=>(lr 38 3 [1,1,1,1,1,1,1,1,0] 1 5 [(2,(.bool false))] (sl y9r 44 [] ⟨[],[],[some [2]],[]⟩ ⟨[],[],[]⟩ (trs 7 [false,false,false,false,false,false,false,false,false,false,false,false,false]) (tt k1 (tt k0 nn))))))) (fun k0=>(lr 38 3 [1,1,1,1,1,1,1,1,0] 1 5 [(2,(.bool false))] (sl y9r 44 [] ⟨[],[],[some [2]],[]⟩ ⟨[],[],[]⟩ [false,false,false,false,false,false,false,false,false,false,false,false,false,false,false,false,false,false,false,false] (tt k0 nn)))))
theorem w7g (aA:Int) (aG:Int) (aH:Int) (aF:Int) (aY:Int) (aZ:Int) (n:Nat) (vs:List AVal) (h:Zo (y9v aA aG aH aF aY aZ) n (z8g aA aG aH aF aY aZ)=.ret vs):Ws prog (Zz prog 52) (Zj prog 52 [(.agg [(.int .i64 aA),(.int .i64 aG),(.int .i64 aH),(.int .i64 aF),(.int .i64 aY),(.int .i64 aZ)])] true []) vs:=by have:=Zk (x7n aA aG aH aF aY aZ) n _ (y9w aA aG aH aF aY aZ);rwa [h] at this
def y6w (r:R6):Bool:=decide (r.a<r.d)&&(decide (r.b<r.e)&&(decide (r.c<r.f)&&(decide ((y6q (y6q r.a r.b) r.c)≥(-1000000))&&(decide ((y6r (y6r r.a r.b) r.c)≤1000000)&&(decide ((y6q (y6q r.d r.e) r.f)≥(-1000000))&&decide ((y6r (y6r r.d r.e) r.f)≤1000000))))))
def vl6V (a b c d e f:Int):Bool:=y6w ⟨a,b,c,d,e,f⟩
theorem v6b (a b c d e f:Int): ∃N,Zo (y9v a b c d e f) N (z8g a b c d e f)=.ret [.bool (vl6V a b c d e f)]:=⟨0,by
 unfold z8g vl6V y6w;simp only [bif_and];cases decide (a<d) <;> cases decide (b<e) <;> cases decide (c<f) <;> cases decide ((y6q (y6q a b) c)≥(-1000000)) <;> cases decide ((y6r (y6r a b) c)≤1000000) <;> cases decide ((y6q (y6q d e) f)≥(-1000000)) <;> rfl⟩
def fVl6 :List AVal→Option (AVal×Bool)
 | [.agg [.int .i64 aA,.int .i64 aG,.int .i64 aH,.int .i64 aF,.int .i64 aY,.int .i64 aZ]]=>some (.bool (vl6V aA aG aH aF aY aZ),true)
 | _=>none
theorem u0e {S:Specs} (hS:Zw prog S):Zw prog (S.with x6i fVl6):=by
 refine fOne hS (by kernel_rfl) fun args v h=> ?_;unfold fVl6 at h;split at h
 ·rename_i aA aG aH aF aY aZ;simp only [Ab,Aa,and_true] at h;subst h;obtain ⟨N,hN⟩:=v6b aA aG aH aF aY aZ;exact ⟨_,_,(.cons (.refl _) .nil),rfl,w7g aA aG aH aF aY aZ N _ hN,3,rfl⟩
 ·cases h
def T7v :Specs:=(T7.with x6i fVl6)
theorem Wp :Zw prog T7v:=(u0e y9r)
inductive sckS where
 | h0 (v8:Int)
 | h1 (v16:Int) (aC:List Int)
 | h2 (v4:Int) (aR:List R6) (bN:List R4) (bT:Int) (bU:Int) (aP:Nat) (aU:List Int)
 | h3 (v4:Int) (v38:Int) (aR:List R6) (bN:List R4) (bT:Int) (bU:Int) (aP:Nat) (aU:List Int) (bJ:Int) (cA:Int) (aJ:List R4)
 | h4 (v1:Int) (v2:Int) (v72:List R4) (v73:Int) (v74:Int) (bL:List R4) (bD:Int) (aE:List R6) (bB:List R4) (bE:Int) (aP:Nat) (aU:List Int) (bJ:List R4)
 | h5 (v2:Int) (v8:Int) (cG:Int) (bL:List R4) (bD:Int) (aE:List R6) (bB:List R4) (bE:Int) (bO:Int) (bW:Nat) (cE:List Int) (aJ:List R4)
def sckC (l0:List R6):sckS→Cfg
 | .h0 v8=>⟨⟨19,0,true⟩,none,(Zm prog 83 [1,0,1,0,0] 0),none,(Zz prog 4),⟨Yx [(0,(.dat l0.length (Zy l0))),(1,(.fn 51 [])),(7,(ii (l0.length:Int))),(8,(ii v8))],Xj [] 0,0,[],true⟩,[⟨⟨9,0,true⟩,(z1q prog 50 [1,0] 2),(Zm prog 50 [1,0] 1),none,(Zz prog 4),Yx [(5,(.dat l0.length (Zy l0))),(6,(.fn 51 []))]⟩,⟨⟨25,0,true⟩,(z1q prog 29 [1,1,0,0] 1),(Zm prog 29 [1,1,0,0] 1),none,(Zz prog 5),Yx [(0,(.dat l0.length (Zy l0))),(8,(.dat l0.length (Zy l0)))]⟩],.leaf⟩
 | .h1 v16 aC=>⟨⟨36,0,true⟩,none,(Zm prog 85 [1,1,0,1,0,0,1,1,0,0,1,1,0,0] 0),none,(Zz prog 5),⟨Yx [(1,(.ptr 0 0)),(3,(.ptr 2 0)),(8,(.sl 1 0 1 (.un 1))),(9,(ii 1)),(10,(ii 0)),(14,(.dat l0.length (Zy l0))),(15,(ii (l0.length:Int))),(16,(ii v16))],Xj [⟨[(.sl 1 0 1 (.un 1))],137,none⟩,⟨[(.dat l0.length (Zy l0))],45,none⟩,⟨[(.sla 7 1 0 aC.length (.un 1))],93,none⟩,⟨[.nilf],99,none⟩,⟨[.nils],46,none⟩,⟨[(ii 0)],24,none⟩,⟨[.nils,.nils,(ii 0),(ii 0)],141,none⟩,⟨rows aC.length (Zy aC),3,some ⟨1,aC.length,(Zy aC)⟩⟩] 0,8,[],true⟩,[⟨⟨65,0,true⟩,(z1q prog 53 [1,1,0,0] 1),(Zm prog 53 [1,1,0,0] 1),none,(Zz prog 53),Yx [(2,(.ptr 3 0)),(4,(.ptr 4 0)),(5,(.ptr 5 0)),(6,(.ptr 6 0)),(13,(.sl 1 0 1 (.un 1)))]⟩,⟨⟨25,0,true⟩,(z1q prog 29 [1,1,1,0,0] 3),(Zm prog 29 [1,1,1,0,0] 1),none,(Zz prog 5),Yx [(0,(.dat l0.length (Zy l0))),(11,(.agg [.nilf])),(13,(.sl 1 0 1 (.un 1)))]⟩],.leaf⟩
 | .h2 v4 aR bN bT bU aP aU=>⟨⟨86,0,true⟩,none,(Zm prog 111 [1,0,0] 0),none,[],⟨Yx [(0,(.yld 0)),(1,(.ptr 5 0)),(2,(.ptr 7 0)),(4,(ii v4))],x6n [(1,⟨[.nilf],99,none⟩),(2,⟨[.nils],46,none⟩),(3,⟨[(ii 0)],24,none⟩),(4,⟨[(.sla 9 6 0 aR.length (.un 6)),(.dat bN.length (Zy bN)),(ii bT),(ii bU)],141,none⟩),(5,⟨[(.sla 6 1 0 aP (.un 1))],93,none⟩),(6,⟨rows aU.length (Zy aU),3,some ⟨1,aU.length,(Zy aU)⟩⟩),(7,⟨[(.sl 8 0 1 (.un 1))],137,none⟩),(8,⟨[(.dat l0.length (Zy l0))],45,none⟩),(9,⟨rows aR.length (Zy aR),76,some ⟨6,aR.length,(Zy aR)⟩⟩)],10,[],true⟩,[⟨⟨65,0,true⟩,none,(.inRangeFunc 0::(Zm prog 53 [1,1,0,1,0] 1)),none,(Zz prog 53),Yx [(4,(.ptr 2 0)),(5,(.ptr 3 0)),(6,(.ptr 4 0))]⟩,⟨⟨25,0,true⟩,(z1q prog 29 [1,1,1,0,0] 3),(Zm prog 29 [1,1,1,0,0] 1),none,(Zz prog 5),Yx [(0,(.dat l0.length (Zy l0))),(11,(.agg [.nilf])),(13,(.sl 8 0 1 (.un 1)))]⟩],(x6o [(0,⟨.ready,none,65,Yx [(2,(.ptr 1 0)),(4,(.ptr 2 0)),(5,(.ptr 3 0)),(6,(.ptr 4 0))],[15],(Uj prog 53 [1,1,0,1,0,0]),(Uj prog 53 [1,1,0,1,0,1])⟩)])⟩
 | .h3 v4 v38 aR bN bT bU aP aU bJ cA aJ=>⟨⟨86,0,true⟩,none,(Zm prog 111 [1,0,0,1,0,0,1,0,1,0,0,1,1,0,0,1,1,0,0] 0),none,[],⟨Yx [(0,(.yld 0)),(1,(.ptr 5 0)),(2,(.ptr 7 0)),(4,(ii v4)),(5,(.ptr 9 0)),(6,(ii 0)),(29,(.sl 8 0 1 (.un 1))),(30,(ii 1)),(31,(ii 0)),(36,(.dat l0.length (Zy l0))),(37,(ii (l0.length:Int))),(38,(ii v38))],x6n [(1,⟨[.nilf],99,none⟩),(2,⟨[.nils],46,none⟩),(3,⟨[(ii 0)],24,none⟩),(4,⟨[(.sla 12 6 0 aR.length (.un 6)),(.dat bN.length (Zy bN)),(ii bT),(ii bU)],141,none⟩),(5,⟨[(.sla 6 1 0 aP (.un 1))],93,none⟩),(6,⟨rows aU.length (Zy aU),3,some ⟨1,aU.length,(Zy aU)⟩⟩),(7,⟨[(.sl 8 0 1 (.un 1))],137,none⟩),(8,⟨[(.dat l0.length (Zy l0))],45,none⟩),(9,⟨[(ii bJ),(ii cA),(.sl 10 0 1 (.ex 1))],146,none⟩),(10,⟨[(.sla 11 4 0 aJ.length (.un 4))],138,none⟩),(11,⟨rows aJ.length (Zy aJ),155,some ⟨4,aJ.length,(Zy aJ)⟩⟩),(12,⟨rows aR.length (Zy aR),76,some ⟨6,aR.length,(Zy aR)⟩⟩)],13,[],true⟩,[⟨⟨65,0,true⟩,none,(.inRangeFunc 0::(Zm prog 53 [1,1,0,1,0] 1)),none,(Zz prog 53),Yx [(4,(.ptr 2 0)),(5,(.ptr 3 0)),(6,(.ptr 4 0))]⟩,⟨⟨25,0,true⟩,(z1q prog 29 [1,1,1,0,0] 3),(Zm prog 29 [1,1,1,0,0] 1),none,(Zz prog 5),Yx [(0,(.dat l0.length (Zy l0))),(11,(.agg [.nilf])),(13,(.sl 8 0 1 (.un 1)))]⟩],(x6o [(0,⟨.ready,none,65,Yx [(2,(.ptr 1 0)),(4,(.ptr 2 0)),(5,(.ptr 3 0)),(6,(.ptr 4 0))],[15],(Uj prog 53 [1,1,0,1,0,0]),(Uj prog 53 [1,1,0,1,0,1])⟩)])⟩
 | .h4 v1 v2 v72 v73 v74 bL bD aE bB bE aP aU bJ=>⟨⟨101,0,true⟩,none,(Zm prog 87 [1,1,1,0,0] 0),none,[],⟨Yx [(0,(.ptr 0 0)),(1,(ii v1)),(2,(ii v2)),(72,(.dat v72.length (Zy v72))),(73,(ii v73)),(74,(ii v74))],x6n [(0,⟨[(.sla 10 6 0 aE.length (.un 6)),(.dat bB.length (Zy bB)),(ii bE),(ii v2)],141,none⟩),(2,⟨[.nilf],99,none⟩),(3,⟨[.nils],46,none⟩),(4,⟨[(ii 0)],24,none⟩),(5,⟨[(.sla 6 1 0 aP (.un 1))],93,none⟩),(6,⟨rows aU.length (Zy aU),3,some ⟨1,aU.length,(Zy aU)⟩⟩),(7,⟨[(.sl 8 0 1 (.un 1))],137,none⟩),(8,⟨[(.dat l0.length (Zy l0))],45,none⟩),(9,⟨[(.dat bJ.length (Zy bJ))],138,none⟩),(10,⟨rows aE.length (Zy aE),76,some ⟨6,aE.length,(Zy aE)⟩⟩)],11,[],true⟩,[⟨⟨65,0,true⟩,(z1q prog 53 [1,1,0,1,0,1,0,1,1,1] 5),(Zm prog 53 [1,1,0,1,0,1,0,1,1,1] 1),(some 1),[],Yx [(6,(.ptr 0 0)),(54,(ii v1)),(56,(ii v2)),(57,(.dat bL.length (Zy bL)))]⟩,⟨⟨86,0,true⟩,(z1q prog 111 [1,0,0,1,0,0,1,1,0] 2),(Zm prog 111 [1,0,0,1,0,0,1,1,0] 1),none,[],Yx [(0,(.yld 1)),(1,(.ptr 5 0)),(2,(.ptr 7 0)),(4,(ii bD)),(82,(.yld 1)),(83,(.agg [(ii v1),(ii v2),(.sl 9 0 1 (.ex 1))]))]⟩,⟨⟨65,0,true⟩,none,(.inRangeFunc 1::(Zm prog 53 [1,1,0,1,0] 1)),none,(Zz prog 53),Yx [(4,(.ptr 3 0)),(5,(.ptr 4 0)),(6,(.ptr 0 0))]⟩,⟨⟨25,0,true⟩,(z1q prog 29 [1,1,1,0,0] 3),(Zm prog 29 [1,1,1,0,0] 1),none,(Zz prog 5),Yx [(0,(.dat l0.length (Zy l0))),(11,(.agg [.nilf])),(13,(.sl 8 0 1 (.un 1)))]⟩],(x6o [(1,⟨.busy,none,65,Yx [(2,(.ptr 2 0)),(4,(.ptr 3 0)),(5,(.ptr 4 0)),(6,(.ptr 0 0))],[15],(Uj prog 53 [1,1,0,1,0,0]),(Uj prog 53 [1,1,0,1,0,1])⟩)])⟩
 | .h5 v2 v8 cG bL bD aE bB bE bO bW cE aJ=>⟨⟨101,0,true⟩,none,(Zm prog 87 [0,1,0,0,1,0,0] 0),none,[],⟨Yx [(0,(.ptr 0 0)),(2,(ii v2)),(8,(ii v8))],x6n [(0,⟨[(.sla 1 6 0 aE.length (.un 6)),(.dat bB.length (Zy bB)),(ii bE),(ii bO)],141,none⟩),(1,⟨rows aE.length (Zy aE),76,some ⟨6,aE.length,(Zy aE)⟩⟩),(3,⟨[.nilf],99,none⟩),(4,⟨[.nils],46,none⟩),(5,⟨[(ii 0)],24,none⟩),(6,⟨[(.sla 7 1 0 bW (.un 1))],93,none⟩),(7,⟨rows cE.length (Zy cE),3,some ⟨1,cE.length,(Zy cE)⟩⟩),(8,⟨[(.sl 9 0 1 (.un 1))],137,none⟩),(9,⟨[(.dat l0.length (Zy l0))],45,none⟩),(10,⟨[(.dat aJ.length (Zy aJ))],138,none⟩)],11,[],true⟩,[⟨⟨65,0,true⟩,(z1q prog 53 [1,1,0,1,0,1,0,1,1,1] 5),(Zm prog 53 [1,1,0,1,0,1,0,1,1,1] 1),(some 2),[],Yx [(6,(.ptr 0 0)),(54,(ii cG)),(56,(ii v2)),(57,(.dat bL.length (Zy bL)))]⟩,⟨⟨86,0,true⟩,(z1q prog 111 [1,0,0,1,0,0,1,1,0] 2),(Zm prog 111 [1,0,0,1,0,0,1,1,0] 1),none,[],Yx [(0,(.yld 2)),(1,(.ptr 6 0)),(2,(.ptr 8 0)),(4,(ii bD)),(82,(.yld 2)),(83,(.agg [(ii cG),(ii v2),(.sl 10 0 1 (.ex 1))]))]⟩,⟨⟨65,0,true⟩,none,(.inRangeFunc 2::(Zm prog 53 [1,1,0,1,0] 1)),none,(Zz prog 53),Yx [(4,(.ptr 4 0)),(5,(.ptr 5 0)),(6,(.ptr 0 0))]⟩,⟨⟨25,0,true⟩,(z1q prog 29 [1,1,1,0,0] 3),(Zm prog 29 [1,1,1,0,0] 1),none,(Zz prog 5),Yx [(0,(.dat l0.length (Zy l0))),(11,(.agg [.nilf])),(13,(.sl 9 0 1 (.un 1)))]⟩],(x6o [(2,⟨.busy,none,65,Yx [(2,(.ptr 3 0)),(4,(.ptr 4 0)),(5,(.ptr 5 0)),(6,(.ptr 0 0))],[15],(Uj prog 53 [1,1,0,1,0,0]),(Uj prog 53 [1,1,0,1,0,1])⟩)])⟩
def sckN0 :List (Option (List Nat)):=[some [0,1,7,8],some [5,6],some [0,8]]
def sckM0 :List (Option (List Nat)):=[]
def v6n :List (Option (List Nat)):=[some [1,3,8,9,10,14,15,16],some [2,4,5,6,13],some [0,11,13]]
def v6p :List (Option (List Nat)):=[]
def v6m :List (Option (List Nat)):=[some [0,1,2,4],some [4,5,6],some [0,11,13]]
def v6o :List (Option (List Nat)):=[some [2,4,5,6],none,none,none,none,none,none,none,none,none]
def w7p :List (Option (List Nat)):=[some [0,1,2,4,5,6,29,30,31,36,37,38],some [4,5,6],some [0,11,13]]
def w7r :List (Option (List Nat)):=[some [2,4,5,6],none,none,none,none,none,none,none,none,none,none,none,none]
def w7o :List (Option (List Nat)):=[some [0,1,2,72,73,74],some [6,54,56,57],some [0,1,2,4,82,83],some [4,5,6],some [0,11,13]]
def w7q :List (Option (List Nat)):=[none,some [2,4,5,6],none,none,none,none,none,none,none,none,none]
def sckN5 :List (Option (List Nat)):=[some [0,2,8],some [6,54,56,57],some [0,1,2,4,82,83],some [4,5,6],some [0,11,13]]
def sckM5 :List (Option (List Nat)):=[none,none,some [2,4,5,6],none,none,none,none,none,none,none,none]
def Ye (l0:List R6):sckS→Ya sckS
 | .h0 v8=>(bif (decide (v8<(l0.length:Int))) then (bif ((decide (0≤v8∧v8<(l0.length:Int)))&&true) then (bif (!(vl6V (rd l0 v8.toNat).a (rd l0 v8.toNat).b (rd l0 v8.toNat).c (rd l0 v8.toNat).d (rd l0 v8.toNat).e (rd l0 v8.toNat).f)) then (bif (decide (v8≥0)) then (.ret [(.int .i64 8)]) else (.to (.h1 0 ([]:List Int)))) else (.to (.h0 (wrap .i64 (v8+1))))) else .stuck) else (.to (.h1 0 ([]:List Int))))
 | .h1 v16 aC=>(bif (decide (v16<(l0.length:Int))) then (bif ((decide (0≤v16∧v16<(l0.length:Int)))&&true) then (bif (Nat.beq 1 1&&((decide (0+aC.length=aC.length))&&decide ((aC.length+2+1)*(8+1)≤Jq))) then (.to (.h1 (wrap .i64 (v16+1)) (aC++[(rd l0 v16.toNat).c,(rd l0 v16.toNat).f]))) else .stuck) else .stuck) else (bif (decide (aC.length<4611686018427387904)) then (bif (decide (aC.length=aC.length)) then (.to (.h2 1 ([]:List R6) ([]:List R4) 0 0 (cmpN (Yw aC.length (cOf (Zy (Vv (Yw aC.length (cOf (Zy aC)))))))) (Jv (Yw aC.length (cOf (Zy (Vv (Yw aC.length (cOf (Zy aC)))))))))) else .stuck) else .stuck))
 | .h2 v4 aR bN bT bU aP aU=>(bif (decide (v4<((aP:Nat):Int))) then (bif ((decide (0≤(wrap .i64 (v4 - 1))∧(wrap .i64 (v4 - 1))<((aP:Nat):Int)))&&true) then (bif (decide ((0+(Int.toNat (wrap .i64 (v4 - 1))))<aU.length)) then (bif ((decide (0≤v4∧v4<((aP:Nat):Int)))&&true) then (bif (decide ((0+v4.toNat)<aU.length)) then (.to (.h3 v4 0 aR bN bT bU aP aU (rd aU (0+(Int.toNat (wrap .i64 (v4 - 1))))) (rd aU (0+v4.toNat)) ([]:List R4))) else .stuck) else .stuck) else .stuck) else .stuck) else (bif (decide ((aR.length:Int)>400)) then (.ret [(.int .i64 8)]) else (bif (Nat.beq 6 6&&(decide (0+aR.length≤aR.length)&&Ji (Zy aR))) then (bif (Vj (lst R6 (aR.length) (fun k=>(Zy aR) (0+k))) (cvT l0)) then (bif (!(Ko (lst R6 (aR.length) (fun k=>(Zy aR) (0+k))) (cvT l0))) then (.ret [(.int .i64 8)]) else (.ret [(.int .i64 0)])) else .stuck) else .stuck)))
 | .h3 v4 v38 aR bN bT bU aP aU bJ cA aJ=>(bif (decide (v38<(l0.length:Int))) then (bif ((decide (0≤v38∧v38<(l0.length:Int)))&&true) then (bif (decide ((rd l0 v38.toNat).c ≤bJ)) then (bif (decide (bJ<(rd l0 v38.toNat).f)) then (bif (Nat.beq 4 4&&((decide (0+aJ.length=aJ.length))&&decide ((aJ.length+1+1)*(32+1)≤Jq))) then (.to (.h3 v4 (wrap .i64 (v38+1)) aR bN bT bU aP aU bJ cA (aJ++[(R4.mk (rd l0 v38.toNat).a (rd l0 v38.toNat).b (rd l0 v38.toNat).d (rd l0 v38.toNat).e)]))) else .stuck) else (.to (.h3 v4 (wrap .i64 (v38+1)) aR bN bT bU aP aU bJ cA aJ))) else (.to (.h3 v4 (wrap .i64 (v38+1)) aR bN bT bU aP aU bJ cA aJ))) else .stuck) else (bif (z4k (cvT aJ)) then (bif ((z4l (cvT aJ)) != 0) then (.ret [(.int .i64 8)]) else (bif (decide ((((Xu (cvT aJ)).length :Nat):Int)>0)) then (bif (bU == bJ) then (bif (Vk (cvT bN) (cvT (Xu (cvT aJ)))) then (bif (Js (cvT bN) (cvT (Xu (cvT aJ)))) then (.to (.h5 cA bT bJ (Xu (cvT aJ)) v4 aR bN bT bU aP aU aJ)) else (.to (.h4 bJ cA (Xu (cvT aJ)) (((Xu (cvT aJ)).length :Nat):Int) 0 (Xu (cvT aJ)) v4 aR (Xu (cvT aJ)) (aR.length:Int) aP aU aJ))) else .stuck) else (.to (.h4 bJ cA (Xu (cvT aJ)) (((Xu (cvT aJ)).length :Nat):Int) 0 (Xu (cvT aJ)) v4 aR (Xu (cvT aJ)) (aR.length:Int) aP aU aJ))) else (.to (.h4 bJ cA (Xu (cvT aJ)) (((Xu (cvT aJ)).length :Nat):Int) 0 (Xu (cvT aJ)) v4 aR (Xu (cvT aJ)) (aR.length:Int) aP aU aJ)))) else .stuck))
 | .h4 v1 v2 v72 v73 v74 bL bD aE bB bE aP aU bJ=>(bif (decide (v74<v73)) then (bif ((decide (0≤v74∧v74<(v72.length:Int)))&&true) then (bif (Nat.beq 6 6&&((decide (0+aE.length=aE.length))&&decide ((aE.length+1+1)*(48+1)≤Jq))) then (.to (.h4 v1 v2 v72 v73 (wrap .i64 (v74+1)) bL bD (aE++[(R6.mk (rd v72 v74.toNat).a (rd v72 v74.toNat).b v1 (rd v72 v74.toNat).c (rd v72 v74.toNat).d v2)]) bB bE aP aU bJ)) else .stuck) else .stuck) else (.to (.h2 (wrap .i64 (bD+1)) aE bB bE v2 aP aU)))
 | .h5 v2 v8 cG bL bD aE bB bE bO bW cE aJ=>(bif (decide (v8<(aE.length:Int))) then (bif ((decide (0≤v8∧v8<(aE.length:Int)))&&true) then (bif (decide ((0+v8.toNat)<aE.length)) then (.to (.h5 v2 (wrap .i64 (v8+1)) cG bL bD (aE.set (0+v8.toNat) (R6.mk (rd aE (0+v8.toNat)).a (rd aE (0+v8.toNat)).b (rd aE (0+v8.toNat)).c (rd aE (0+v8.toNat)).d (rd aE (0+v8.toNat)).e v2)) bB bE bO bW cE aJ)) else .stuck) else .stuck) else (.to (.h2 (wrap .i64 (bD+1)) aE bB bE v2 bW cE)))
def z8k (l0:List R6):Ya sckS:=(bif (decide ((l0.length:Int)>400)) then (.ret [(.int .i64 4)]) else (.to (.h0 0)))
theorem x8c (l0:List R6): ∀s,Yh prog (Zz prog 29) (sckC l0) (sckC l0 s) (Ye l0 s)
 | .h0 v8=>(lb (fun k0=>(lo fun aI=>(lb (fun k1=>(lb (fun k2=>(lr 25 29 [1,1,0,1,0,0] 1 5 [(2,(ii 8))] (sl Wp 53 [] ⟨[],[],[some [2]],[]⟩ ⟨[],[],[]⟩ (trs 3 []) (tt k2 (tt k1 (ww aI (tt k0 nn))))))) (fun k2=>(sl Wp 113 [(3,1,Zy ([]:List Int))] ⟨[6,1,7,2,3,4,5,8],[],v6n,v6p⟩ ⟨[],[.keep,.keep,.cells [.grow 7 1],.keep,.keep,.keep,.keep,.keep],[]⟩ (bl 4 11) (pp (fl ([]:List Int) nn) (tt k2 (tt k1 (ww aI (tt k0 nn))))))))) (fun k1=>(sl Wp 44 [] ⟨[],[],sckN0,sckM0⟩ ⟨[],[],[]⟩ (bl 2 1) (tt k1 (ww aI (tt k0 nn)))))))) (fun k0=>(sl Wp 82 [(3,1,Zy ([]:List Int))] ⟨[5,0,6,1,2,3,4,7],[],v6n,v6p⟩ ⟨[],[.keep,.keep,.cells [.grow 7 1],.keep,.keep,.keep,.keep,.keep],[]⟩ (bl 3 4) (pp (fl ([]:List Int) nn) (tt k0 nn)))))
 | .h1 v16 aC=>(lb (fun k0=>(lo fun o0=>(lo fun o1=>(sl Wp 34 [] ⟨[0,1,2,3,4,5,6,10],[],v6n,v6p⟩ ⟨[],[.keep,.keep,.cells [.len (aC++[(rd l0 (tn v16)).c,(rd l0 (tn v16)).f]).length],.keep,.keep,.keep,.keep,.rowed 1 (aC++[(rd l0 (tn v16)).c,(rd l0 (tn v16)).f]).length (Zy (aC++[(rd l0 (tn v16)).c,(rd l0 (tn v16)).f]))],[]⟩ [true] (pp (xL (aC.length+2) (aC++[(rd l0 (tn v16)).c,(rd l0 (tn v16)).f]).length) (pp (xL (aC.length+2) (aC++[(rd l0 (tn v16)).c,(rd l0 (tn v16)).f]).length) (pp (xS (aC.length+2) (Ze (Zy aC) 0 aC.length 1 [(ii (rd l0 (tn v16)).c),(ii (rd l0 (tn v16)).f)]) (Zy (aC++[(rd l0 (tn v16)).c,(rd l0 (tn v16)).f]))) (pp (pp (xF (Ze (Zy aC) 0 aC.length 1 [(ii (rd l0 (tn v16)).c),(ii (rd l0 (tn v16)).f)])) nn) (ww o1 (ww o0 (tt k0 nn))))))))))) (fun k0=>(lo fun o0=>(lo fun o1=>(sl Wp 46 [(76,6,Zy ([]:List R6))] ⟨[8,3,4,5,6,2,7,0,1,9],[],v6m,v6o⟩ ⟨[],(kpB 4 [.cells [.grow 9 6,.list 0 (Zy ([]:List R4)),.keep,.keep],.keep,.rowed 1 (Jv (Yw aC.length (cOf (Zy (Vv (Yw aC.length (cOf (Zy aC)))))))).length (Zy (Jv (Yw aC.length (cOf (Zy (Vv (Yw aC.length (cOf (Zy aC))))))))),.keep,.keep,.keep]),[]⟩ (bl 2 0) (pp (xL aC.length (Jv (Yw aC.length (cOf (Zy (Vv (Yw aC.length (cOf (Zy aC)))))))).length (by first | exact y8i _ _ | exact Kj rfl)) (pp (xS aC.length (Zy (Jv (Yw aC.length (cOf (Zy (Vv (Yw aC.length (cOf (Zy aC))))))))) (Zy (Jv (Yw aC.length (cOf (Zy (Vv (Yw aC.length (cOf (Zy aC)))))))))) (pp (fl (Jv (Yw aC.length (cOf (Zy (Vv (Yw aC.length (cOf (Zy aC)))))))) (fl ([]:List R6) nn)) (pp (pp (xG (Nat.beq 1 1)) (pp (xG (Nat.beq 1 1)) (pp (xG (Nat.beq 0 0)) (pp (xG (decide (aC.length=aC.length))) (pp (xG (isI (Zy (Vv (Yw aC.length (cOf (Zy aC))))))) (xG (decide (aC.length<4611686018427387904)))))))) (pp (pp (xG (Nat.beq 1 1)) (pp (xG (Nat.beq 1 1)) (pp (xG (Nat.beq 0 0)) (pp (xG (decide (aC.length=aC.length))) (pp (xG (isI (Zy aC))) (xG (decide (aC.length<4611686018427387904)))))))) (tt k0 nn)))))))))))
 | .h2 v4 aR bN bT bU aP aU=>(lb (fun k0=>(lo fun o0=>(lo fun o1=>(lo fun o2=>(lo fun o3=>(sl Wp 48 [(155,4,Zy ([]:List R4))] ⟨[0,1,2,3,4,5,6,7,8,10,11,12,9],[],w7p,w7r⟩ ⟨[],(kpB 10 [.cells [.grow 11 4],.keep,.keep]),[]⟩ (trs 3 []) (pp (fl aU (fl ([]:List R4) (fl aR nn))) (ww o3 (ww o2 (ww o1 (ww o0 (tt k0 nn)))))))))))) (fun k0=>(lb (fun k1=>(lr 25 29 [1,1,1,0,1,1,0,0] 1 5 [(2,(ii 8))] (sl Wp 50 [] ⟨[],[],[some [2]],[]⟩ ⟨[],[],[]⟩ (bl 7 126) (tt k1 (tt k0 nn))))) (fun k1=>(lo fun bF=>(lo fun cB=>(lb (fun k2=>(lr 25 29 [1,1,1,0,1,1,0,0] 1 5 [(2,(ii 8))] (sl Wp 53 [] ⟨[],[],[some [2]],[]⟩ ⟨[],[],[]⟩ (bl 7 64) (tt k2 (pp (pp (pp (xw bF) (pp nn nn)) (pp (xI R6 (aR.length) (fun k=>(Zy aR) (0+k))) (pp (xr l0) (xw cB)))) (tt k1 (tt k0 nn))))))) (fun k2=>(lr 25 3 [1,1,1,1,1,1,1,1,0] 1 5 [(2,(ii 0))] (sl Wp 54 [] ⟨[],[],[some [2]],[]⟩ ⟨[],[],[]⟩ (bl 7 0) (tt k2 (pp (pp (pp (xw bF) (pp nn nn)) (pp (xI R6 (aR.length) (fun k=>(Zy aR) (0+k))) (pp (xr l0) (xw cB)))) (tt k1 (tt k0 nn))))))))))))))
 | .h3 v4 v38 aR bN bT bU aP aU bJ cA aJ=>(lb (fun k0=>(lo fun aI=>(lb (fun k1=>(lb (fun k2=>(lo fun o0=>(sl Wp 41 [] ⟨[0,1,2,3,4,5,6,7,8,9,10,15,12],[],w7p,w7r⟩ ⟨[],(kpB 10 [.cells [.len (aJ++[(R4.mk (rd l0 (tn v38)).a (rd l0 (tn v38)).b (rd l0 (tn v38)).d (rd l0 (tn v38)).e)]).length],.rowed 4 (aJ++[(R4.mk (rd l0 (tn v38)).a (rd l0 (tn v38)).b (rd l0 (tn v38)).d (rd l0 (tn v38)).e)]).length (Zy (aJ++[(R4.mk (rd l0 (tn v38)).a (rd l0 (tn v38)).b (rd l0 (tn v38)).d (rd l0 (tn v38)).e)])),.keep]),[]⟩ (trs 8 []) (pp (xL (aJ.length+1) (aJ++[(R4.mk (rd l0 (tn v38)).a (rd l0 (tn v38)).b (rd l0 (tn v38)).d (rd l0 (tn v38)).e)]).length) (pp (xL (aJ.length+1) (aJ++[(R4.mk (rd l0 (tn v38)).a (rd l0 (tn v38)).b (rd l0 (tn v38)).d (rd l0 (tn v38)).e)]).length) (pp (xS (aJ.length+1) (Ze (Zy aJ) 0 aJ.length 4 [(ii (rd l0 (tn v38)).a),(ii (rd l0 (tn v38)).b),(ii (rd l0 (tn v38)).d),(ii (rd l0 (tn v38)).e)]) (Zy (aJ++[(R4.mk (rd l0 (tn v38)).a (rd l0 (tn v38)).b (rd l0 (tn v38)).d (rd l0 (tn v38)).e)]))) (pp (fl aU (pp (xF (Ze (Zy aJ) 0 aJ.length 4 [(ii (rd l0 (tn v38)).a),(ii (rd l0 (tn v38)).b),(ii (rd l0 (tn v38)).d),(ii (rd l0 (tn v38)).e)])) (fl aR nn))) (ww o0 (tt k2 (tt k1 (ww aI (tt k0 nn)))))))))))) (fun k2=>(sl Wp 41 [] ⟨(List.range 13),[],w7p,w7r⟩ ⟨[],[],[]⟩ (trs 7 [false]) (pp (fl aU (fl aJ (fl aR nn))) (tt k2 (tt k1 (ww aI (tt k0 nn))))))))) (fun k1=>(sl Wp 41 [] ⟨(List.range 13),[],w7p,w7r⟩ ⟨[],[],[]⟩ (bl 8 1) (pp (fl aU (fl aJ (fl aR nn))) (tt k1 (ww aI (tt k0 nn))))))))) (fun k0=>(Qv (sl Wp (C':=⟨⟨65,0,true⟩,(z1q prog 53 [1,1,0,1,0,1,0,0] 4),(Zm prog 53 [1,1,0,1,0,1,0,0] 1),(some 0),[],⟨Yx [(2,(.ptr 1 0)),(4,(.ptr 2 0)),(5,(.ptr 3 0)),(6,(.ptr 4 0)),(7,(.ptr 6 0)),(20,(.dat aJ.length (Zy aJ)))],x6n [(1,⟨[.nilf],99,none⟩),(2,⟨[.nils],46,none⟩),(3,⟨[(ii 0)],24,none⟩),(4,⟨[(.sla 5 6 0 aR.length (.un 6)),(.dat bN.length (Zy bN)),(ii bT),(ii bU)],141,none⟩),(5,⟨rows aR.length (Zy aR),76,some ⟨6,aR.length,(Zy aR)⟩⟩),(6,⟨[(ii bJ),(ii cA),(.sl 7 0 1 (.ex 1))],146,none⟩),(7,⟨[(.dat aJ.length (Zy aJ))],138,none⟩),(8,⟨[(.sla 9 1 0 aP (.un 1))],93,none⟩),(9,⟨rows aU.length (Zy aU),3,some ⟨1,aU.length,(Zy aU)⟩⟩),(10,⟨[(.sl 11 0 1 (.un 1))],137,none⟩),(11,⟨[(.dat l0.length (Zy l0))],45,none⟩)],12,[],true⟩,[⟨⟨86,0,true⟩,(z1q prog 111 [1,0,0,1,0,0,1,1,0] 2),(Zm prog 111 [1,0,0,1,0,0,1,1,0] 1),none,[],Yx [(0,(.yld 0)),(1,(.ptr 8 0)),(2,(.ptr 10 0)),(4,(ii v4)),(82,(.yld 0)),(83,(.agg [(ii bJ),(ii cA),(.sl 7 0 1 (.ex 1))]))]⟩,⟨⟨65,0,true⟩,none,(.inRangeFunc 0::(Zm prog 53 [1,1,0,1,0] 1)),none,(Zz prog 53),Yx [(4,(.ptr 2 0)),(5,(.ptr 3 0)),(6,(.ptr 4 0))]⟩,⟨⟨25,0,true⟩,(z1q prog 29 [1,1,1,0,0] 3),(Zm prog 29 [1,1,1,0,0] 1),none,(Zz prog 5),Yx [(0,(.dat l0.length (Zy l0))),(11,(.agg [.nilf])),(13,(.sl 11 0 1 (.un 1)))]⟩],(x6o [(0,⟨.busy,none,65,Yx [(2,(.ptr 1 0)),(4,(.ptr 2 0)),(5,(.ptr 3 0)),(6,(.ptr 4 0))],[15],(Uj prog 53 [1,1,0,1,0,0]),(Uj prog 53 [1,1,0,1,0,1])⟩)])⟩) 37 [] ⟨[0,1,2,3,4,12,13,10,5,6,7,8],[11],[some [2,4,5,6,7,20],some [0,1,2,4,82,83],some [4,5,6],some [0,11,13]],[some [2,4,5,6],none,none,none,none,none,none,none,none,none,none,none]⟩ ⟨[(20,.frz aJ.length aJ.length (Zy aJ) (Zy aJ))],[.keep,.keep,.keep,.keep,.keep,.keep,.keep,.cells [.frz aJ.length aJ.length (Zy aJ) (Zy aJ)],.keep,.keep,.keep,.keep],[]⟩ (bl 2 0) (pp (xZ (y5s 4 4 0 aJ.length aJ.length (Zy aJ)) aJ.length (Zy aJ)) (pp (xL aJ.length aJ.length) (pp (xS aJ.length (Zy aJ) (Zy aJ)) (pp (xZ (y5s 4 4 0 aJ.length aJ.length (Zy aJ)) aJ.length (Zy aJ)) (pp (xL aJ.length aJ.length) (pp (xS aJ.length (Zy aJ) (Zy aJ)) (pp (fl aR (fl aU nn)) (pp (fl aJ nn) (tt k0 nn)))))))))) (lo fun aI=>(lb (fun k1=>(lr 25 29 [1,1,1,0,1,1,0,0] 1 5 [(2,(ii 8))] (sl Wp 67 [] ⟨[],[],[some [2]],[]⟩ ⟨[],[],[]⟩ (bl 8 254) (tt k1 (tt k1 (pp (pp (xr aJ) (xw aI)) nn)))))) (fun k1=>(lb (fun k2=>(lb (fun k3=>(lo fun cI=>(lb (fun k4=>(sl Wp 75 [] ⟨[4,5,0,1,2,3,8,9,10,11,7],[],sckN5,sckM5⟩ ⟨[],[],[]⟩ (bl 15 32764) (pp (fl aR (fl aU nn)) (tt k4 (pp (pp (xr bN) (pp (xI R4 (Xu (cvT aJ)).length (Zy (Xu (cvT aJ)))) (xw cI))) (tt k3 (tt k2 (tt k1 (pp (pp (xr aJ) (xw aI)) nn))))))))) (fun k4=>(sl Wp 95 [] ⟨[4,0,1,2,3,8,9,10,11,7,5],[],w7o,w7q⟩ ⟨[],[],[]⟩ (bl 15 16380) (pp (fl aU (fl aR nn)) (tt k4 (pp (pp (xr bN) (pp (xI R4 (Xu (cvT aJ)).length (Zy (Xu (cvT aJ)))) (xw cI))) (tt k3 (tt k2 (tt k1 (pp (pp (xr aJ) (xw aI)) nn)))))))))))) (fun k3=>(sl Wp 95 [] ⟨[4,0,1,2,3,8,9,10,11,7,5],[],w7o,w7q⟩ ⟨[],[],[]⟩ (bl 15 252) (pp (fl aU (fl aR nn)) (tt k3 (tt k2 (tt k1 (pp (pp (xr aJ) (xw aI)) nn))))))))) (fun k2=>(sl Wp 95 [] ⟨[4,0,1,2,3,8,9,10,11,7,5],[],w7o,w7q⟩ ⟨[],[],[]⟩ (bl 15 0) (pp (fl aU (fl aR nn)) (tt k2 (tt k1 (pp (pp (xr aJ) (xw aI)) nn)))))))))))))
 | .h4 v1 v2 v72 v73 v74 bL bD aE bB bE aP aU bJ=>(lb (fun k0=>(lo fun o0=>(lo fun o1=>(sl Wp 23 [] ⟨[0,1,2,3,4,5,6,7,8,9,13],[],w7o,w7q⟩ ⟨[],[.cells [.len (aE++[(R6.mk (rd v72 (tn v74)).a (rd v72 (tn v74)).b v1 (rd v72 (tn v74)).c (rd v72 (tn v74)).d v2)]).length,.keep,.keep,.keep],.keep,.keep,.keep,.keep,.keep,.keep,.keep,.keep,.keep,.rowed 6 (aE++[(R6.mk (rd v72 (tn v74)).a (rd v72 (tn v74)).b v1 (rd v72 (tn v74)).c (rd v72 (tn v74)).d v2)]).length (Zy (aE++[(R6.mk (rd v72 (tn v74)).a (rd v72 (tn v74)).b v1 (rd v72 (tn v74)).c (rd v72 (tn v74)).d v2)]))],[]⟩ [true] (pp (xL (aE.length+1) (aE++[(R6.mk (rd v72 (tn v74)).a (rd v72 (tn v74)).b v1 (rd v72 (tn v74)).c (rd v72 (tn v74)).d v2)]).length) (pp (xL (aE.length+1) (aE++[(R6.mk (rd v72 (tn v74)).a (rd v72 (tn v74)).b v1 (rd v72 (tn v74)).c (rd v72 (tn v74)).d v2)]).length) (pp (xS (aE.length+1) (Ze (Zy aE) 0 aE.length 6 [(ii (rd v72 (tn v74)).a),(ii (rd v72 (tn v74)).b),(ii v1),(ii (rd v72 (tn v74)).c),(ii (rd v72 (tn v74)).d),(ii v2)]) (Zy (aE++[(R6.mk (rd v72 (tn v74)).a (rd v72 (tn v74)).b v1 (rd v72 (tn v74)).c (rd v72 (tn v74)).d v2)]))) (pp (fl aU (pp (xF (Ze (Zy aE) 0 aE.length 6 [(ii (rd v72 (tn v74)).a),(ii (rd v72 (tn v74)).b),(ii v1),(ii (rd v72 (tn v74)).c),(ii (rd v72 (tn v74)).d),(ii v2)])) nn)) (ww o1 (ww o0 (tt k0 nn))))))))))) (fun k0=>(sl Wp 22 [] ⟨[1,2,3,4,0,5,6,7,8,10],[],v6m,v6o⟩ ⟨[],[],[]⟩ (bl 2 0) (pp (fl aU (fl aE nn)) (tt k0 nn)))))
 | .h5 v2 v8 cG bL bD aE bB bE bO bW cE aJ=>(lb (fun k0=>(lo fun o0=>(lo fun o1=>(sl Wp 34 [] ⟨(List.range 11),[],sckN5,sckM5⟩ ⟨[],[.cells [.len (aE.set (0+(tn v8)) (R6.mk (rd aE (0+(tn v8))).a (rd aE (0+(tn v8))).b (rd aE (0+(tn v8))).c (rd aE (0+(tn v8))).d (rd aE (0+(tn v8))).e v2)).length,.keep,.keep,.keep],.rowed 6 (aE.set (0+(tn v8)) (R6.mk (rd aE (0+(tn v8))).a (rd aE (0+(tn v8))).b (rd aE (0+(tn v8))).c (rd aE (0+(tn v8))).d (rd aE (0+(tn v8))).e v2)).length (Zy (aE.set (0+(tn v8)) (R6.mk (rd aE (0+(tn v8))).a (rd aE (0+(tn v8))).b (rd aE (0+(tn v8))).c (rd aE (0+(tn v8))).d (rd aE (0+(tn v8))).e v2))),.keep,.keep,.keep,.keep,.keep,.keep,.keep,.keep,.keep],[]⟩ [true] (pp (xL aE.length (aE.set (0+(tn v8)) (R6.mk (rd aE (0+(tn v8))).a (rd aE (0+(tn v8))).b (rd aE (0+(tn v8))).c (rd aE (0+(tn v8))).d (rd aE (0+(tn v8))).e v2)).length) (pp (xL aE.length (aE.set (0+(tn v8)) (R6.mk (rd aE (0+(tn v8))).a (rd aE (0+(tn v8))).b (rd aE (0+(tn v8))).c (rd aE (0+(tn v8))).d (rd aE (0+(tn v8))).e v2)).length) (pp (xS aE.length (Xp (Zy aE) (0+(tn v8)) 5 [(ii v2)]) (Zy (aE.set (0+(tn v8)) (R6.mk (rd aE (0+(tn v8))).a (rd aE (0+(tn v8))).b (rd aE (0+(tn v8))).c (rd aE (0+(tn v8))).d (rd aE (0+(tn v8))).e v2)))) (pp (pp (xF (Xp (Zy aE) (0+(tn v8)) 5 [(ii v2)])) (fl cE nn)) (ww o1 (ww o0 (tt k0 nn))))))))))) (fun k0=>(sl Wp 36 [] ⟨[2,3,4,5,0,6,7,8,9,1],[],v6m,v6o⟩ ⟨[],[],[]⟩ (bl 2 0) (pp (fl cE (fl aE nn)) (tt k0 nn)))))
theorem x0k (l0:List R6):Yh prog (Zz prog 29) (sckC l0) (Zj prog 29 [(.dat l0.length (Zy l0))] true []) (z8k l0):=(lb (fun k0=>(lr 25 29 [1,0,1,0,0] 1 5 [(2,(ii 4))] (sl Wp 16 [] ⟨[],[],[some [2]],[]⟩ ⟨[],[],[]⟩ [true] (tt k0 nn)))) (fun k0=>(sl Wp 40 [] ⟨[],[],sckN0,sckM0⟩ ⟨[],[],[]⟩ [false] (tt k0 nn))))
theorem w7n (l0:List R6) (n:Nat) (vs:List AVal) (h:Zo (Ye l0) n (z8k l0)=.ret vs):Ws prog (Zz prog 29) (Zj prog 29 [(.dat l0.length (Zy l0))] true []) vs:=by have:=Zk (x8c l0) n _ (x0k l0);rwa [h] at this
theorem x1s (l:List R4):(Xu l).length ≤400:=by
 grind [Xu]
def D6 :Dim R6 R4:=⟨R6.c,R6.f,fun r=>⟨r.a,r.b,r.d,r.e⟩,fun x x' s=>⟨s.a,s.b,x,s.c,s.d,x'⟩,fun x r=>⟨r.a,r.b,r.c,r.d,r.e,x⟩,Xu,Js⟩
theorem D6_sec (l:List R6) (x:Int):(D6.sec l x).length ≤1000:=AG (x1s _) (by omega)
def sckErr :List AVal:=[.int .i64 8]
def y7h (l out:List R6):List AVal:=bif decide ((out.length:Int)>400) then [.int .i64 8] else bif Ko out l then [.int .i64 0] else [.int .i64 8]
def badS (l:List R6) (x:Int):Bool:=z4l (D6.inn l x) != 0
def okF (l:List R6):Nat→Nat→Bool
 | 0,_=>true
 | k+1,i=>bif badS l (rd (D6.cuts l) i) then false else okF l k (i+1)
section
variable (l:List R6) (hl:l.length≤400)
include hl
theorem v2y (i:Nat) (out:List R6) (last:List R4) (first fin x x':Int): ∀(k j:Nat) (acc:List R4),j+k=l.length→acc.length≤j→
  ∃n,∀N,Zo (Ye l) (N+n) (.to (.h3 (i:Int) (j:Int) out last first fin ((D6.cuts l).length) (Jv (Vv (D6.ends l))) x x' acc))=Zo (Ye l) N (.to (.h3 (i:Int) (l.length:Int) out last first fin ((D6.cuts l).length) (Jv (Vv (D6.ends l))) x x' (acc++D6.inn (l.drop j) x)))
 | 0,j,acc,h,ha=>by refine ⟨0,fun N=> ?_⟩;rw [At (by omega),show D6.inn ([]:List R6) x=[] from rfl,AJ,Bh,show j=l.length by omega]
 | k+1,j,acc,h,ha=>by
  have hj:j<l.length:=by omega
  obtain ⟨n,hn⟩:=v2y i out last first fin x x' k (j+1) (acc++D6.inn [rd l j] x) (by omega) (by have:=D6.inn_length [rd l j] x;grind)
  refine ⟨n+1,fun N=> ?_⟩;have e:D6.inn (l.drop j) x=D6.inn [rd l j] x++D6.inn (l.drop (j+1)) x:=by rw [drop_rd hj,←D6.inn_append];rfl
  rw [e,←AH,Zv,←AF,←hn N];by_cases h1:D6.lo (rd l j)≤x
  ·by_cases h2:x<D6.hi (rd l j)
   ·rw [D6.inn_t _ _ h1 h2];simp only [D6] at h1 h2 ⊢;simp (disch:=omega) only [Ye,dle_t,Zn,Zc,dlt_t,din_t,nle_t,nlt_t,neq_t,room_t,wrap_t,cast_succ,beq11,toNat_c,Al,Av,Ap,Aq,Ag,Ad]
   ·rw [D6.inn_f2 _ _ h2,AJ];simp only [D6] at h1 h2;simp (disch:=omega) only [Ye,dle_t,dlt_f,Zn,Zc,dlt_t,din_t,nle_t,nlt_t,neq_t,room_t,wrap_t,cast_succ,beq11,toNat_c,Al,Av,Ap,Aq,Ag,Ad]
  ·rw [D6.inn_f1 _ _ h1,AJ];simp only [D6] at h1;simp (disch:=omega) only [Ye,dle_f,Zn,Zc,dlt_t,din_t,nle_t,nlt_t,neq_t,room_t,wrap_t,cast_succ,beq11,toNat_c,Al,Av,Ap,Aq,Ag,Ad]
theorem v2x (i:Nat) (hi:i≤1000) (x x':Int) (s last:List R4) (first:Int) (inn:List R4) (hs:s.length≤1000): ∀(k j:Nat) (out:List R6),j+k=s.length→out.length≤10000000+j→
  ∃n,∀N,Zo (Ye l) (N+n) (.to (.h4 x x' s (s.length:Int) (j:Int) s (i:Int) out last first ((D6.cuts l).length) (Jv (Vv (D6.ends l))) inn))=Zo (Ye l) N (.to (.h2 ((i+1:Nat):Int) (out++(s.drop j).map (D6.put x x')) last first x' ((D6.cuts l).length) (Jv (Vv (D6.ends l)))))
 | 0,j,out,h,ho=>by
  have _u:=hl;refine ⟨1,fun N=> ?_⟩
  grind [Zv,Ye,wrap_t]
 | k+1,j,out,h,ho=>by
  obtain ⟨n,hn⟩:=v2x i hi x x' s last first inn hs k (j+1) (out++[D6.put x x' (rd s j)]) (by omega) (by simp;omega)
  refine ⟨n+1,fun N=> ?_⟩;have:=hn N;rw [drop_rd (show j<s.length by omega),A2,←AH,Zv];simp (disch:=omega) only [Ye,Zn,Zc,dlt_t,din_t,nle_t,nlt_t,neq_t,room_t,wrap_t,cast_succ,beq11,toNat_c,Al,Av,Ap,Aq,Ag,Ad];rw [AF] at this;exact this
theorem v2w (i:Nat) (hi:i≤1000) (x x' fin:Int) (s last:List R4) (first:Int) (inn:List R4): ∀(k j:Nat) (out:List R6),j+k=out.length→out.length≤10000000→
  ∃n,∀N,Zo (Ye l) (N+n) (.to (.h5 x' (j:Int) x s (i:Int) out last first fin ((D6.cuts l).length) (Jv (Vv (D6.ends l))) inn))=Zo (Ye l) N (.to (.h2 ((i+1:Nat):Int) (D6.grow out j x') last first x' ((D6.cuts l).length) (Jv (Vv (D6.ends l)))))
 | 0,j,out,h,ho=>by
  have _u:=hl;refine ⟨1,fun N=> ?_⟩;rw [D6.grow_nil _ _ _ (by omega),Zv]
  grind [Ye,wrap_t]
 | k+1,j,out,h,ho=>by
  obtain ⟨n,hn⟩:=v2w i hi x x' fin s last first inn k (j+1) (out.set j (D6.ext x' (rd out j))) (by simp;omega) (by grind)
  refine ⟨n+1,fun N=> ?_⟩;have:=hn N;rw [D6.grow_set out j _ (by omega)] at this;rw [←AH,Zv];simp (disch:=omega) only [Ye,Zn,Zc,dlt_t,din_t,nle_t,nlt_t,neq_t,room_t,wrap_t,cast_succ,beq11,toNat_c,Al,Av,Ap,Aq,Ag,Ad];exact this
theorem w2w : ∀(k i:Nat) (s:Sw R6 R4),k=(D6.cuts l).length - 1 - i→i≤(D6.cuts l).length →s.out.length≤i*1000→s.last.length≤1000→s.first≤s.out.length→
  ∃n,Zo (Ye l) n (.to (.h2 ((i+1:Nat):Int) s.out s.last (s.first:Int) s.fin ((D6.cuts l).length) (Jv (Vv (D6.ends l)))))=.ret ((bif okF l k i then y7h l (D6.go l k i s).out else sckErr))
 | 0,i,s,h,hi,ho,hla,hf=>by
  have hc:=D6.cuts_length l;refine ⟨1,?_⟩;rw [Zv,show D6.go l 0 i s=s from rfl,show okF l 0 i=true from rfl,Ag];unfold y7h;by_cases q:(s.out.length:Int)>400
  ·grind [Ye,Zp]
  ·have e:lst R6 s.out.length (fun k=>(Zy s.out) k)=s.out:=Zc s.out;have w:Vj s.out l=true:=Ae (by omega);have f:Ji (Zy s.out)=true:=Yn _;rcases boolc (Ko s.out l) with q2 | q2 <;>
   simp (disch:=omega) only [Ye,Zn,e,w,f,q2,dlt_f,dgt_f,nle_t,beq11,Al,Au,Ay,Ap,Ag,Ad,Zp]
 | k +1,i,s,h,hi,ho,hla,hf=>by
  have hc:=D6.cuts_length l;have hi1:i+1<(D6.cuts l).length :=by omega
  have hpl:(Jv (Vv (D6.ends l))).length =2*l.length:=by rw [z3b,Qa,D6.ends_length]
  have r0:rd (Jv (Vv (D6.ends l))) i=rd (D6.cuts l) i:=x6b _ _ (by show i<(D6.cuts l).length;omega);have r1:rd (Jv (Vv (D6.ends l))) (i+1)=rd (D6.cuts l) (i+1):=x6b _ _ (by show i+1<(D6.cuts l).length;omega);have hbig:i*1000≤1000*1000:=Az _ (by omega);have hsl:=D6_sec l (rd (D6.cuts l) i);have hsd:D6.sec l (rd (D6.cuts l) i)=Xu (D6.inn l (rd (D6.cuts l) i)):=rfl;obtain ⟨n3,h3⟩:=v2y l hl (i+1) s.out s.last (s.first:Int) s.fin (rd (D6.cuts l) i) (rd (D6.cuts l) (i+1)) l.length 0 [] (Al _) (Ao _);simp only [A0,A6,cast0] at h3;have w1:z4k (D6.inn l (rd (D6.cuts l) i))=true:=rfl;have w2:Vk s.last (Xu (D6.inn l (rd (D6.cuts l) i)))=true:=Ae (by omega);have ol:=D6.one_length l (rd (D6.cuts l) i) (rd (D6.cuts l) (i+1)) s;have st0: ∀N,Zo (Ye l) (N+n3+1) (.to (.h2 ((i+1:Nat):Int) s.out s.last (s.first:Int) s.fin ((D6.cuts l).length) (Jv (Vv (D6.ends l)))))=Zo (Ye l) N (.to (.h3 ((i+1:Nat):Int) (l.length:Int) s.out s.last (s.first:Int) s.fin ((D6.cuts l).length) (Jv (Vv (D6.ends l))) (rd (D6.cuts l) i) (rd (D6.cuts l) (i+1)) (D6.inn l (rd (D6.cuts l) i)))):=fun N=>by
   rw [←h3 N,Zv];have e1:wrap .i64 (((i+1:Nat):Int) - 1)=(i:Int):=by rw [cast_pred];exact wrap_t (by omega)
   simp (disch:=omega) only [Ye,e1,r0,r1,Zn,Zc,dlt_t,din_t,nle_t,nlt_t,neq_t,room_t,wrap_t,cast_succ,beq11,toNat_c,Al,Av,Ap,Aq,Ag,Ad]
  rcases boolc (badS l (rd (D6.cuts l) i)) with q0 | q0
  ·refine ⟨1+n3+1,?_⟩;rw [st0 1,Zv];simp only [okF,q0,Ag,Ad];have q0':(z4l (D6.inn l (rd (D6.cuts l) i)) != 0)=true:=q0;simp (disch:=omega) only [Ye,Zn,Zc,dlt_f,q0',w1,Ag,Ad,Zp];rfl
  have q0':(z4l (D6.inn l (rd (D6.cuts l) i)) != 0)=false:=q0;rcases boolc (decide (0<(D6.sec l (rd (D6.cuts l) i)).length)&&((s.fin == rd (D6.cuts l) i)&&D6.same s.last (D6.sec l (rd (D6.cuts l) i)))) with q | q
  ·obtain ⟨n5,h5⟩:=v2w l hl (i+1) (by omega) (rd (D6.cuts l) i) (rd (D6.cuts l) (i+1)) s.fin (D6.sec l (rd (D6.cuts l) i)) s.last (s.first:Int) (D6.inn l (rd (D6.cuts l) i)) (s.out.length - s.first) s.first s.out (by omega) (by omega)
   have e:D6.one l (rd (D6.cuts l) i) (rd (D6.cuts l) (i+1)) s=⟨D6.grow s.out s.first (rd (D6.cuts l) (i+1)),s.last,s.first,rd (D6.cuts l) (i+1)⟩:=by unfold Dim.one;rw [q];rfl
   obtain ⟨n0,h0⟩:=w2w k (i+1) (D6.one l (rd (D6.cuts l) i) (rd (D6.cuts l) (i+1)) s) (by omega) (by omega) (by omega) (by grind) (by grind [Dim.grow_length]);refine ⟨n0+n5+1+n3+1,?_⟩;rw [st0 (n0+n5+1),Zv];simp only [Ac,Ak] at q;obtain ⟨q1,q2,q3⟩:=q;have q3':Js s.last (Xu (D6.inn l (rd (D6.cuts l) i)))=true:=q3
   grind [Ye,Zn,okF,Dim.go]
  ·obtain ⟨n4,h4⟩:=v2x l hl (i+1) (by omega) (rd (D6.cuts l) i) (rd (D6.cuts l) (i+1)) (D6.sec l (rd (D6.cuts l) i)) (D6.sec l (rd (D6.cuts l) i)) (s.out.length:Int) (D6.inn l (rd (D6.cuts l) i)) hsl (D6.sec l (rd (D6.cuts l) i)).length 0 s.out (Al _) (by omega);simp only [A0,cast0] at h4;have e:D6.one l (rd (D6.cuts l) i) (rd (D6.cuts l) (i+1)) s=⟨s.out++(D6.sec l (rd (D6.cuts l) i)).map (D6.put (rd (D6.cuts l) i) (rd (D6.cuts l) (i+1))),D6.sec l (rd (D6.cuts l) i),s.out.length,rd (D6.cuts l) (i+1)⟩:=by unfold Dim.one;rw [q];rfl
   obtain ⟨n0,h0⟩:=w2w k (i+1) (D6.one l (rd (D6.cuts l) i) (rd (D6.cuts l) (i+1)) s) (by omega) (by omega) (by omega) (by grind) (by rw [e];simp);have hg:Zo (Ye l) 1 (.to (.h3 ((i+1:Nat):Int) (l.length:Int) s.out s.last (s.first:Int) s.fin ((D6.cuts l).length) (Jv (Vv (D6.ends l))) (rd (D6.cuts l) i) (rd (D6.cuts l) (i+1)) (D6.inn l (rd (D6.cuts l) i))))=.to (.h4 (rd (D6.cuts l) i) (rd (D6.cuts l) (i+1)) (D6.sec l (rd (D6.cuts l) i)) ((D6.sec l (rd (D6.cuts l) i)).length :Int) 0 (D6.sec l (rd (D6.cuts l) i)) ((i+1:Nat):Int) s.out (D6.sec l (rd (D6.cuts l) i)) (s.out.length:Int) ((D6.cuts l).length) (Jv (Vv (D6.ends l))) (D6.inn l (rd (D6.cuts l) i))):=by
    rw [show (1:Nat)=0+1 from rfl,Zv];rw [hsd] at q ⊢;have e3:D6.same s.last (Xu (D6.inn l (rd (D6.cuts l) i)))=Js s.last (Xu (D6.inn l (rd (D6.cuts l) i))):=rfl;rw [e3] at q;by_cases q1:0<(Xu (D6.inn l (rd (D6.cuts l) i))).length
    ·rw [Ae q1,Aq] at q;rcases boolc (s.fin == rd (D6.cuts l) i) with q2 | q2
     ·rw [q2,Aq] at q;simp (disch:=omega) only [Ye,Zn,Zc,dlt_f,dgt_t,q0',q2,q,w1,w2,Ag,Ad];rfl
     ·simp (disch:=omega) only [Ye,Zn,Zc,dlt_f,dgt_t,q0',q2,w1,w2,Ag,Ad];rfl
    ·simp (disch:=omega) only [Ye,Zn,Zc,dlt_f,dgt_f,q0',w1,w2,Ag,Ad];rfl
   refine ⟨n0+n4+1+n3+1,?_⟩;simp_all [y8u,okF,Dim.go]
theorem v2z : ∀(k i:Nat) (acc:List Int),i+k=l.length→acc=D6.ends (l.take i)→ ∃n,Zo (Ye l) n (.to (.h1 (i:Int) acc))=.ret ((bif okF l ((D6.cuts l).length - 1) 0 then y7h l (D6.go l ((D6.cuts l).length - 1) 0 ⟨[],[],0,0⟩).out else sckErr))
 | 0,i,acc,h,ha=>by
  have e:acc=D6.ends l:=by grind
  subst e;have hle:=D6.ends_length l;obtain ⟨n,hn⟩:=w2w l hl ((D6.cuts l).length - 1) 0 ⟨[],[],0,0⟩ (by omega) (AE _) (AE _) (AE _) (AE _);refine ⟨n+1,?_⟩;rw [Zv];simp (disch:=omega) only [Ye,z3h,y3l,w6k,dlt_f,nlt_t,neq_t,Av,Ag,Ad];exact hn
 | k+1,i,acc,h,ha=>by
  have hle:=D6.ends_length (l.take i);have hacc:acc.length≤2*i:=by grind
  obtain ⟨n,hn⟩:=v2z k (i+1) (acc++D6.ends [rd l i]) (by omega) (by
   rw [ha,Bl];have:l[i]? =some (rd l i):=by grind [Xf]
   rw [this,D6.ends_append];rfl)
  refine ⟨n+1,?_⟩;rw [Zv];simp (disch:=omega) only [Ye,Zn,Zc,dlt_t,din_t,nle_t,nlt_t,neq_t,room_t,wrap_t,cast_succ,beq11,toNat_c,Al,Av,Ap,Aq,Ag,Ad];exact hn
theorem v3a : ∀(k i:Nat),i+k=l.length→(∀s∈l.take i,y6w s=true)→ ∃n,Zo (Ye l) n (.to (.h0 (i:Int)))=.ret (bif l.all y6w then (bif okF l ((D6.cuts l).length - 1) 0 then y7h l (D6.go l ((D6.cuts l).length - 1) 0 ⟨[],[],0,0⟩).out else sckErr) else sckErr)
 | 0,i,h,ht=>by
  have hv:l.all y6w=true:=Aw.2 fun s hs=>ht s (by grind);obtain ⟨n,hn⟩:=v2z l hl l.length 0 [] (Al _) rfl;refine ⟨n+1,?_⟩
  grind [Zv,Ye]
 | k+1,i,h,ht=>by
  have hi:i<l.length:=by omega
  have hs:Ye l (.h0 (i:Int))=bif y6w (rd l i) then .to (.h0 ((i+1:Nat):Int)) else .ret sckErr:=by have e:vl6V (rd l i).a (rd l i).b (rd l i).c (rd l i).d (rd l i).e (rd l i).f =y6w (rd l i):=rfl;simp (disch:=omega) only [Ye,e,bif_not,w6c,v5q,din_t,wrap_t,cast_succ,toNat_c,Ap,Ag,Ad];rfl
  rcases boolc (y6w (rd l i)) with q | q
  ·obtain ⟨n,hn⟩:=v3a k (i+1) (by omega) (fun s hs=>by
    rw [Bl] at hs
    grind [Xf])
   refine ⟨n+1,?_⟩
   grind [Zv]
  ·have hv:l.all y6w=false:=A3.2 fun e=>by
    grind [Xf]
   refine ⟨1,?_⟩
   grind [Zv,Zp]
end
def Wa (l:List R6):Int:=bif decide (400<l.length) then 4 else bif l.all y6w then (bif okF l ((D6.cuts l).length - 1) 0 then (bif decide (((D6.out l).length :Int)>400) then 8 else bif Ko (D6.out l) l then 0 else 8) else 8) else 8
def w2x (l:List R6):Bool:=true
theorem v6l (l:List R6): ∃n,Zo (Ye l) n (z8k l)=.ret [.int .i64 (Wa l)]:=by
 unfold z8k Wa;by_cases h:400<l.length
 ·refine ⟨0,?_⟩;rw [Ae h,dgt_t (show (l.length:Int)>400 by omega)];rfl
 ·obtain ⟨n,hn⟩:=v3a l (by omega) l.length 0 (Al _) (fun s hs=>by simp at hs);refine ⟨n,?_⟩;rw [An h,dgt_f (show ¬(l.length:Int)>400 by omega),Ad,Ad];rw [cast0] at hn;rw [hn];unfold sckErr y7h;cases l.all y6w <;> simp only [Ag,Ad];cases okF l ((D6.cuts l).length - 1) 0 <;> simp only [Ag,Ad];show Ya.ret (bif decide (((D6.out l).length :Int)>400) then _ else bif Ko (D6.out l) l then _ else _)=_
  grind
def fSck :List AVal→Option (AVal×Bool)
 | [a1]=>match asL R6 a1 with
  | some (L1,g1,n1)=>some (.int .i64 (Wa L1),isT R6 n1 g1&&w2x L1)
  | _=>none
 | _=>none
theorem u0i {S:Specs} (hS:Zw prog S):Zw prog (S.with y8f fSck):=by
 refine fOne hS (by kernel_rfl) fun args v h=> ?_;unfold fSck at h;split at h
 ·rename_i a1;split at h
  ·rename_i L1 g1 n1 e1;simp only [Ab,Aa,Ac] at h;obtain ⟨rfl,ho1,hw⟩:=h;obtain ⟨N,hN⟩:=v6l L1;exact ⟨_,_,(.cons (Yg e1 ho1) .nil),rfl,w7n L1 N _ hN,3,rfl⟩
  ·cases h
 ·cases h
def T8 :Specs:=T7v.with y8f fSck
theorem Jn :Zw prog T8:=u0i Wp
def x0l (l:List R6):Bool:=true
def x2c (l:List R6):Bool:=true
inductive rchkS where
 | h0 (v3:Int)
def v8j (l0:List R6):rchkS→Cfg
 | .h0 v3=>⟨⟨34,0,true⟩,none,(Zm prog 32 [1,1,0,1,0,0] 0),none,(Zz prog 5),⟨Yx [(0,(.dat l0.length (Zy l0))),(3,(ii v3))],Xj [] 0,0,[],true⟩,[],.leaf⟩
def v4l :List (Option (List Nat)):=[some [0,3]]
def v4m :List (Option (List Nat)):=[]
def Kz (l0:List R6):rchkS→Ya rchkS
 | .h0 v3=>(bif (decide (v3<(l0.length:Int))) then (bif ((decide (0≤v3∧v3<(l0.length:Int)))&&true) then (bif (decide ((rd l0 v3.toNat).a ≥(-1000000))) then (bif (decide ((rd l0 v3.toNat).b ≥(-1000000))) then (bif (decide ((rd l0 v3.toNat).c ≥(-1000000))) then (bif (decide ((rd l0 v3.toNat).a ≤1000000)) then (bif (decide ((rd l0 v3.toNat).b ≤1000000)) then (bif (decide ((rd l0 v3.toNat).c ≤1000000)) then (bif (decide ((rd l0 v3.toNat).d ≥(-1000000))) then (bif (decide ((rd l0 v3.toNat).e ≥(-1000000))) then (bif (decide ((rd l0 v3.toNat).f ≥(-1000000))) then (bif (decide ((rd l0 v3.toNat).d ≤1000000)) then (bif (decide ((rd l0 v3.toNat).e ≤1000000)) then (bif (decide ((rd l0 v3.toNat).f ≤1000000)) then (bif (decide ((rd l0 v3.toNat).a <(rd l0 v3.toNat).d)) then (bif (decide ((rd l0 v3.toNat).b <(rd l0 v3.toNat).e)) then (bif (!(decide ((rd l0 v3.toNat).c <(rd l0 v3.toNat).f))) then (.ret [(.int .i64 8)]) else (.to (.h0 (wrap .i64 (v3+1))))) else (.ret [(.int .i64 8)])) else (.ret [(.int .i64 8)])) else (.ret [(.int .i64 8)])) else (.ret [(.int .i64 8)])) else (.ret [(.int .i64 8)])) else (.ret [(.int .i64 8)])) else (.ret [(.int .i64 8)])) else (.ret [(.int .i64 8)])) else (.ret [(.int .i64 8)])) else (.ret [(.int .i64 8)])) else (.ret [(.int .i64 8)])) else (.ret [(.int .i64 8)])) else (.ret [(.int .i64 8)])) else (.ret [(.int .i64 8)])) else .stuck) else (bif (z5i 2 (cvT l0) ([]:List R6)) then (bif (!(y8n 2 (cvT l0) ([]:List R6))) then (.ret [(.int .i64 8)]) else (bif (Vj (cvT (z3g 2 (cvT l0) ([]:List R6))) (cvT l0)) then (bif (!(Ko (cvT (z3g 2 (cvT l0) ([]:List R6))) (cvT l0))) then (.ret [(.int .i64 8)]) else (.ret [(.int .i64 0)])) else .stuck)) else .stuck))
def z4s (l0:List R6):Ya rchkS:=(bif (decide ((l0.length:Int)>400)) then (.ret [(.int .i64 4)]) else (.to (.h0 0)))
theorem x2d (l0:List R6): ∀s,Yh prog (Zz prog 32) (v8j l0) (v8j l0 s) (Kz l0 s)
 | .h0 v3=>(lb (fun k0=>(lo fun aI=>(lb (fun k1=>(lb (fun k2=>(lb (fun k3=>(lb (fun k4=>(lb (fun k5=>(lb (fun k6=>(lb (fun k7=>(lb (fun k8=>(lb (fun k9=>(lb (fun k10=>(lb (fun k11=>(lb (fun k12=>(lb (fun k13=>(lb (fun k14=>(lb (fun k15=>(lr 34 32 [1,1,0,1,0,0,1,0,0,1,0,0] 1 5 [(2,(ii 8))] (sl Jn 158 [] ⟨[],[],[some [2]],[]⟩ ⟨[],[],[]⟩ (trs 60 []) (tt k15 (tt k14 (tt k13 (tt k12 (tt k11 (tt k10 (tt k9 (tt k8 (tt k7 (tt k6 (tt k5 (tt k4 (tt k3 (tt k2 (tt k1 (ww aI (tt k0 nn)))))))))))))))))))) (fun k15=>(sl Jn 162 [] ⟨[],[],v4l,v4m⟩ ⟨[],[],[]⟩ (trs 59 [false]) (tt k15 (tt k14 (tt k13 (tt k12 (tt k11 (tt k10 (tt k9 (tt k8 (tt k7 (tt k6 (tt k5 (tt k4 (tt k3 (tt k2 (tt k1 (ww aI (tt k0 nn))))))))))))))))))))) (fun k14=>(lr 34 32 [1,1,0,1,0,0,1,0,0,1,0,0] 1 5 [(2,(ii 8))] (sl Jn 158 [] ⟨[],[],[some [2]],[]⟩ ⟨[],[],[]⟩ (trs 52 (bl 8 128)) (tt k14 (tt k13 (tt k12 (tt k11 (tt k10 (tt k9 (tt k8 (tt k7 (tt k6 (tt k5 (tt k4 (tt k3 (tt k2 (tt k1 (ww aI (tt k0 nn))))))))))))))))))))) (fun k13=>(lr 34 32 [1,1,0,1,0,0,1,0,0,1,0,0] 1 5 [(2,(ii 8))] (sl Jn 158 [] ⟨[],[],[some [2]],[]⟩ ⟨[],[],[]⟩ (trs 45 (bl 15 16384)) (tt k13 (tt k12 (tt k11 (tt k10 (tt k9 (tt k8 (tt k7 (tt k6 (tt k5 (tt k4 (tt k3 (tt k2 (tt k1 (ww aI (tt k0 nn)))))))))))))))))))) (fun k12=>(lr 34 32 [1,1,0,1,0,0,1,0,0,1,0,0] 1 5 [(2,(ii 8))] (sl Jn 158 [] ⟨[],[],[some [2]],[]⟩ ⟨[],[],[]⟩ (trs 38 (bl 22 2097152)) (tt k12 (tt k11 (tt k10 (tt k9 (tt k8 (tt k7 (tt k6 (tt k5 (tt k4 (tt k3 (tt k2 (tt k1 (ww aI (tt k0 nn))))))))))))))))))) (fun k11=>(lr 34 32 [1,1,0,1,0,0,1,0,0,1,0,0] 1 5 [(2,(ii 8))] (sl Jn 158 [] ⟨[],[],[some [2]],[]⟩ ⟨[],[],[]⟩ (trs 35 (bl 25 16777216)) (tt k11 (tt k10 (tt k9 (tt k8 (tt k7 (tt k6 (tt k5 (tt k4 (tt k3 (tt k2 (tt k1 (ww aI (tt k0 nn)))))))))))))))))) (fun k10=>(lr 34 32 [1,1,0,1,0,0,1,0,0,1,0,0] 1 5 [(2,(ii 8))] (sl Jn 158 [] ⟨[],[],[some [2]],[]⟩ ⟨[],[],[]⟩ (trs 32 (bl 28 134217728)) (tt k10 (tt k9 (tt k8 (tt k7 (tt k6 (tt k5 (tt k4 (tt k3 (tt k2 (tt k1 (ww aI (tt k0 nn))))))))))))))))) (fun k9=>(lr 34 32 [1,1,0,1,0,0,1,0,0,1,0,0] 1 5 [(2,(ii 8))] (sl Jn 158 [] ⟨[],[],[some [2]],[]⟩ ⟨[],[],[]⟩ (trs 29 (bl 31 1073741824)) (tt k9 (tt k8 (tt k7 (tt k6 (tt k5 (tt k4 (tt k3 (tt k2 (tt k1 (ww aI (tt k0 nn)))))))))))))))) (fun k8=>(lr 34 32 [1,1,0,1,0,0,1,0,0,1,0,0] 1 5 [(2,(ii 8))] (sl Jn 158 [] ⟨[],[],[some [2]],[]⟩ ⟨[],[],[]⟩ (trs 25 (bl 35 17179869184)) (tt k8 (tt k7 (tt k6 (tt k5 (tt k4 (tt k3 (tt k2 (tt k1 (ww aI (tt k0 nn))))))))))))))) (fun k7=>(lr 34 32 [1,1,0,1,0,0,1,0,0,1,0,0] 1 5 [(2,(ii 8))] (sl Jn 158 [] ⟨[],[],[some [2]],[]⟩ ⟨[],[],[]⟩ (trs 21 (bl 39 274877906944)) (tt k7 (tt k6 (tt k5 (tt k4 (tt k3 (tt k2 (tt k1 (ww aI (tt k0 nn)))))))))))))) (fun k6=>(lr 34 32 [1,1,0,1,0,0,1,0,0,1,0,0] 1 5 [(2,(ii 8))] (sl Jn 117 [] ⟨[],[],[some [2]],[]⟩ ⟨[],[],[]⟩ (trs 18 (bl 25 16777216)) (tt k6 (tt k5 (tt k4 (tt k3 (tt k2 (tt k1 (ww aI (tt k0 nn))))))))))))) (fun k5=>(lr 34 32 [1,1,0,1,0,0,1,0,0,1,0,0] 1 5 [(2,(ii 8))] (sl Jn 117 [] ⟨[],[],[some [2]],[]⟩ ⟨[],[],[]⟩ (trs 15 (bl 28 134217728)) (tt k5 (tt k4 (tt k3 (tt k2 (tt k1 (ww aI (tt k0 nn)))))))))))) (fun k4=>(lr 34 32 [1,1,0,1,0,0,1,0,0,1,0,0] 1 5 [(2,(ii 8))] (sl Jn 117 [] ⟨[],[],[some [2]],[]⟩ ⟨[],[],[]⟩ (trs 12 (bl 31 1073741824)) (tt k4 (tt k3 (tt k2 (tt k1 (ww aI (tt k0 nn))))))))))) (fun k3=>(lr 34 32 [1,1,0,1,0,0,1,0,0,1,0,0] 1 5 [(2,(ii 8))] (sl Jn 117 [] ⟨[],[],[some [2]],[]⟩ ⟨[],[],[]⟩ (trs 9 (bl 34 8589934592)) (tt k3 (tt k2 (tt k1 (ww aI (tt k0 nn)))))))))) (fun k2=>(lr 34 32 [1,1,0,1,0,0,1,0,0,1,0,0] 1 5 [(2,(ii 8))] (sl Jn 117 [] ⟨[],[],[some [2]],[]⟩ ⟨[],[],[]⟩ (trs 5 (bl 38 137438953472)) (tt k2 (tt k1 (ww aI (tt k0 nn))))))))) (fun k1=>(lr 34 32 [1,1,0,1,0,0,1,0,0,1,0,0] 1 5 [(2,(ii 8))] (sl Jn 117 [] ⟨[],[],[some [2]],[]⟩ ⟨[],[],[]⟩ (bl 43 4398046511105) (tt k1 (ww aI (tt k0 nn))))))))) (fun k0=>(lo fun aI=>(lb (fun k1=>(lr 34 32 [1,1,1,1,0,1,0,0] 1 5 [(2,(ii 8))] (sl Jn 37 [] ⟨[],[],[some [2]],[]⟩ ⟨[],[],[]⟩ (bl 6 62) (tt k1 (pp (pp (xr l0) (pp (xI R6 0 (fun _=>[])) (xw aI))) (tt k0 nn)))))) (fun k1=>(lo fun bF=>(lb (fun k2=>(lr 34 32 [1,1,1,1,0,1,0,0] 1 5 [(2,(ii 8))] (sl Jn 37 [] ⟨[],[],[some [2]],[]⟩ ⟨[],[],[]⟩ (bl 6 32) (tt k2 (pp (pp (xI R6 (z3g 2 (cvT l0) ([]:List R6)).length (Zy (z3g 2 (cvT l0) ([]:List R6)))) (pp (xr l0) (xw bF))) (tt k1 (pp (pp (xr l0) (pp (xI R6 0 (fun _=>[])) (xw aI))) (tt k0 nn)))))))) (fun k2=>(lr 34 3 [1,1,1,1,1,1,1,1,0] 1 5 [(2,(ii 0))] (sl Jn 38 [] ⟨[],[],[some [2]],[]⟩ ⟨[],[],[]⟩ (bl 6 0) (tt k2 (pp (pp (xI R6 (z3g 2 (cvT l0) ([]:List R6)).length (Zy (z3g 2 (cvT l0) ([]:List R6)))) (pp (xr l0) (xw bF))) (tt k1 (pp (pp (xr l0) (pp (xI R6 0 (fun _=>[])) (xw aI))) (tt k0 nn)))))))))))))))
theorem y7t (l0:List R6):Yh prog (Zz prog 32) (v8j l0) (Zj prog 32 [(.dat l0.length (Zy l0))] true []) (z4s l0):=(lb (fun k0=>(lr 34 32 [1,0,1,0,0] 1 5 [(2,(ii 4))] (sl Jn 16 [] ⟨[],[],[some [2]],[]⟩ ⟨[],[],[]⟩ [true] (tt k0 nn)))) (fun k0=>(sl Jn 20 [] ⟨[],[],v4l,v4m⟩ ⟨[],[],[]⟩ [false] (tt k0 nn))))
theorem w4g (l0:List R6) (n:Nat) (vs:List AVal) (h:Zo (Kz l0) n (z4s l0)=.ret vs):Ws prog (Zz prog 32) (Zj prog 32 [(.dat l0.length (Zy l0))] true []) vs:=by have:=Zk (x2d l0) n _ (y7t l0);rwa [h] at this
def w1y (r:R6):Bool:=decide (r.a≥ -1000000)&&(decide (r.b≥ -1000000)&&(decide (r.c≥ -1000000)&&(decide (r.a≤1000000)&&(decide (r.b≤1000000)&&(decide (r.c≤1000000)&&(decide (r.d≥ -1000000)&&(decide (r.e≥ -1000000)&&(decide (r.f≥ -1000000)&&(decide (r.d≤1000000)&&(decide (r.e≤1000000)&&(decide (r.f≤1000000)&&(decide (r.a<r.d)&&(decide (r.b<r.e)&&decide (r.c<r.f))))))))))))))
def rckF (l:List R6):Int:=bif y8n 2 l [] then (bif Ko (z3g 2 l []) l then 0 else 8) else 8
def z7j (l:List R6):Int:=bif decide (400<l.length) then 4 else bif l.all w1y then rckF l else 8
def w4e (l:List R6):Bool:=true
theorem w0j (k:Int) (l m:List R6):(z3g k l m).length ≤400∨y8n k l m=false:=by
 grind [z3g,y8n]
section
variable (l:List R6) (hl:l.length≤400)
include hl
theorem w4f : ∀(k i:Nat),i+k=l.length→(∀s∈l.take i,w1y s=true)→ ∃n,Zo (Kz l) n (.to (.h0 (i:Int)))=.ret [.int .i64 (bif l.all w1y then rckF l else 8)]
 | 0,i,h,ht=>by
  have hv:l.all w1y=true:=Aw.2 fun s hs=>ht s (by grind);have w1:z5i 2 l []=true:=jsV_ow (by omega) (by simp);refine ⟨1,?_⟩;rw [Zv,hv,Ag];unfold rckF;rcases boolc (y8n 2 l []) with q | q
  ·have w2:Vj (z3g 2 l []) l=true:=Ae (by
    grind [w0j])
   rcases boolc (Ko (z3g 2 l []) l) with q2 | q2 <;>
   simp (disch:=omega) only [Kz,Zn,dlt_f,q,q2,w1,w2,Au,Ay,Ag,Ad,Zp]
  grind [Kz,Zn,Zp]
 | k+1,i,h,ht=>by
  have hi:i<l.length:=by omega
  have hs:Kz l (.h0 (i:Int))=bif w1y (rd l i) then .to (.h0 ((i+1:Nat):Int)) else .ret [.int .i64 8]:=by simp (disch:=omega) only [Kz,w1y,bif_and,bif_not,w6c,din_t,wrap_t,cast_succ,toNat_c,Ap,Ag,Ad]
  rcases boolc (w1y (rd l i)) with q | q
  ·obtain ⟨n,hn⟩:=w4f k (i+1) (by omega) (fun s hs=>by
    rw [Bl] at hs
    grind [Xf])
   refine ⟨n+1,?_⟩
   grind [Zv]
  ·have hv:l.all w1y=false:=A3.2 fun e=>by
    grind [Xf]
   refine ⟨1,?_⟩
   grind [Zv,Zp]
end
theorem w9g (l:List R6): ∃n,Zo (Kz l) n (z4s l)=.ret [.int .i64 (z7j l)]:=by
 unfold z4s z7j;by_cases h:400<l.length
 ·refine ⟨0,?_⟩;rw [Ae h,dgt_t (show (l.length:Int)>400 by omega)];rfl
 ·obtain ⟨n,hn⟩:=w4f l (by omega) l.length 0 (Al _) (fun s hs=>by simp at hs)
  grind
def fRck :List AVal→Option (AVal×Bool)
 | [a1]=>match asL R6 a1 with
  | some (L1,g1,n1)=>some (.int .i64 (z7j L1),isT R6 n1 g1&&w4e L1)
  | _=>none
 | _=>none
theorem u1b {S:Specs} (hS:Zw prog S):Zw prog (S.with w4v fRck):=by
 refine fOne hS (by kernel_rfl) fun args v h=> ?_;unfold fRck at h;split at h
 ·rename_i a1;split at h
  ·rename_i L1 g1 n1 e1;simp only [Ab,Aa,Ac] at h;obtain ⟨rfl,ho1,hw⟩:=h;obtain ⟨N,hN⟩:=w9g L1;exact ⟨_,_,(.cons (Yg e1 ho1) .nil),rfl,w4g L1 N _ hN,3,rfl⟩
  ·cases h
 ·cases h
def T9 :Specs:=T8.with w4v fRck
theorem T9_ok :Zw prog T9:=u1b Jn
def By :Type:=UInt8
def yI (b:By):Int:=((b:UInt8).toNat :Int)
def yB (n:Int):By:=UInt8.ofNat n.toNat
theorem yB_yI (b:By):yB (yI b)=b:=by show UInt8.ofNat (((b:UInt8).toNat :Int)).toNat =b;rw [Int.toNat_natCast];exact UInt8.ofNat_toNat
instance : Ym By where
 w:=1
 d:=(0:UInt8)
 cells b:=[.int .u8 (yI b)]
 of l:=yB (iOf (l.getD 0 .undef))
 len _:=rfl
 pos:=Ao 1
 flat _:=rfl
 sc _:=rfl
 back b:=yB_yI b
def sOf :AVal→List UInt8
 | .str s=>s
 | _=>[]
instance (priority :=high) instStr:Ym (List UInt8) where
 w:=1
 d:=[]
 cells s:=[.str s]
 of l:=sOf (l.getD 0 .undef)
 len _:=rfl
 pos:=Ao 1
 flat _:=rfl
 sc _:=rfl
 back _:=rfl
abbrev idxN :Nat:=99
abbrev kutN :Nat:=76
abbrev csuN :Nat:=77
abbrev cntN :Nat:=43
abbrev joiN :Nat:=42
abbrev namN :Nat:=30
abbrev lchN :Nat:=25
abbrev lreN :Nat:=45
abbrev rnaN :Nat:=33
abbrev rlcN :Nat:=26
abbrev rstN :Nat:=47
abbrev rctN :Nat:=46
abbrev pthN :Nat:=22
abbrev schN :Nat:=12
abbrev patN :Nat:=6
abbrev fndN :Nat:=8
abbrev plmN :Nat:=27
abbrev pltN :Nat:=10
abbrev rpaN :Nat:=24
abbrev rscN :Nat:=13
abbrev rpthN :Nat:=7
abbrev rfnN :Nat:=9
abbrev rplmN :Nat:=28
abbrev rpltN :Nat:=11
abbrev greN :Nat:=5
abbrev fckN :Nat:=31
abbrev fdiN :Nat:=138
abbrev faxN :Nat:=102
abbrev fimN :Nat:=92
abbrev fnmN :Nat:=104
abbrev fwiN :Nat:=78
abbrev fwtN :Nat:=48
abbrev rfcN :Nat:=34
abbrev rdiN :Nat:=105
abbrev rimN :Nat:=79
abbrev rtuN :Nat:=81
abbrev rmgN :Nat:=82
abbrev rwtN :Nat:=49
theorem y4e {P:Program} {S:Specs} (hS:Zw P S) {f:FuncId} {F:List AVal→Option (AVal×Bool)} (hf:(P.funcs[f]?).any (fun fn=>fn.body.isSome)=true) (hF:u2q P f F):Zw P (S.with f F):=by
 intro g G hg;unfold Specs.with at hg;cases hgf:Nat.beq g f with
 | false=>rw [hgf] at hg;exact hS g G hg
 | true=>
  rw [hgf] at hg;obtain rfl:Spec.val F=G:=Af hg;obtain rfl:g=f:=Ah hgf;refine ⟨?_,hF⟩;cases hfn:P.funcs[g]? with
  | none=>rw [hfn] at hf;cases hf
  | some fn=>rw [hfn] at hf;exact ⟨fn,rfl,hf⟩
theorem z9n {P:Program} {f:FuncId} {F:List AVal→Option (AVal×Bool)}
  (h: ∀args v,F args=some (v,true)→ ∀(H:Old) (vals:Array Value) (w:World),Xo (Za (Jy H)) args vals.toList→(∀k o,H k=some o→w.heap[k]? =some o)→v5z H→Calls P f vals w fun e w'=> ∃u,e=.returned u∧Za (Jy H) v u∧RowKit.Below w.heap.size w w'):u2q P f F:=
 fun args v hv H vals w cY hH hG=>(h args v hv H vals w cY hH hG).mono fun e w' ⟨u,he,hu,hb⟩=>⟨H,u,fun _ _ h=>h,fun k o e=>by rw [hb.block k (AC.1 (hH k o e)).1];exact hH k o e,fun _ _=>rfl,he,hu,hb⟩
def z2i (b:UInt8):List UInt8→List UInt8→List (List UInt8)
 | cur,[]=>[cur]
 | cur,x::r=>bif x == b then cur::z2i b [] r else z2i b (cur++[x]) r
theorem z6u (b:UInt8): ∀(s cur:List UInt8),z2i b cur s=match z2i b [] s with
  | []=>[]
  | p::l=>(cur++p)::l
 | [],cur=>by simp [z2i]
 | x::r,cur=>by
  unfold z2i;cases x == b with
  | true=>simp
  | false=>
   rw [Ad,Ad,z6u b r (cur++[x]),z6u b r ([]++[x])];cases z2i b [] r with
   | nil=>rfl
   | cons p l=>simp
theorem z6t (b:UInt8): ∀(s cur p:List UInt8),p∈z2i b cur s→p.length≤cur.length+s.length
 | [],cur,p,h=>by simp [z2i] at h;subst h;simp
 | x::r,cur,p,h=>by
  rw [z2i] at h;cases hx:x == b with
  | true=>
   rw [hx,Ag] at h;rcases AM.1 h with rfl | h
   ·simp
   ·have:=z6t b r [] p h;simp at this ⊢;omega
  | false=>rw [hx,Ad] at h;have:=z6t b r _ p h;simp at this ⊢;omega
def sOk (a b:List UInt8):Bool:=Nat.ble (a.length+b.length) 9223372036854775807
theorem sOk_t {a b:List UInt8} (h:a.length+b.length≤1000000000000):sOk a b=true:=by unfold sOk;exact AO (by omega)
theorem room_d {a:Nat} (h:a≤1099511627776):decide (a≤Jq)=true:=Ae h
theorem y4x {z n m:Nat} (h:(n+1+1)*(m+1)≤1099511627776):(Nat.beq z z&&((decide (0+n=n))&&decide ((n+1+1)*(m+1)≤Jq)))=true:=by rw [Ac,Ac];exact ⟨Bv z,Ae (Al n),room_d h⟩
def z0r (s sep:List UInt8):Int:=Lib.indexByte s (sep.headD 0)
def y0p (s sep:List UInt8):Bool:=Nat.beq sep.length 1
def fIdx :List AVal→Option (AVal×Bool)
 | [.str s,.str sep]=>some (.int .i64 (z0r s sep),y0p s sep)
 | _=>none
theorem x6g {sep:List UInt8} (h:Nat.beq sep.length 1=true):sep=[sep.headD 0]:=by
 have h1:=Ah h
 match sep,h1 with
 | [b],_=>rfl
theorem u1m {S:Specs} (hS:Zw prog S):Zw prog (S.with idxN fIdx):=y4e hS (by kernel_rfl) (z9n fun args v hv H vals w cY hH hG=>by
 unfold fIdx at hv;split at hv
 ·rename_i s sep;simp only [Ab,Aa] at hv;obtain ⟨rfl,ho⟩:=hv;have hs:=x6g ho;obtain rfl:vals= #[.string ⟨s.toArray⟩,.string ⟨sep.toArray⟩]:=by
   obtain ⟨vl⟩:=vals;cases cY with
   | cons h1 h2=>cases h2 with
    | cons h2 h3=>cases h3;cases h1;cases h2;rfl
  rw [hs];refine (Any.stringslite_Index_one Tryz.lays219 ⟨s.toArray⟩ (sep.headD 0) w).mono fun e w' ⟨he,hw⟩=>⟨_,he,.int _ _,?_⟩
  subst hw;exact RowKit.Below.refl _ _
 ·cases hv)
def cntV (s sep:List UInt8):Int:=((Lib.countByte s (sep.headD 0):Nat):Int)
def y1g (s sep:List UInt8):Bool:=Nat.beq sep.length 1
def fCnt :List AVal→Option (AVal×Bool)
 | [.str s,.str sep]=>some (.int .i64 (cntV s sep),y1g s sep)
 | _=>none
theorem u2a {S:Specs} (hS:Zw prog S):Zw prog (S.with cntN fCnt):=y4e hS (by kernel_rfl) (z9n fun args v hv H vals w cY hH hG=>by
 unfold fCnt at hv;split at hv
 ·rename_i s sep;simp only [Ab,Aa] at hv;obtain ⟨rfl,ho⟩:=hv;have hs:=x6g ho;obtain rfl:vals= #[.string ⟨s.toArray⟩,.string ⟨sep.toArray⟩]:=by
   obtain ⟨vl⟩:=vals;cases cY with
   | cons h1 h2=>cases h2 with
    | cons h2 h3=>cases h3;cases h1;cases h2;rfl
  rw [hs];refine (Any.strings_Count_one Tryz.lays138 ⟨s.toArray⟩ (sep.headD 0) w).mono fun e w' ⟨he,hw⟩=>⟨_,he,.int _ _,?_⟩
  subst hw;exact RowKit.Below.refl _ _
 ·cases hv)
def joiV (L:List (List UInt8)) (sep:List UInt8):List UInt8:=Lib.join L sep
def Qu (L:List (List UInt8)) (sep:List UInt8):Bool:=decide (L.length≤1000000)&&decide ((joiV L sep).length ≤1000000)
def fJoi :List AVal→Option (AVal×Bool)
 | [a0,.str sep]=>match asL (List UInt8) a0 with
  | some (L,g,n)=>some (.str (joiV L sep),isT (List UInt8) n g&&Qu L sep)
  | _=>none
 | _=>none
theorem u1l {S:Specs} (hS:Zw prog S):Zw prog (S.with joiN fJoi):=y4e hS (by kernel_rfl) (z9n fun args v hv H vals w cY hH hG=>by
 unfold fJoi at hv;split at hv
 ·rename_i a0 sep;split at hv
  ·rename_i L g n e0;simp only [Ab,Aa,Ac] at hv;obtain ⟨rfl,ht,ho⟩:=hv;unfold Qu at ho;rw [Ac,Ak,Ak] at ho;obtain ⟨v0,rfl,cV⟩: ∃v0,vals= #[v0,.string ⟨sep.toArray⟩]∧Za (Jy H) (.dat L.length (Zy L)) v0:=by
    obtain ⟨vl⟩:=vals;cases cY with
    | cons h1 h2=>cases h2 with
     | cons h2 h3=>cases h3;cases h2;exact ⟨_,rfl,(Yg e0 ht).sound h1⟩
   have hmap:(L.map fun s=>(⟨s.toArray⟩:ByteArray)).map (·.data.toList)=L:=by rw [List.map_map];exact (List.map_congr_left fun s _=>rfl).trans (List.map_id L)
   have hlenm:(L.map fun s=>(⟨s.toArray⟩:ByteArray)).length =L.length:=List.length_map _;have none: ∀(a:Option Addr) (c:Nat),L.length=0→Calls prog joiN #[.slice a 0 c,.string ⟨sep.toArray⟩] w fun e w'=> ∃u,e=.returned u∧Za (Jy H) (.str (joiV L sep)) u∧RowKit.Below w.heap.size w w':=fun a c h0=>by
    obtain rfl:=Bx h0;refine (Any.strings_Join_none Tryz.lays156 Tryz.Builder_Extra_156 a c ⟨sep.toArray⟩ w).mono fun e w' ⟨he,hw⟩=>⟨_,he,?_,?_⟩
    ·exact .str _
    ·subst hw;exact RowKit.Below.refl _ _
   generalize hn:L.length=m at cV;cases cV with
   | datn=>exact none _ _ hn
   | datz _ a c=>exact none _ _ hn
   | dat _ _ blk base sz cap val dD hsz hv hh=>
    by_cases h0:L.length=0
    ·rw [←hn,h0];exact none _ _ h0
    have eU: ∀i,(hi:i<L.length)→Zy L i=[.str L[i]]:=fun i hi=>by show Ym.cells (rd L i)=_;rw [Xf hi];rfl
    have hsz1:sz=1:=by have:=hsz 0 (by omega);rw [eU 0 (by omega)] at this;exact this.symm
    subst hsz1;have dK: ∀i,(hi:i<L.length)→val i 0=.string ⟨L[i].toArray⟩:=fun i hi=>by have:=hv i 0 (by omega) (by rw [eU i hi];exact Nat.one_pos);simp only [eU i hi,List.getElem_cons_zero] at this;generalize val i 0=z at this;cases this;rfl
    have dS: ∀i,(hi:i<L.length)→ ∃cs el fz,w.heap[blk]? =some (.cells cs el fz)∧cs[base+i]? =some (.string ⟨L[i].toArray⟩):=fun i hi=>by obtain ⟨cs,el,fz,e1,e2⟩:=hh i 0 (by omega) Nat.one_pos;rw [dK i hi,Nat.mul_one,Bh] at e2;exact ⟨cs,el,fz,hH _ _ e1,e2⟩
    have hJ:=Any.strings_Join Tryz.lays156 Tryz.Builder_Extra_156 blk base cap (L.map fun s=>(⟨s.toArray⟩:ByteArray)) ⟨sep.toArray⟩ w (fun j x hx=>by
      have hj:j<L.length:=by rw [←hlenm];exact (AZ.1 hx).1
      obtain ⟨cs,el,fz,e1,e2⟩:=dS j hj;rw [BC,Ar hj] at hx;obtain rfl:=Af hx;simp [World.cell?,e1,e2])
     (by obtain ⟨cs,el,fz,e1,_⟩:=dS 0 (by omega);exact (AC.1 e1).1)
     (by rw [hlenm];omega) (by rw [hlenm];omega) (by rw [hmap];exact AG ho.2 (by omega))
    rw [hmap,hlenm,hn] at hJ;refine hJ.mono fun e w' ⟨he,hw⟩=>⟨_,he,?_,hw⟩
    exact .str _
  ·cases hv
 ·cases hv)
def SzS0 :Specs:=((T9.with idxN fIdx).with cntN fCnt).with joiN fJoi
theorem Yv :Zw prog SzS0:=u1l (u2a (u1m T9_ok))
inductive kutS where
def kutC (x0:List UInt8) (x1:List UInt8):kutS→Cfg
 :=nofun
def x3b (x0:List UInt8) (x1:List UInt8):kutS→Ya kutS
 :=nofun
def z5g (x0:List UInt8) (x1:List UInt8):Ya kutS:=(bif (y0p x0 x1) then (bif (decide ((z0r x0 x1)≥0)) then (bif (decide ((Int.toNat (z0r x0 x1))≤x0.length)) then (bif (decide (0≤(z0r x0 x1))) then (bif (decide ((Int.toNat (wrap .i64 ((z0r x0 x1)+(x1.length:Int))))≤x0.length)) then (bif (decide (0≤(wrap .i64 ((z0r x0 x1)+(x1.length:Int))))) then (.ret [(.str ((x0.drop 0).take (Int.toNat (z0r x0 x1)))),(.str ((x0.drop (Int.toNat (wrap .i64 ((z0r x0 x1)+(x1.length:Int))))).take (x0.length - (Int.toNat (wrap .i64 ((z0r x0 x1)+(x1.length:Int))))))),(.bool true)]) else .stuck) else .stuck) else .stuck) else .stuck) else (.ret [(.str x0),(.str []),(.bool false)])) else .stuck)
theorem w0i (x0:List UInt8) (x1:List UInt8): ∀s,Yh prog (Zz prog 76) (kutC x0 x1) (kutC x0 x1 s) (x3b x0 x1 s)
 :=nofun
theorem x3c (x0:List UInt8) (x1:List UInt8):Yh prog (Zz prog 76) (kutC x0 x1) (Zj prog 76 [(.str x0),(.str x1)] true []) (z5g x0 x1):=(lo fun bC=>(lb (fun k0=>(lo fun o0=>(lo fun o1=>(lo fun o2=>(lo fun o3=>(lr 13 3 [1,1,1,1,1,1,1,1,0] 1 76 [(4,(.str ((x0.drop 0).take (tn (z0r x0 x1))))),(5,(.str ((x0.drop (tn (wr ((z0r x0 x1)+(x1.length:Int))))).take (x0.length - (tn (wr ((z0r x0 x1)+(x1.length:Int)))))))),(6,(.bool true))] (sl Yv 41 [] ⟨[],[],[some [4,5,6]],[]⟩ ⟨[],[],[]⟩ [true] (pp (pp nn (pp (xw o3) (pp (xG (decide (x0.length≤x0.length)) (Ae (Ao _))) (xG (decide ((tn (wr ((z0r x0 x1)+(x1.length:Int))))≤x0.length)))))) (pp (pp (xw o1) (pp nn (pp (xG (decide ((tn (z0r x0 x1))≤x0.length))) (xG (decide (0≤(tn (z0r x0 x1)))))))) (tt k0 (ww bC nn))))))))))) (fun k0=>(lr 13 3 [1,1,1,1,1,1,1,1,0] 1 76 [(4,(.str x0)),(5,(.str [])),(6,(.bool false))] (sl Yv 47 [] ⟨[],[],[some [4,5,6]],[]⟩ ⟨[],[],[]⟩ [false] (tt k0 (ww bC nn)))))))
theorem v0o (x0:List UInt8) (x1:List UInt8) (n:Nat) (vs:List AVal) (h:Zo (x3b x0 x1) n (z5g x0 x1)=.ret vs):Ws prog (Zz prog 76) (Zj prog 76 [(.str x0),(.str x1)] true []) vs:=by have:=Zk (w0i x0 x1) n _ (x3c x0 x1);rwa [h] at this
inductive csuS where
def csuC (x0:List UInt8) (x1:List UInt8):csuS→Cfg
 :=nofun
def x4q (x0:List UInt8) (x1:List UInt8):csuS→Ya csuS
 :=nofun
def z6a (x0:List UInt8) (x1:List UInt8):Ya csuS:=(bif (decide ((x0.length:Int)≥(x1.length:Int))) then (bif (decide ((Int.toNat (wrap .i64 ((x0.length:Int) - (x1.length:Int))))≤x0.length)) then (bif (decide (0≤(wrap .i64 ((x0.length:Int) - (x1.length:Int))))) then (bif (!(((x0.drop (Int.toNat (wrap .i64 ((x0.length:Int) - (x1.length:Int))))).take (x0.length - (Int.toNat (wrap .i64 ((x0.length:Int) - (x1.length:Int)))))) == x1)) then (.ret [(.str x0),(.bool false)]) else (.ret [(.str ((x0.drop 0).take (Int.toNat (wrap .i64 ((x0.length:Int) - (x1.length:Int)))))),(.bool true)])) else .stuck) else .stuck) else (.ret [(.str x0),(.bool false)]))
theorem w1j (x0:List UInt8) (x1:List UInt8): ∀s,Yh prog (Zz prog 77) (csuC x0 x1) (csuC x0 x1 s) (x4q x0 x1 s)
 :=nofun
theorem x4r (x0:List UInt8) (x1:List UInt8):Yh prog (Zz prog 77) (csuC x0 x1) (Zj prog 77 [(.str x0),(.str x1)] true []) (z6a x0 x1):=(lb (fun k0=>(lo fun aI=>(lo fun aQ=>(lb (fun k1=>(lr 11 3 [1,1,1,1,1,1,1,1,0] 1 6 [(4,(.str x0)),(5,(.bool false))] (sl Yv 61 [] ⟨[],[],[some [4,5]],[]⟩ ⟨[],[],[]⟩ (trs 10 []) (tt k1 (pp (pp nn (pp (xw aQ) (pp (xG (decide (x0.length≤x0.length)) (Ae (Ao _))) (xG (decide ((tn (wr ((x0.length:Int) - (x1.length:Int))))≤x0.length)))))) (tt k0 nn)))))) (fun k1=>(lr 11 3 [1,1,1,1,1,1,1,1,0] 1 6 [(4,(.str ((x0.drop 0).take (tn (wr ((x0.length:Int) - (x1.length:Int))))))),(5,(.bool true))] (sl Yv 68 [] ⟨[],[],[some [4,5]],[]⟩ ⟨[],[],[]⟩ (trs 9 [false]) (pp (pp (xw aQ) (pp nn (pp (xG (decide ((tn (wr ((x0.length:Int) - (x1.length:Int))))≤x0.length))) (xG (decide (0≤(tn (wr ((x0.length:Int) - (x1.length:Int)))))))))) (tt k1 (pp (pp nn (pp (xw aQ) (pp (xG (decide (x0.length≤x0.length)) (Ae (Ao _))) (xG (decide ((tn (wr ((x0.length:Int) - (x1.length:Int))))≤x0.length)))))) (tt k0 nn))))))))))) (fun k0=>(lr 11 3 [1,1,1,1,1,1,1,1,0] 1 6 [(4,(.str x0)),(5,(.bool false))] (sl Yv 61 [] ⟨[],[],[some [4,5]],[]⟩ ⟨[],[],[]⟩ [false,false,false,false,false,false,false,false,false,true] (tt k0 nn)))))
theorem v1x (x0:List UInt8) (x1:List UInt8) (n:Nat) (vs:List AVal) (h:Zo (x4q x0 x1) n (z6a x0 x1)=.ret vs):Ws prog (Zz prog 77) (Zj prog 77 [(.str x0),(.str x1)] true []) vs:=by have:=Zk (w1j x0 x1) n _ (x4r x0 x1);rwa [h] at this
inductive namS where
 | h0 (aV:Nat)
def namC (x0:List UInt8):namS→Cfg
 | .h0 aV=>⟨⟨44,0,true⟩,none,(Zm prog 30 [1,1,0,1,0,0] 0),none,(Zz prog 5),⟨Yx [(15,(.ptr 0 0))],Xj [⟨[(.obj (.it x0 aV))],9,none⟩] 0,1,[],true⟩,[],.leaf⟩
def x9t :List (Option (List Nat)):=[some [15]]
def x9u :List (Option (List Nat)):=[]
def z3d (x0:List UInt8):namS→Ya namS
 | .h0 aV=>(bif (decide (aV<x0.length)) then (bif (decide ((dcR x0 aV)≥97)) then (bif (!(decide ((dcR x0 aV)≤122))) then (bif (((aV:Nat):Int) == 0) then (.ret [(.bool false)]) else (bif ((dcR x0 aV) != 45) then (bif (decide ((dcR x0 aV)<48)) then (.ret [(.bool false)]) else (bif (decide ((dcR x0 aV)>57)) then (.ret [(.bool false)]) else (.to (.h0 (aV+dcW x0 aV))))) else (.to (.h0 (aV+dcW x0 aV))))) else (.to (.h0 (aV+dcW x0 aV)))) else (bif (((aV:Nat):Int) == 0) then (.ret [(.bool false)]) else (bif ((dcR x0 aV) != 45) then (bif (decide ((dcR x0 aV)<48)) then (.ret [(.bool false)]) else (bif (decide ((dcR x0 aV)>57)) then (.ret [(.bool false)]) else (.to (.h0 (aV+dcW x0 aV))))) else (.to (.h0 (aV+dcW x0 aV)))))) else (.ret [(.bool true)]))
def z9a (x0:List UInt8):Ya namS:=(bif ((x0.length:Int) == 0) then (.ret [(.bool false)]) else (bif (decide ((x0.length:Int)>40)) then (.ret [(.bool false)]) else (.to (.h0 0))))
theorem x9s (x0:List UInt8): ∀s,Yh prog (Zz prog 30) (namC x0) (namC x0 s) (z3d x0 s)
 | .h0 aV=>(lb (fun k0=>(lb (fun k1=>(lb (fun k2=>(lb (fun k3=>(lr 44 30 [1,1,0,1,0,0,1,1,0,1,1,1,0,0] 1 5 [(2,(.bool false))] (sl Yv 52 [] ⟨[],[],[some [2]],[]⟩ ⟨[],[],[]⟩ (trs 13 []) (tt k3 (tt k2 (tt k1 (tt k0 nn))))))) (fun k3=>(lb (fun k4=>(lb (fun k5=>(lr 44 30 [1,1,0,1,0,0,1,1,0,1,1,1,0,0] 1 5 [(2,(.bool false))] (sl Yv 52 [] ⟨[],[],[some [2]],[]⟩ ⟨[],[],[]⟩ (trs 7 (bl 12 3576)) (tt k5 (tt k4 (tt k3 (tt k2 (tt k1 (tt k0 nn))))))))) (fun k5=>(lb (fun k6=>(lr 44 30 [1,1,0,1,0,0,1,1,0,1,1,1,0,0] 1 5 [(2,(.bool false))] (sl Yv 52 [] ⟨[],[],[some [2]],[]⟩ ⟨[],[],[]⟩ (trs 7 (bl 12 3384)) (tt k6 (tt k5 (tt k4 (tt k3 (tt k2 (tt k1 (tt k0 nn)))))))))) (fun k6=>(sl Yv 51 [] ⟨[0],[],x9t,x9u⟩ ⟨[],[],[]⟩ (trs 7 (bl 12 1336)) (tt k6 (tt k5 (tt k4 (tt k3 (tt k2 (tt k1 (tt k0 nn))))))))))))) (fun k4=>(sl Yv 51 [] ⟨[0],[],x9t,x9u⟩ ⟨[],[],[]⟩ (trs 7 (bl 10 256)) (tt k4 (tt k3 (tt k2 (tt k1 (tt k0 nn))))))))))) (fun k2=>(sl Yv 51 [] ⟨[0],[],x9t,x9u⟩ ⟨[],[],[]⟩ (trs 4 (bl 5 0)) (tt k2 (tt k1 (tt k0 nn))))))) (fun k1=>(lb (fun k2=>(lr 44 30 [1,1,0,1,0,0,1,1,0,1,1,1,0,0] 1 5 [(2,(.bool false))] (sl Yv 52 [] ⟨[],[],[some [2]],[]⟩ ⟨[],[],[]⟩ (bl 13 8179) (tt k2 (tt k1 (tt k0 nn)))))) (fun k2=>(lb (fun k3=>(lb (fun k4=>(lr 44 30 [1,1,0,1,0,0,1,1,0,1,1,1,0,0] 1 5 [(2,(.bool false))] (sl Yv 52 [] ⟨[],[],[some [2]],[]⟩ ⟨[],[],[]⟩ (bl 19 457843) (tt k4 (tt k3 (tt k2 (tt k1 (tt k0 nn)))))))) (fun k4=>(lb (fun k5=>(lr 44 30 [1,1,0,1,0,0,1,1,0,1,1,1,0,0] 1 5 [(2,(.bool false))] (sl Yv 52 [] ⟨[],[],[some [2]],[]⟩ ⟨[],[],[]⟩ (bl 19 433267) (tt k5 (tt k4 (tt k3 (tt k2 (tt k1 (tt k0 nn))))))))) (fun k5=>(sl Yv 51 [] ⟨[0],[],x9t,x9u⟩ ⟨[],[],[]⟩ (bl 19 171123) (tt k5 (tt k4 (tt k3 (tt k2 (tt k1 (tt k0 nn)))))))))))) (fun k3=>(sl Yv 51 [] ⟨[0],[],x9t,x9u⟩ ⟨[],[],[]⟩ (bl 17 32883) (tt k3 (tt k2 (tt k1 (tt k0 nn)))))))))))) (fun k0=>(lr 44 3 [1,1,1,1,1,1,1,1,0] 1 5 [(2,(.bool true))] (sl Yv 12 [] ⟨[],[],[some [2]],[]⟩ ⟨[],[],[]⟩ (bl 2 0) (tt k0 nn)))))
theorem x2s (x0:List UInt8):Yh prog (Zz prog 30) (namC x0) (Zj prog 30 [(.str x0)] true []) (z9a x0):=(lb (fun k0=>(lr 44 30 [1,0,1,0,0] 1 5 [(2,(.bool false))] (sl Yv 21 [] ⟨[],[],[some [2]],[]⟩ ⟨[],[],[]⟩ (trs 4 []) (tt k0 nn)))) (fun k0=>(lb (fun k1=>(lr 44 30 [1,0,1,0,0] 1 5 [(2,(.bool false))] (sl Yv 21 [] ⟨[],[],[some [2]],[]⟩ ⟨[],[],[]⟩ [false,false,false,true] (tt k1 (tt k0 nn))))) (fun k1=>(sl Yv 26 [] ⟨[0],[],x9t,x9u⟩ ⟨[],[],[]⟩ [false,false,false,false] (tt k1 (tt k0 nn)))))))
theorem v0c (x0:List UInt8) (n:Nat) (vs:List AVal) (h:Zo (z3d x0) n (z9a x0)=.ret vs):Ws prog (Zz prog 30) (Zj prog 30 [(.str x0)] true []) vs:=by have:=Zk (x9s x0) n _ (x2s x0);rwa [h] at this
inductive rnaS where
 | h0 (v3:Int)
def rnaC (x0:List UInt8):rnaS→Cfg
 | .h0 v3=>⟨⟨40,0,true⟩,none,(Zm prog 33 [1,0,1,0,0] 0),none,(Zz prog 5),⟨Yx [(0,(.str x0)),(3,(ii v3))],Xj [] 0,0,[],true⟩,[],.leaf⟩
def x8v :List (Option (List Nat)):=[some [0,3]]
def x8w :List (Option (List Nat)):=[]
def z2w (x0:List UInt8):rnaS→Ya rnaS
 | .h0 v3=>(bif (decide (v3<(x0.length:Int))) then (bif (decide (0≤v3∧v3<(x0.length:Int))) then (bif (decide ((bAt x0 v3.toNat)≥97)) then (bif (!(decide ((bAt x0 v3.toNat)≤122))) then (bif (v3 == 0) then (.ret [(.bool false)]) else (bif ((bAt x0 v3.toNat) != 45) then (bif (decide ((bAt x0 v3.toNat)≥48)) then (bif (!(decide ((bAt x0 v3.toNat)≤57))) then (.ret [(.bool false)]) else (.to (.h0 (wrap .i64 (v3+1))))) else (.ret [(.bool false)])) else (.to (.h0 (wrap .i64 (v3+1)))))) else (.to (.h0 (wrap .i64 (v3+1))))) else (bif (v3 == 0) then (.ret [(.bool false)]) else (bif ((bAt x0 v3.toNat) != 45) then (bif (decide ((bAt x0 v3.toNat)≥48)) then (bif (!(decide ((bAt x0 v3.toNat)≤57))) then (.ret [(.bool false)]) else (.to (.h0 (wrap .i64 (v3+1))))) else (.ret [(.bool false)])) else (.to (.h0 (wrap .i64 (v3+1))))))) else .stuck) else (bif (decide ((x0.length:Int)≥1)) then (.ret [(.bool (decide ((x0.length:Int)≤40)))]) else (.ret [(.bool false)])))
def y4y (x0:List UInt8):Ya rnaS:=(.to (.h0 0))
theorem x8u (x0:List UInt8): ∀s,Yh prog (Zz prog 33) (rnaC x0) (rnaC x0 s) (z2w x0 s)
 | .h0 v3=>(lb (fun k0=>(lo fun aI=>(lb (fun k1=>(lb (fun k2=>(lb (fun k3=>(lr 40 33 [1,0,1,0,0,1,0,0,1,0,0] 1 5 [(2,(.bool false))] (sl Yv 57 [] ⟨[],[],[some [2]],[]⟩ ⟨[],[],[]⟩ (trs 14 []) (tt k3 (tt k2 (tt k1 (ww aI (tt k0 nn)))))))) (fun k3=>(lb (fun k4=>(lb (fun k5=>(lb (fun k6=>(lr 40 33 [1,0,1,0,0,1,0,0,1,0,0] 1 5 [(2,(.bool false))] (sl Yv 72 [] ⟨[],[],[some [2]],[]⟩ ⟨[],[],[]⟩ (trs 6 (bl 15 28640)) (tt k6 (tt k5 (ww aI (tt k4 (ww aI (tt k3 (tt k2 (tt k1 (ww aI (tt k0 nn))))))))))))) (fun k6=>(sl Yv 76 [] ⟨[],[],x8v,x8w⟩ ⟨[],[],[]⟩ (trs 6 (bl 15 12256)) (tt k6 (tt k5 (ww aI (tt k4 (ww aI (tt k3 (tt k2 (tt k1 (ww aI (tt k0 nn)))))))))))))) (fun k5=>(lr 40 33 [1,0,1,0,0,1,0,0,1,0,0] 1 5 [(2,(.bool false))] (sl Yv 72 [] ⟨[],[],[some [2]],[]⟩ ⟨[],[],[]⟩ (trs 6 (bl 15 27104)) (tt k5 (ww aI (tt k4 (ww aI (tt k3 (tt k2 (tt k1 (ww aI (tt k0 nn)))))))))))))) (fun k4=>(sl Yv 61 [] ⟨[],[],x8v,x8w⟩ ⟨[],[],[]⟩ (trs 6 (bl 13 2048)) (tt k4 (ww aI (tt k3 (tt k2 (tt k1 (ww aI (tt k0 nn))))))))))))) (fun k2=>(sl Yv 61 [] ⟨[],[],x8v,x8w⟩ ⟨[],[],[]⟩ (trs 3 (bl 5 0)) (tt k2 (tt k1 (ww aI (tt k0 nn)))))))) (fun k1=>(lb (fun k2=>(lr 40 33 [1,0,1,0,0,1,0,0,1,0,0] 1 5 [(2,(.bool false))] (sl Yv 57 [] ⟨[],[],[some [2]],[]⟩ ⟨[],[],[]⟩ (bl 14 16377) (tt k2 (tt k1 (ww aI (tt k0 nn))))))) (fun k2=>(lb (fun k3=>(lb (fun k4=>(lb (fun k5=>(lr 40 33 [1,0,1,0,0,1,0,0,1,0,0] 1 5 [(2,(.bool false))] (sl Yv 72 [] ⟨[],[],[some [2]],[]⟩ ⟨[],[],[]⟩ (bl 21 1833017) (tt k5 (tt k4 (ww aI (tt k3 (ww aI (tt k2 (tt k1 (ww aI (tt k0 nn)))))))))))) (fun k5=>(sl Yv 76 [] ⟨[],[],x8v,x8w⟩ ⟨[],[],[]⟩ (bl 21 784441) (tt k5 (tt k4 (ww aI (tt k3 (ww aI (tt k2 (tt k1 (ww aI (tt k0 nn))))))))))))) (fun k4=>(lr 40 33 [1,0,1,0,0,1,0,0,1,0,0] 1 5 [(2,(.bool false))] (sl Yv 72 [] ⟨[],[],[some [2]],[]⟩ ⟨[],[],[]⟩ (bl 21 1734713) (tt k4 (ww aI (tt k3 (ww aI (tt k2 (tt k1 (ww aI (tt k0 nn))))))))))))) (fun k3=>(sl Yv 61 [] ⟨[],[],x8v,x8w⟩ ⟨[],[],[]⟩ (bl 19 131129) (tt k3 (ww aI (tt k2 (tt k1 (ww aI (tt k0 nn))))))))))))))) (fun k0=>(lb (fun k1=>(lr 40 3 [1,1,1,1,1,1,1,1,0] 1 5 [(2,(.bool (decide ((x0.length:Int)≤40))))] (sl Yv 22 [] ⟨[],[],[some [2]],[]⟩ ⟨[],[],[]⟩ (bl 4 14) (tt k1 (tt k0 nn))))) (fun k1=>(lr 40 3 [1,1,1,1,1,1,1,1,0] 1 5 [(2,(.bool false))] (sl Yv 22 [] ⟨[],[],[some [2]],[]⟩ ⟨[],[],[]⟩ (bl 4 0) (tt k1 (tt k0 nn))))))))
theorem x1g (x0:List UInt8):Yh prog (Zz prog 33) (rnaC x0) (Zj prog 33 [(.str x0)] true []) (y4y x0):=(sl Yv 11 [] ⟨[],[],x8v,x8w⟩ ⟨[],[],[]⟩ [] nn)
theorem w8n (x0:List UInt8) (n:Nat) (vs:List AVal) (h:Zo (z2w x0) n (y4y x0)=.ret vs):Ws prog (Zz prog 33) (Zj prog 33 [(.str x0)] true []) vs:=by have:=Zk (x8u x0) n _ (x1g x0);rwa [h] at this
inductive rctS where
 | h0 (v3:List (List UInt8)) (v4:Int) (v5:Int)
def rctC (x0:List UInt8):rctS→Cfg
 | .h0 v3 v4 v5=>⟨⟨34,0,true⟩,none,(Zm prog 46 [1,1,1,1,0,1,0,0] 0),none,(Zz prog 5),⟨Yx [(0,(.str x0)),(3,(.sla 0 1 0 v3.length (.un 1))),(4,(ii v4)),(5,(ii v5))],Xj [⟨rows v3.length (Zy v3),9,some ⟨1,v3.length,(Zy v3)⟩⟩] 0,1,[],true⟩,[],.leaf⟩
def w9e :List (Option (List Nat)):=[some [0,3,4,5]]
def w9f :List (Option (List Nat)):=[]
def Kc (x0:List UInt8):rctS→Ya rctS
 | .h0 v3 v4 v5=>(bif (decide (v5≤(x0.length:Int))) then (bif (v5 == (x0.length:Int)) then (bif (decide (v4.toNat≤v5.toNat)) then (bif (decide (v5.toNat≤x0.length)) then (bif (decide (0≤v4)) then (bif (decide (0≤v5)) then (bif (Nat.beq 1 1&&((decide (0+v3.length=v3.length))&&decide ((v3.length+1+1)*(16+1)≤Jq))) then (.to (.h0 (v3++[((x0.drop v4.toNat).take (v5.toNat - v4.toNat))]) (wrap .i64 (v5+1)) (wrap .i64 (v5+1)))) else .stuck) else .stuck) else .stuck) else .stuck) else .stuck) else (bif (decide (0≤v5∧v5<(x0.length:Int))) then (bif ((bAt x0 v5.toNat) == 47) then (bif (decide (v4.toNat≤v5.toNat)) then (bif (decide (v5.toNat≤x0.length)) then (bif (decide (0≤v4)) then (bif (decide (0≤v5)) then (bif (Nat.beq 1 1&&((decide (0+v3.length=v3.length))&&decide ((v3.length+1+1)*(16+1)≤Jq))) then (.to (.h0 (v3++[((x0.drop v4.toNat).take (v5.toNat - v4.toNat))]) (wrap .i64 (v5+1)) (wrap .i64 (v5+1)))) else .stuck) else .stuck) else .stuck) else .stuck) else .stuck) else (.to (.h0 v3 v4 (wrap .i64 (v5+1))))) else .stuck)) else (.ret [(.dat v3.length (Zy v3))]))
def z8x (x0:List UInt8):Ya rctS:=(bif (x0 == ([]:List UInt8)) then (.ret [.nils]) else (.to (.h0 ([]:List (List UInt8)) 0 0)))
theorem x9k (x0:List UInt8): ∀s,Yh prog (Zz prog 46) (rctC x0) (rctC x0 s) (Kc x0 s)
 | .h0 v3 v4 v5=>(lb (fun k0=>(lb (fun k1=>(lo fun o0=>(lo fun o1=>(lo fun o2=>(lo fun o3=>(lo fun o4=>(sl Yv 49 [] ⟨[2],[],w9e,w9f⟩ ⟨[(3,.len (v3++[((x0.drop (tn v4)).take ((tn v5) - (tn v4)))]).length)],[.rowed 1 (v3++[((x0.drop (tn v4)).take ((tn v5) - (tn v4)))]).length (Zy (v3++[((x0.drop (tn v4)).take ((tn v5) - (tn v4)))]))],[]⟩ (trs 6 []) (pp (xL (v3.length+1) (v3++[((x0.drop (tn v4)).take ((tn v5) - (tn v4)))]).length) (pp (xL (v3.length+1) (v3++[((x0.drop (tn v4)).take ((tn v5) - (tn v4)))]).length) (pp (xS (v3.length+1) (Ze (Zy v3) 0 v3.length 1 [(.str ((x0.drop (tn v4)).take ((tn v5) - (tn v4))))]) (Zy (v3++[((x0.drop (tn v4)).take ((tn v5) - (tn v4)))]))) (pp (pp (xF (Ze (Zy v3) 0 v3.length 1 [(.str ((x0.drop (tn v4)).take ((tn v5) - (tn v4))))])) nn) (ww o4 (pp (pp (xw o3) (pp (xw o2) (pp (xG (decide ((tn v5)≤x0.length))) (xG (decide ((tn v4)≤(tn v5))))))) (tt k1 (tt k0 nn))))))))))))))) (fun k1=>(lo fun bF=>(lb (fun k2=>(lo fun o0=>(lo fun o1=>(lo fun o2=>(lo fun o3=>(lo fun o4=>(sl Yv 49 [] ⟨[2],[],w9e,w9f⟩ ⟨[(3,.len (v3++[((x0.drop (tn v4)).take ((tn v5) - (tn v4)))]).length)],[.rowed 1 (v3++[((x0.drop (tn v4)).take ((tn v5) - (tn v4)))]).length (Zy (v3++[((x0.drop (tn v4)).take ((tn v5) - (tn v4)))]))],[]⟩ (bl 6 33) (pp (xL (v3.length+1) (v3++[((x0.drop (tn v4)).take ((tn v5) - (tn v4)))]).length) (pp (xL (v3.length+1) (v3++[((x0.drop (tn v4)).take ((tn v5) - (tn v4)))]).length) (pp (xS (v3.length+1) (Ze (Zy v3) 0 v3.length 1 [(.str ((x0.drop (tn v4)).take ((tn v5) - (tn v4))))]) (Zy (v3++[((x0.drop (tn v4)).take ((tn v5) - (tn v4)))]))) (pp (pp (xF (Ze (Zy v3) 0 v3.length 1 [(.str ((x0.drop (tn v4)).take ((tn v5) - (tn v4))))])) nn) (ww o4 (pp (pp (xw o3) (pp (xw o2) (pp (xG (decide ((tn v5)≤x0.length))) (xG (decide ((tn v4)≤(tn v5))))))) (tt k2 (ww bF (tt k1 (tt k0 nn))))))))))))))))) (fun k2=>(sl Yv 34 [] ⟨[0],[],w9e,w9f⟩ ⟨[],[],[]⟩ (bl 6 1) (pp (fl v3 nn) (tt k2 (ww bF (tt k1 (tt k0 nn)))))))))))) (fun k0=>(lr 34 3 [1,1,1,1,1,1,1,1,0] 1 5 [(2,(.dat v3.length (Zy v3)))] (sl Yv 15 [] ⟨[],[0],[some [2]],[]⟩ ⟨[(2,.frz v3.length v3.length (Zy v3) (Zy v3))],[],[]⟩ [false] (pp (xZ (y5s 1 1 0 v3.length v3.length (Zy v3)) v3.length (Zy v3)) (pp (xL v3.length v3.length) (pp (xS v3.length (Zy v3) (Zy v3)) (pp (fl v3 nn) (tt k0 nn)))))))))
theorem x2b (x0:List UInt8):Yh prog (Zz prog 46) (rctC x0) (Zj prog 46 [(.str x0)] true []) (z8x x0):=(lb (fun k0=>(lr 34 46 [1,0,1,0,0] 1 5 [(2,.nils)] (sl Yv 15 [] ⟨[],[],[some [2]],[]⟩ ⟨[],[],[]⟩ [true] (tt k0 nn)))) (fun k0=>(sl Yv 27 [(9,1,Zy ([]:List (List UInt8)))] ⟨[0],[],w9e,w9f⟩ ⟨[(3,.grow 0 1)],[],[]⟩ [false] (pp (fl ([]:List (List UInt8)) nn) (tt k0 nn)))))
theorem w9d (x0:List UInt8) (n:Nat) (vs:List AVal) (h:Zo (Kc x0) n (z8x x0)=.ret vs):Ws prog (Zz prog 46) (Zj prog 46 [(.str x0)] true []) vs:=by have:=Zk (x9k x0) n _ (x2b x0);rwa [h] at this
theorem getB {s:List UInt8} {i:Nat} (h:i<s.length):(⟨s.toArray⟩:ByteArray).get! i=s[i]:=by simp [ByteArray.get!,h]
theorem x7i {s:List UInt8} {i:Nat} (h:i<s.length) (ha:s[i].toNat <128):dcR s i=((s[i].toNat :Nat):Int)∧dcW s i=1:=by
 have e:Utf8.decode ⟨s.toArray⟩ i=(s[i].toNat,1):=by unfold Utf8.decode;simp only [Bh,getB h];rw [AD ha]
 unfold dcR dcW;rw [e];exact ⟨rfl,rfl⟩
theorem v5r {s:List UInt8} {i:Nat} (h:i<s.length) (ha: ¬s[i].toNat <128):128≤dcR s i:=by
 have e:128≤(Utf8.decode ⟨s.toArray⟩ i).1:=by
  unfold Utf8.decode;simp only [Bh,getB h];rw [Ax ha];repeat' split
  all_goals (try simp only [Utf8.runeError,Ac,Ak,ge_iff_le] at*)
  all_goals omega
 unfold dcR;omega
theorem fTwoS {P:Program} {S:Specs} (hS:Zw P S) {f:FuncId} {F:List AVal→Option (AVal×Bool)} (hf:(P.funcs[f]?).any (fun fn=>fn.body.isSome)=true)
  (hF: ∀args v,F args=some (v,true)→ ∃bs vs,Xo VLe args bs∧(∀(ρ:Rho) (u:Value),Za ρ (Vt vs) u→Za ρ v u)∧Ws P (Zz P f) (Zj P f bs true []) vs∧ ∃d,pf d (Vt vs)=true):Zw P (S.with f F):=
 y2t hS hf fun args v h=>by obtain ⟨bs,vs,h1,h2,h3,d,h4⟩:=hF args v h;exact ⟨vs,h2,y0z h1 h3,d,h4⟩
theorem y1l {s:List UInt8} {i:Nat} (h:i<s.length):bAt s i=((s[i].toNat :Nat):Int):=by unfold bAt;rw [A9,Ar h];rfl
theorem w2j (c:UInt8):c.toNat<256:=UInt8.toNat_lt c
theorem v5i (c:UInt8): ∀s:List UInt8,Lib.indexByte s c+1≤(s.length:Int)
 | []=>by show (-1:Int)+1≤((0:Nat):Int);omega
 | b::l=>by
  have ih:=v5i c l;unfold Lib.indexByte;rw [AQ];split
  ·omega
  ·split <;> omega
theorem y7a (x:List UInt8) (k:Nat):(x.drop k).take (x.length - k)=x.drop k:=A5 (by rw [Bp];omega)
def Yi (s sep:List UInt8):List UInt8:=bif decide (0≤z0r s sep) then s.take (z0r s sep).toNat else s
def Xk (s sep:List UInt8):List UInt8:=bif decide (0≤z0r s sep) then s.drop ((z0r s sep).toNat +1) else []
def Vx (s sep:List UInt8):Bool:=decide (0≤z0r s sep)
def Vh (s sep:List UInt8):Bool:=Nat.beq sep.length 1&&decide (s.length≤1000000)
theorem v9h (s sep:List UInt8) (h:Vh s sep=true): ∃N,Zo (x3b s sep) N (z5g s sep)=.ret [.str (Yi s sep),.str (Xk s sep),.bool (Vx s sep)]:=⟨0,by
 unfold Vh at h;rw [Ac,Ak] at h;have hl:=Ah h.1;have hi:z0r s sep+1≤(s.length:Int):=v5i _ _;show z5g s sep=_;unfold z5g Yi Xk Vx;rw [Zr (show y0p s sep=true from h.1),hl];by_cases g:0≤z0r s sep
 ·have w:wrap .i64 (z0r s sep+((1:Nat):Int))=z0r s sep+1:=wrap_t (by omega);have e0:decide (0≤z0r s sep)=true:=Ae g;have e1:decide (z0r s sep≥0)=true:=Ae g;rw [e0,w];simp only [Ag];rw [Zr (Ae (show (z0r s sep).toNat ≤s.length by omega)),
   Zr (Ae (show (z0r s sep+1).toNat ≤s.length by omega)),Zr (Ae (show 0≤z0r s sep+1 by omega)),A0,y7a,
   show (z0r s sep+1).toNat =(z0r s sep).toNat +1 by omega]
 ·have e0:decide (0≤z0r s sep)=false:=An g;have e1:decide (z0r s sep≥0)=false:=An g;rw [e0];rfl⟩
def fKut :List AVal→Option (AVal×Bool)
 | [.str s,.str sep]=>some (.tup [.str (Yi s sep),.str (Xk s sep),.bool (Vx s sep)],Vh s sep)
 | _=>none
theorem u1k {S:Specs} (hS:Zw prog S):Zw prog (S.with kutN fKut):=fOne hS (by kernel_rfl) fun args v h=>by
 unfold fKut at h;split at h
 ·rename_i s sep;simp only [Ab,Aa] at h;obtain ⟨rfl,ho⟩:=h;obtain ⟨N,hN⟩:=v9h s sep ho;exact ⟨_,_,.cons (.refl _) (.cons (.refl _) .nil),rfl,v0o s sep N _ hN,3,rfl⟩
 ·cases h
def z2j (s f:List UInt8):Bool:=decide (f.length≤s.length)&&(s.drop (s.length - f.length) == f)
def Vw (s f:List UInt8):List UInt8:=bif z2j s f then s.take (s.length - f.length) else s
def Qq (s f:List UInt8):Bool:=decide (s.length≤1000000)&&decide (f.length≤1000000)
theorem u2k (s f:List UInt8) (h:Qq s f=true): ∃N,Zo (x4q s f) N (z6a s f)=.ret [.str (Vw s f),.bool (z2j s f)]:=⟨0,by
 unfold Qq at h;rw [Ac,Ak,Ak] at h;show z6a s f=_;unfold z6a Vw z2j;by_cases g:f.length≤s.length
 ·have w:wrap .i64 ((s.length:Int) - (f.length:Int))=((s.length - f.length:Nat):Int):=by rw [wrap_t (by omega)];omega
  rw [Ae g,Ae (show (s.length:Int)≥(f.length:Int) by omega),Ag,w,toNat_c,Aq,y7a,Zr (Ae (show s.length - f.length≤s.length by omega)),Zr (Ae (show (0:Int)≤((s.length - f.length:Nat):Int) by omega)),A0];cases s.drop (s.length - f.length) == f <;> rfl
 ·rw [An g,An (show ¬(s.length:Int)≥(f.length:Int) by omega)];rfl⟩
def fCsu :List AVal→Option (AVal×Bool)
 | [.str s,.str f]=>some (.tup [.str (Vw s f),.bool (z2j s f)],Qq s f)
 | _=>none
theorem u1z {S:Specs} (hS:Zw prog S):Zw prog (S.with csuN fCsu):=fOne hS (by kernel_rfl) fun args v h=>by
 unfold fCsu at h;split at h
 ·rename_i s f;simp only [Ab,Aa] at h;obtain ⟨rfl,ho⟩:=h;obtain ⟨N,hN⟩:=u2k s f ho;exact ⟨_,_,.cons (.refl _) (.cons (.refl _) .nil),rfl,v1x s f N _ hN,3,rfl⟩
 ·cases h
def letN (n:Nat):Bool:=decide (97≤n)&&decide (n≤122)
def digN (n:Nat):Bool:=decide (48≤n)&&decide (n≤57)
def y8c (i n:Nat):Bool:=letN n||(decide (i≠0)&&(decide (n=45)||digN n))
def w7d :Nat→List UInt8→Bool
 | _,[]=>true
 | i,c::r=>y8c i c.toNat&&w7d (i+1) r
def z3t (s:List UInt8):Bool:=decide (1≤s.length)&&(decide (s.length≤40)&&w7d 0 s)
def Wu (s:List UInt8):Bool:=decide (s.length≤1000000)
theorem v0b {s:List UInt8} {i:Nat} (hi:i<s.length):z3d s (.h0 i)=bif y8c i s[i].toNat then .to (.h0 (i+1)) else .ret [.bool false]:=by
 unfold z3d y8c letN digN;simp only [];rw [nlt_t hi,Ag];have hz:(((i:Nat):Int) == 0)=decide (i=0):=by rw [AR];simp
 rw [hz];by_cases ha:s[i].toNat <128
 ·obtain ⟨e1,e2⟩:=x7i hi ha;rw [e1,e2];generalize s[i].toNat =c;by_cases h1:97≤c
  ·rw [dge_t (by omega),Ae h1];by_cases h2:c≤122
   ·rw [dle_t (by omega),Ae h2];rfl
   ·rw [dle_f (by omega),An h2,ne_t (by omega),dlt_f (by omega),dgt_t (by omega),An (show ¬c=45 by omega),An (show ¬c≤57 by omega),AS,AS,Bool.or_false,AS];cases decide (i=0) <;> rfl
  ·rw [dge_f (by omega),An h1,AX,Ba];by_cases h0:i=0
   ·rw [Ae h0,An (show ¬i≠0 from fun h=>h h0)];rfl
   ·rw [An h0,Ae (show i≠0 from h0)];by_cases h3:c=45
    ·rw [ne_f (by omega),Ae h3];rfl
    ·rw [ne_t (by omega),An h3,Aq,Ba];by_cases h4:48≤c
     ·rw [dlt_f (by omega),Ae h4];by_cases h5:c≤57
      ·rw [dgt_f (by omega),Ae h5];rfl
      ·rw [dgt_t (by omega),An h5];rfl
     ·rw [dlt_t (by omega),An h4];rfl
 ·have hb:=v5r hi ha;generalize s[i].toNat =c at ha ⊢;rw [dge_t (by omega),dle_f (by omega),ne_t (by omega),dlt_f (by omega),dgt_t (by omega),Ae (show 97≤c by omega),An (show ¬c≤122 by omega),An (show ¬c=45 by omega),An (show ¬c≤57 by omega),AS,AS,Bool.or_false,AS];cases decide (i=0) <;> rfl
theorem v4q {s:List UInt8}: ∀(k i:Nat),i+k=s.length→ ∃N,Zo (z3d s) N (.to (.h0 i))=.ret [.bool (w7d i (s.drop i))]
 | 0,i,h=>⟨1,by
  rw [Zv,At (by omega)];unfold z3d;simp only [];rw [An (show ¬i<s.length by omega)];rfl⟩
 | k+1,i,h=>by
  have hi:i<s.length:=by omega
  obtain ⟨N,hN⟩:=v4q (s:=s) k (i+1) (by omega);refine ⟨N+1,?_⟩;rw [Zv,v0b hi,AK hi,w7d];cases y8c i s[i].toNat with
  | true=>rw [Ag,hN,Aq]
  | false=>rw [Ad,Zp];rfl
theorem v8s (s:List UInt8) (h:Wu s=true): ∃N,Zo (z3d s) N (z9a s)=.ret [.bool (z3t s)]:=by
 unfold z9a z3t;by_cases h1:1≤s.length
 ·rw [Ae h1,show ((s.length:Int) == 0)=false from beq_f' (by omega),Ad,Aq];by_cases h2:s.length≤40
  ·rw [Ae h2,dgt_f (by omega),Ad,Aq];exact v4q s.length 0 (by omega)
  ·rw [An h2,dgt_t (by omega),Ag];exact ⟨0,rfl⟩
 ·rw [An h1,show ((s.length:Int) == 0)=true from beq_t' (by omega),Ag];exact ⟨0,rfl⟩
theorem w8m {s:List UInt8} {i:Nat} (hi:i<s.length) (hs:s.length≤1000000):z2w s (.h0 (i:Int))=bif y8c i s[i].toNat then .to (.h0 ((i+1:Nat):Int)) else .ret [.bool false]:=by
 unfold z2w y8c letN digN;have w2:wrap .i64 ((i:Int)+1)=((i+1:Nat):Int):=wrap_t (by omega);simp only [toNat_c,w2,y1l hi];rw [dlt_t (by omega),Ag,Zr (din_t (by omega))];have hz:(((i:Nat):Int) == 0)=decide (i=0):=by rw [AR];simp
 rw [hz];generalize s[i].toNat =c;by_cases h1:97≤c
 ·rw [dge_t (by omega),Ae h1];by_cases h2:c≤122
  ·rw [dle_t (by omega),Ae h2];rfl
  ·rw [dle_f (by omega),An h2,ne_t (by omega),dge_t (by omega),dle_f (by omega),An (show ¬c=45 by omega),An (show ¬c≤57 by omega),AS,AS,Bool.or_false,AS];cases decide (i=0) <;> rfl
 ·rw [dge_f (by omega),Ad,An h1,AX,Ba];by_cases h0:i=0
  ·rw [Ae h0,An (show ¬i≠0 from fun h=>h h0)];rfl
  ·rw [An h0,Ae (show i≠0 from h0)];by_cases h3:c=45
   ·rw [ne_f (by omega),Ae h3];rfl
   ·rw [ne_t (by omega),An h3,Aq,Ba];by_cases h4:48≤c
    ·rw [dge_t (by omega),Ae h4];by_cases h5:c≤57
     ·rw [dle_t (by omega),Ae h5];rfl
     ·rw [dle_f (by omega),An h5];rfl
    ·rw [dge_f (by omega),An h4];rfl
theorem v3u {s:List UInt8} (hs:s.length≤1000000): ∀(k i:Nat),i+k=s.length→ ∃N,Zo (z2w s) N (.to (.h0 (i:Int)))=.ret [.bool (w7d i (s.drop i)&&(decide (1≤s.length)&&decide (s.length≤40)))]
 | 0,i,h=>⟨1,by
  rw [Zv,At (by omega)];unfold z2w;simp only [];rw [dlt_f (by omega),Ad];by_cases h1:1≤s.length
  ·rw [dge_t (by omega),Ae h1,Ag,show decide ((s.length:Int)≤40)=decide (s.length≤40) by rw [AR,Ak,Ak];omega];exact Zp _ _ _
  ·rw [dge_f (by omega),An h1];rfl⟩
 | k+1,i,h=>by
  have hi:i<s.length:=by omega
  obtain ⟨N,hN⟩:=v3u hs k (i+1) (by omega);refine ⟨N+1,?_⟩;rw [Zv,w8m hi hs,AK hi,w7d];cases y8c i s[i].toNat with
  | true=>rw [Ag,hN,Aq]
  | false=>rw [Ad,Zp];rfl
theorem v7j (s:List UInt8) (h:Wu s=true): ∃N,Zo (z2w s) N (y4y s)=.ret [.bool (z3t s)]:=by
 obtain ⟨N,hN⟩:=v3u (s:=s) (As h) s.length 0 (by omega);refine ⟨N,?_⟩;have e:z3t s=(w7d 0 (s.drop 0)&&(decide (1≤s.length)&&decide (s.length≤40))):=by unfold z3t;rw [A0];cases w7d 0 s <;> cases decide (1≤s.length) <;> cases decide (s.length≤40) <;> rfl
 rw [e];exact hN
def fNam :List AVal→Option (AVal×Bool)
 | [.str s]=>some (.bool (z3t s),Wu s)
 | _=>none
theorem u1g {S:Specs} (hS:Zw prog S):Zw prog (S.with namN fNam):=fOne hS (by kernel_rfl) fun args v h=>by
 unfold fNam at h;split at h
 ·rename_i s;simp only [Ab,Aa] at h;obtain ⟨rfl,ho⟩:=h;obtain ⟨N,hN⟩:=v8s s ho;exact ⟨_,_,.cons (.refl _) .nil,rfl,v0c s N _ hN,3,rfl⟩
 ·cases h
theorem u0r {S:Specs} (hS:Zw prog S):Zw prog (S.with rnaN fNam):=fOne hS (by kernel_rfl) fun args v h=>by
 unfold fNam at h;split at h
 ·rename_i s;simp only [Ab,Aa] at h;obtain ⟨rfl,ho⟩:=h;obtain ⟨N,hN⟩:=v7j s ho;exact ⟨_,_,.cons (.refl _) .nil,rfl,w8n s N _ hN,3,rfl⟩
 ·cases h
def z7i (s:List UInt8):List (List UInt8):=bif s == [] then [] else z2i 47 [] s
def z4r (s:List UInt8):Bool:=decide (s.length≤1000000)
def rctE (s:List UInt8):List AVal:=bif s == [] then [.nils] else [.dat (z2i 47 [] s).length (Zy (z2i 47 [] s))]
theorem w4d {s:List UInt8} (hs:s.length≤1000000): ∀(k i fr:Nat) (out:List (List UInt8)),i+k=s.length→fr≤i→out.length≤i→
  ∃N,Zo (Kc s) N (.to (.h0 out (fr:Int) (i:Int)))=.ret [.dat (out++z2i 47 ((s.drop fr).take (i - fr)) (s.drop i)).length (Zy (out++z2i 47 ((s.drop fr).take (i - fr)) (s.drop i)))]
 | 0,i,fr,out,h,hfi,ho=>by
  refine ⟨2,?_⟩;have w2:wrap .i64 ((i:Int)+1)=((i+1:Nat):Int):=wrap_t (by omega);have e:Kc s (.h0 out (fr:Int) (i:Int))=.to (.h0 (out++[(s.drop fr).take (i - fr)]) ((i+1:Nat):Int) ((i+1:Nat):Int)):=by unfold Kc;simp only [toNat_c,w2];rw [Zr (dle_t (by omega)),Zr (beq_t' (by omega)),Zr (nle_t hfi),Zr (nle_t (by omega)),Zr (dle_t (by omega)),Zr (dle_t (by omega)),Zr (y4x (by omega))]
  have e2: ∀o,Kc s (.h0 o ((i+1:Nat):Int) ((i+1:Nat):Int))=.ret [.dat o.length (Zy o)]:=fun o=>by unfold Kc;simp only [];rw [dle_f (by omega),Ad]
  rw [Zv,e,Zv,e2,At (show s.length≤i by omega)];rfl
 | k+1,i,fr,out,h,hfi,ho=>by
  have hi:i<s.length:=by omega
  have hc:=w2j s[i];have w2:wrap .i64 ((i:Int)+1)=((i+1:Nat):Int):=wrap_t (by omega);have hbb:((((s[i].toNat :Nat):Int)) == 47)=(s[i] == 47):=by
   rw [AR,A7,A7];constructor
   ·intro h;apply UInt8.toNat_inj.1;show s[i].toNat =47;omega
   ·intro h;rw [h];rfl
  have e:Kc s (.h0 out (fr:Int) (i:Int))=bif s[i] == 47 then .to (.h0 (out++[(s.drop fr).take (i - fr)]) ((i+1:Nat):Int) ((i+1:Nat):Int)) else .to (.h0 out (fr:Int) ((i+1:Nat):Int)):=by unfold Kc;simp only [toNat_c,w2,y1l hi,hbb];rw [Zr (dle_t (by omega)),beq_f' (by omega),Ad,Zr (din_t (by omega))];rw [Zr (nle_t hfi),Zr (nle_t (by omega)),Zr (dle_t (by omega)),Zr (dle_t (by omega)),Zr (y4x (by omega))]
  rw [AK hi,z2i];cases g:s[i] == 47 with
  | true=>obtain ⟨N,hN⟩:=w4d hs k (i+1) (i+1) (out++[(s.drop fr).take (i - fr)]) (by omega) (Ao _) (by rw [AL,Br];omega);refine ⟨N+1,?_⟩;rw [Zv,e,g,Ag,Ag,hN,Nat.sub_self,List.take_zero,AF];rfl
  | false=>
   obtain ⟨N,hN⟩:=w4d hs k (i+1) fr out (by omega) (by omega) (by omega);refine ⟨N+1,?_⟩;have ht:(s.drop fr).take (i+1 - fr)=(s.drop fr).take (i - fr)++[s[i]]:=by
    rw [show i+1 - fr=(i - fr)+1 by omega,Bl]
    congr 1
    rw [List.getElem?_drop,show fr+(i - fr)=i by omega,Ar hi];rfl
   rw [Zv,e,g,Ad,Ad,hN,ht]
theorem v8i (s:List UInt8) (h:z4r s=true): ∃N,Zo (Kc s) N (z8x s)=.ret (rctE s):=by
 unfold z8x rctE;cases g:s == [] with
 | true=>exact ⟨0,rfl⟩
 | false=>obtain ⟨N,hN⟩:=w4d (s:=s) (As h) s.length 0 0 [] (Al _) (Ao _) (Ao _);exact ⟨N,hN⟩
def fRct :List AVal→Option (AVal×Bool)
 | [.str s]=>some (.dat (z7i s).length (Zy (z7i s)),z4r s)
 | _=>none
theorem u1a {S:Specs} (hS:Zw prog S):Zw prog (S.with rctN fRct):=fTwoS hS (by kernel_rfl) fun args v h=>by
 unfold fRct at h;split at h
 ·rename_i s;simp only [Ab,Aa] at h;obtain ⟨rfl,ho⟩:=h;obtain ⟨N,hN⟩:=v8i s ho;refine ⟨_,_,.cons (.refl _) .nil,?_,w9d s N _ hN,3,?_⟩
  ·unfold rctE z7i;cases s == [] with
   | true=>exact fun ρ u hu=>by cases hu;exact .datn _
   | false=>exact fun ρ u hu=>hu
  ·unfold rctE;cases s == [] <;> rfl
 ·cases h
def SzS1 :Specs:=((((SzS0.with kutN fKut).with csuN fCsu).with namN fNam).with rnaN fNam).with rctN fRct
theorem Yo :Zw prog SzS1:=u1a (u0r (u1g (u1z (u1k Yv))))
inductive lreS where
 | h0 (v9:Int) (bP:Nat)
def lreC (x0:List UInt8):lreS→Cfg
 | .h0 v9 bP=>⟨⟨82,0,true⟩,none,(Zm prog 45 [1,1,1,1,1,1,0,1,0,0] 0),none,(Zz prog 45),⟨Yx [(2,(.ptr 0 0)),(4,(.str (Yi x0 ([91]:List UInt8)))),(9,(ii v9)),(62,(.ptr 1 0))],Xj [⟨[(.str []),(ii 0)],86,none⟩,⟨[(.obj (.it (Vw (Xk x0 ([91]:List UInt8)) ([93]:List UInt8)) bP))],9,none⟩] 0,2,[],true⟩,[],.leaf⟩
def v9a :List (Option (List Nat)):=[some [2,4,9,62]]
def v9b :List (Option (List Nat)):=[]
def z3e (x0:List UInt8):lreS→Ya lreS
 | .h0 v9 bP=>(bif (decide (bP<(Vw (Xk x0 ([91]:List UInt8)) ([93]:List UInt8)).length)) then (bif (decide ((dcR (Vw (Xk x0 ([91]:List UInt8)) ([93]:List UInt8)) bP)<48)) then (.ret [(.agg [(.str []),(.int .i64 0)]),(.bool false)]) else (bif (decide ((dcR (Vw (Xk x0 ([91]:List UInt8)) ([93]:List UInt8)) bP)>57)) then (.ret [(.agg [(.str []),(.int .i64 0)]),(.bool false)]) else (.to (.h0 (wrap .i64 ((wrap .i64 (10*v9))+(wrap .i64 (wrap IntKind.i32 ((dcR (Vw (Xk x0 ([91]:List UInt8)) ([93]:List UInt8)) bP) - 48))))) (bP+dcW (Vw (Xk x0 ([91]:List UInt8)) ([93]:List UInt8)) bP))))) else (.ret [(.agg [(.str (Yi x0 ([91]:List UInt8))),(.int .i64 v9)]),(.bool true)]))
def z9b (x0:List UInt8):Ya lreS:=(bif (Vh x0 ([91]:List UInt8)) then (bif (Wu (Yi x0 ([91]:List UInt8))) then (bif (!(z3t (Yi x0 ([91]:List UInt8)))) then (bif (!(Vx x0 ([91]:List UInt8))) then (.ret [(.agg [(.str (Yi x0 ([91]:List UInt8))),(.int .i64 (-1))]),(.bool (z3t (Yi x0 ([91]:List UInt8))))]) else (.ret [(.agg [(.str (Yi x0 ([91]:List UInt8))),(.int .i64 (-1))]),(.bool false)])) else (bif (!(Vx x0 ([91]:List UInt8))) then (.ret [(.agg [(.str (Yi x0 ([91]:List UInt8))),(.int .i64 (-1))]),(.bool (z3t (Yi x0 ([91]:List UInt8))))]) else (bif (Qq (Xk x0 ([91]:List UInt8)) ([93]:List UInt8)) then (bif (!(z2j (Xk x0 ([91]:List UInt8)) ([93]:List UInt8))) then (.ret [(.agg [(.str []),(.int .i64 0)]),(.bool false)]) else (bif ((((Vw (Xk x0 ([91]:List UInt8)) ([93]:List UInt8)).length :Nat):Int) == 0) then (.ret [(.agg [(.str []),(.int .i64 0)]),(.bool false)]) else (bif (decide ((((Vw (Xk x0 ([91]:List UInt8)) ([93]:List UInt8)).length :Nat):Int)>4)) then (.ret [(.agg [(.str []),(.int .i64 0)]),(.bool false)]) else (bif (decide ((0:Int)≤0∧0<(((Vw (Xk x0 ([91]:List UInt8)) ([93]:List UInt8)).length :Nat):Int))) then (bif ((bAt (Vw (Xk x0 ([91]:List UInt8)) ([93]:List UInt8)) 0) == 48) then (bif (decide ((((Vw (Xk x0 ([91]:List UInt8)) ([93]:List UInt8)).length :Nat):Int)>1)) then (.ret [(.agg [(.str []),(.int .i64 0)]),(.bool false)]) else (.to (.h0 0 0))) else (.to (.h0 0 0))) else .stuck)))) else .stuck))) else .stuck) else .stuck)
theorem x9x (x0:List UInt8): ∀s,Yh prog (Zz prog 45) (lreC x0) (lreC x0 s) (z3e x0 s)
 | .h0 v9 bP=>(lb (fun k0=>(lb (fun k1=>(Zf ⟨⟨82,0,true⟩,none,(Zm prog 45 [1,1,1,1,1,1,0,1,0,0,1,1,0,1,0,1,0,0] 1),none,(Zz prog 45),⟨Yx [(2,(.ptr 0 0)),(3,(.bool false))],Xj [⟨[(.str []),(ii 0)],86,none⟩] 0,1,[],true⟩,[],.leaf⟩ (sl Yo 31 [] ⟨[0],[],[some [2,3]],[]⟩ ⟨[],[],[]⟩ (trs 5 []) (tt k1 (tt k0 nn))) rfl (by kernel_rfl))) (fun k1=>(lb (fun k2=>(Zf ⟨⟨82,0,true⟩,none,(Zm prog 45 [1,1,1,1,1,1,0,1,0,0,1,1,0,1,0,1,0,0] 1),none,(Zz prog 45),⟨Yx [(2,(.ptr 0 0)),(3,(.bool false))],Xj [⟨[(.str []),(ii 0)],86,none⟩] 0,1,[],true⟩,[],.leaf⟩ (sl Yo 31 [] ⟨[0],[],[some [2,3]],[]⟩ ⟨[],[],[]⟩ (bl 5 19) (tt k2 (tt k1 (tt k0 nn)))) rfl (by kernel_rfl))) (fun k2=>(sl Yo 37 [] ⟨[0,1],[],v9a,v9b⟩ ⟨[],[],[]⟩ (bl 5 3) (tt k2 (tt k1 (tt k0 nn))))))))) (fun k0=>(Zf ⟨⟨82,0,true⟩,none,(Zm prog 3 [1,1,1,1,1,1,1,1,0] 1),none,(Zz prog 45),⟨Yx [(2,(.ptr 0 0)),(3,(.bool true))],Xj [⟨[(.str (Yi x0 ([91]:List UInt8))),(ii v9)],86,none⟩] 0,1,[],true⟩,[],.leaf⟩ (sl Yo 16 [] ⟨[0],[],[some [2,3]],[]⟩ ⟨[],[],[]⟩ (bl 2 0) (tt k0 nn)) rfl (by kernel_rfl))))
theorem x2w (x0:List UInt8):Yh prog (Zz prog 45) (lreC x0) (Zj prog 45 [(.str x0)] true []) (z9b x0):=(lo fun bC=>(lo fun cK=>(lb (fun k0=>(lb (fun k1=>(Zf ⟨⟨82,0,true⟩,none,(Zm prog 45 [1,1,0,1,0,0] 1),none,(Zz prog 45),⟨Yx [(2,(.ptr 0 0)),(3,(.bool (z3t (Yi x0 ([91]:List UInt8)))))],Xj [⟨[(.str (Yi x0 ([91]:List UInt8))),(ii (-1))],86,none⟩] 0,1,[],true⟩,[],.leaf⟩ (sl Yo 42 [] ⟨[0],[],[some [2,3]],[]⟩ ⟨[],[],[]⟩ (trs 5 []) (ww cK (tt k1 (tt k0 (ww cK (ww bC nn)))))) rfl (by kernel_rfl))) (fun k1=>(Zf ⟨⟨82,0,true⟩,none,(Zm prog 45 [1,1,0,1,0,0] 1),none,(Zz prog 45),⟨Yx [(2,(.ptr 0 0)),(3,(.bool false))],Xj [⟨[(.str (Yi x0 ([91]:List UInt8))),(ii (-1))],86,none⟩] 0,1,[],true⟩,[],.leaf⟩ (sl Yo 42 [] ⟨[0],[],[some [2,3]],[]⟩ ⟨[],[],[]⟩ (trs 3 [false,false]) (tt k1 (tt k0 (ww cK (ww bC nn))))) rfl (by kernel_rfl))))) (fun k0=>(lb (fun k1=>(Zf ⟨⟨82,0,true⟩,none,(Zm prog 45 [1,1,0,1,0,0] 1),none,(Zz prog 45),⟨Yx [(2,(.ptr 0 0)),(3,(.bool (z3t (Yi x0 ([91]:List UInt8)))))],Xj [⟨[(.str (Yi x0 ([91]:List UInt8))),(ii (-1))],86,none⟩] 0,1,[],true⟩,[],.leaf⟩ (sl Yo 42 [] ⟨[0],[],[some [2,3]],[]⟩ ⟨[],[],[]⟩ [false,false,true,true,true] (ww cK (tt k1 (tt k1 (tt k0 (ww cK (ww bC nn))))))) rfl (by kernel_rfl))) (fun k1=>(lo fun bF=>(lb (fun k2=>(Zf ⟨⟨82,0,true⟩,none,(Zm prog 45 [1,1,1,1,0,1,0,0] 1),none,(Zz prog 45),⟨Yx [(2,(.ptr 0 0)),(3,(.bool false))],Xj [⟨[(.str []),(ii 0)],86,none⟩] 0,1,[],true⟩,[],.leaf⟩ (sl Yo 73 [] ⟨[0],[],[some [2,3]],[]⟩ ⟨[],[],[]⟩ [false,false,false,true,true,true,true,true,true,true,true,true,true,true,true] (tt k2 (ww bF (tt k1 (tt k0 (ww cK (ww bC nn))))))) rfl (by kernel_rfl))) (fun k2=>(lb (fun k3=>(Zf ⟨⟨82,0,true⟩,none,(Zm prog 45 [1,1,1,1,0,1,0,0] 1),none,(Zz prog 45),⟨Yx [(2,(.ptr 0 0)),(3,(.bool false))],Xj [⟨[(.str []),(ii 0)],86,none⟩] 0,1,[],true⟩,[],.leaf⟩ (sl Yo 73 [] ⟨[0],[],[some [2,3]],[]⟩ ⟨[],[],[]⟩ [false,false,false,false,false,false,true,true,true,true,true,true,true,true,true] (tt k3 (tt k2 (ww bF (tt k1 (tt k0 (ww cK (ww bC nn)))))))) rfl (by kernel_rfl))) (fun k3=>(lb (fun k4=>(Zf ⟨⟨82,0,true⟩,none,(Zm prog 45 [1,1,1,1,0,1,0,0] 1),none,(Zz prog 45),⟨Yx [(2,(.ptr 0 0)),(3,(.bool false))],Xj [⟨[(.str []),(ii 0)],86,none⟩] 0,1,[],true⟩,[],.leaf⟩ (sl Yo 73 [] ⟨[0],[],[some [2,3]],[]⟩ ⟨[],[],[]⟩ [false,false,false,false,false,false,false,false,false,true,true,true,true,true,true] (tt k4 (tt k3 (tt k2 (ww bF (tt k1 (tt k0 (ww cK (ww bC nn))))))))) rfl (by kernel_rfl))) (fun k4=>(lo fun cH=>(lb (fun k5=>(lb (fun k6=>(Zf ⟨⟨82,0,true⟩,none,(Zm prog 45 [1,1,1,1,0,1,0,0] 1),none,(Zz prog 45),⟨Yx [(2,(.ptr 0 0)),(3,(.bool false))],Xj [⟨[(.str []),(ii 0)],86,none⟩] 0,1,[],true⟩,[],.leaf⟩ (sl Yo 73 [] ⟨[0],[],[some [2,3]],[]⟩ ⟨[],[],[]⟩ [false,false,false,false,false,false,false,false,false,false,false,false,false,true,true,true,false,true] (tt k6 (tt k5 (ww cH (tt k4 (tt k3 (tt k2 (ww bF (tt k1 (tt k0 (ww cK (ww bC nn)))))))))))) rfl (by kernel_rfl))) (fun k6=>(sl Yo 80 [] ⟨[0,1],[],v9a,v9b⟩ ⟨[],[],[]⟩ [false,false,false,false,false,false,false,false,false,false,false,false,false,true,true,true,false,false] (tt k6 (tt k5 (ww cH (tt k4 (tt k3 (tt k2 (ww bF (tt k1 (tt k0 (ww cK (ww bC nn))))))))))))))) (fun k5=>(sl Yo 80 [] ⟨[0,1],[],v9a,v9b⟩ ⟨[],[],[]⟩ [false,false,false,false,false,false,false,false,false,false,false,false,false,false,false,false,false,false] (tt k5 (ww cH (tt k4 (tt k3 (tt k2 (ww bF (tt k1 (tt k0 (ww cK (ww bC nn)))))))))))))))))))))))))))
theorem v0i (x0:List UInt8) (n:Nat) (vs:List AVal) (h:Zo (z3e x0) n (z9b x0)=.ret vs):Ws prog (Zz prog 45) (Zj prog 45 [(.str x0)] true []) vs:=by have:=Zk (x9x x0) n _ (x2w x0);rwa [h] at this
inductive rstS where
 | h0 (v5:Int)
 | h1 (v5:Int) (v6:List UInt8) (v7:Int) (v8:Int)
def rstC (x0:List UInt8):rstS→Cfg
 | .h0 v5=>⟨⟨84,0,true⟩,none,(Zm prog 47 [1,1,0,0,0] 0),none,(Zz prog 47),⟨Yx [(0,(.str x0)),(5,(ii v5))],Xj [] 0,0,[],true⟩,[],.leaf⟩
 | .h1 v5 v6 v7 v8=>⟨⟨84,0,true⟩,none,(Zm prog 47 [1,1,1,1,1,1,1,1,0,1,0,0] 0),none,(Zz prog 47),⟨Yx [(0,(.str x0)),(5,(ii v5)),(6,(.str v6)),(7,(ii v7)),(8,(ii v8))],Xj [] 0,0,[],true⟩,[],.leaf⟩
def rstN0 :List (Option (List Nat)):=[some [0,5]]
def rstM0 :List (Option (List Nat)):=[]
def v6y :List (Option (List Nat)):=[some [0,5,6,7,8]]
def v6z :List (Option (List Nat)):=[]
def Vp (x0:List UInt8):rstS→Ya rstS
 | .h0 v5=>(bif (decide (v5<(x0.length:Int))) then (bif (decide (0≤v5∧v5<(x0.length:Int))) then (bif ((bAt x0 v5.toNat) != 91) then (.to (.h0 (wrap .i64 (v5+1)))) else (bif (decide (v5.toNat≤x0.length)) then (bif (decide (0≤v5)) then (bif (Wu ((x0.drop 0).take v5.toNat)) then (bif (!(z3t ((x0.drop 0).take v5.toNat))) then (.ret [(.str []),(.int .i64 0),(.bool false)]) else (bif (v5 == (x0.length:Int)) then (.ret [(.str x0),(.int .i64 (-1)),(.bool true)]) else (bif (decide (0≤(wrap .i64 ((x0.length:Int) - 1))∧(wrap .i64 ((x0.length:Int) - 1))<(x0.length:Int))) then (bif ((bAt x0 (Int.toNat (wrap .i64 ((x0.length:Int) - 1)))) != 93) then (.ret [(.str []),(.int .i64 0),(.bool false)]) else (bif (decide ((Int.toNat (wrap .i64 (v5+1)))≤(Int.toNat (wrap .i64 ((x0.length:Int) - 1))))) then (bif (decide ((Int.toNat (wrap .i64 ((x0.length:Int) - 1)))≤x0.length)) then (bif (decide (0≤(wrap .i64 (v5+1)))) then (bif (decide (0≤(wrap .i64 ((x0.length:Int) - 1)))) then (.to (.h1 v5 ((x0.drop (Int.toNat (wrap .i64 (v5+1)))).take ((Int.toNat (wrap .i64 ((x0.length:Int) - 1))) - (Int.toNat (wrap .i64 (v5+1))))) 0 0)) else .stuck) else .stuck) else .stuck) else .stuck)) else .stuck))) else .stuck) else .stuck) else .stuck)) else .stuck) else (bif (decide (v5.toNat≤x0.length)) then (bif (decide (0≤v5)) then (bif (Wu ((x0.drop 0).take v5.toNat)) then (bif (!(z3t ((x0.drop 0).take v5.toNat))) then (.ret [(.str []),(.int .i64 0),(.bool false)]) else (bif (v5 == (x0.length:Int)) then (.ret [(.str x0),(.int .i64 (-1)),(.bool true)]) else (bif (decide (0≤(wrap .i64 ((x0.length:Int) - 1))∧(wrap .i64 ((x0.length:Int) - 1))<(x0.length:Int))) then (bif ((bAt x0 (Int.toNat (wrap .i64 ((x0.length:Int) - 1)))) != 93) then (.ret [(.str []),(.int .i64 0),(.bool false)]) else (bif (decide ((Int.toNat (wrap .i64 (v5+1)))≤(Int.toNat (wrap .i64 ((x0.length:Int) - 1))))) then (bif (decide ((Int.toNat (wrap .i64 ((x0.length:Int) - 1)))≤x0.length)) then (bif (decide (0≤(wrap .i64 (v5+1)))) then (bif (decide (0≤(wrap .i64 ((x0.length:Int) - 1)))) then (.to (.h1 v5 ((x0.drop (Int.toNat (wrap .i64 (v5+1)))).take ((Int.toNat (wrap .i64 ((x0.length:Int) - 1))) - (Int.toNat (wrap .i64 (v5+1))))) 0 0)) else .stuck) else .stuck) else .stuck) else .stuck)) else .stuck))) else .stuck) else .stuck) else .stuck))
 | .h1 v5 v6 v7 v8=>(bif (decide (v8<(v6.length:Int))) then (bif (decide (0≤v8∧v8<(v6.length:Int))) then (bif (decide ((bAt v6 v8.toNat)≥48)) then (bif (!(decide ((bAt v6 v8.toNat)≤57))) then (.ret [(.str []),(.int .i64 0),(.bool false)]) else (bif (decide (v8>3)) then (.ret [(.str []),(.int .i64 0),(.bool false)]) else (.to (.h1 v5 v6 (wrap .i64 ((wrap .i64 (10*v7))+(wrap .i64 (wrap IntKind.u8 ((bAt v6 v8.toNat) - 48))))) (wrap .i64 (v8+1)))))) else (.ret [(.str []),(.int .i64 0),(.bool false)])) else .stuck) else (bif ((v6.length:Int) == 0) then (.ret [(.str []),(.int .i64 0),(.bool false)]) else (bif (decide ((v6.length:Int)>1)) then (bif (decide ((0:Int)≤0∧0<(v6.length:Int))) then (bif ((bAt v6 0) == 48) then (.ret [(.str []),(.int .i64 0),(.bool false)]) else (bif (decide (v5.toNat≤x0.length)) then (bif (decide (0≤v5)) then (.ret [(.str ((x0.drop 0).take v5.toNat)),(.int .i64 v7),(.bool true)]) else .stuck) else .stuck)) else .stuck) else (bif (decide (v5.toNat≤x0.length)) then (bif (decide (0≤v5)) then (.ret [(.str ((x0.drop 0).take v5.toNat)),(.int .i64 v7),(.bool true)]) else .stuck) else .stuck))))
def y4t (x0:List UInt8):Ya rstS:=(.to (.h0 0))
theorem x8l (x0:List UInt8): ∀s,Yh prog (Zz prog 47) (rstC x0) (rstC x0 s) (Vp x0 s)
 | .h0 v5=>(lb (fun k0=>(lo fun aI=>(lb (fun k1=>(sl Yo 24 [] ⟨[],[],rstN0,rstM0⟩ ⟨[],[],[]⟩ (trs 5 []) (tt k1 (ww aI (tt k0 nn))))) (fun k1=>(lo fun bF=>(lo fun cB=>(lo fun cJ=>(lb (fun k2=>(lr 84 47 [1,1,1,0,1,0,0] 1 47 [(2,(.str [])),(3,(ii 0)),(4,(.bool false))] (sl Yo 32 [] ⟨[],[],[some [2,3,4]],[]⟩ ⟨[],[],[]⟩ (trs 4 (bl 2 2)) (tt k2 (ww cJ (pp (pp (xw cB) (pp nn (pp (xG (decide ((tn v5)≤x0.length))) (xG (decide (0≤(tn v5))))))) (tt k1 (ww aI (tt k0 nn))))))))) (fun k2=>(lb (fun k3=>(lr 84 47 [1,1,1,1,0,1,0,0] 1 47 [(2,(.str x0)),(3,(ii (-1))),(4,(.bool true))] (sl Yo 43 [] ⟨[],[],[some [2,3,4]],[]⟩ ⟨[],[],[]⟩ (trs 4 (bl 3 4)) (tt k3 (tt k2 (ww cJ (pp (pp (xw cB) (pp nn (pp (xG (decide ((tn v5)≤x0.length))) (xG (decide (0≤(tn v5))))))) (tt k1 (ww aI (tt k0 nn)))))))))) (fun k3=>(lo fun cI=>(lb (fun k4=>(lr 84 47 [1,1,1,1,1,0,1,0,0] 1 47 [(2,(.str [])),(3,(ii 0)),(4,(.bool false))] (sl Yo 54 [] ⟨[],[],[some [2,3,4]],[]⟩ ⟨[],[],[]⟩ (trs 4 (bl 4 8)) (tt k4 (ww cI (tt k3 (tt k2 (ww cJ (pp (pp (xw cB) (pp nn (pp (xG (decide ((tn v5)≤x0.length))) (xG (decide (0≤(tn v5))))))) (tt k1 (ww aI (tt k0 nn)))))))))))) (fun k4=>(lo fun o0=>(lo fun o1=>(lo fun o2=>(lo fun o3=>(sl Yo 71 [] ⟨[],[],v6y,v6z⟩ ⟨[],[],[]⟩ (trs 4 (bl 4 0)) (pp (pp (xw o3) (pp (xw o2) (pp (xG (decide ((tn (wr ((x0.length:Int) - 1)))≤x0.length))) (xG (decide ((tn (wr (v5+1)))≤(tn (wr ((x0.length:Int) - 1))))))))) (tt k4 (ww cI (tt k3 (tt k2 (ww cJ (pp (pp (xw cB) (pp nn (pp (xG (decide ((tn v5)≤x0.length))) (xG (decide (0≤(tn v5))))))) (tt k1 (ww aI (tt k0 nn))))))))))))))))))))))))))))) (fun k0=>(lo fun aI=>(lo fun aQ=>(lo fun bQ=>(lb (fun k1=>(lr 84 47 [1,1,1,0,1,0,0] 1 47 [(2,(.str [])),(3,(ii 0)),(4,(.bool false))] (sl Yo 32 [] ⟨[],[],[some [2,3,4]],[]⟩ ⟨[],[],[]⟩ (bl 6 32) (tt k1 (ww bQ (pp (pp (xw aQ) (pp nn (pp (xG (decide ((tn v5)≤x0.length))) (xG (decide (0≤(tn v5))))))) (tt k0 nn))))))) (fun k1=>(lb (fun k2=>(lr 84 47 [1,1,1,1,0,1,0,0] 1 47 [(2,(.str x0)),(3,(ii (-1))),(4,(.bool true))] (sl Yo 43 [] ⟨[],[],[some [2,3,4]],[]⟩ ⟨[],[],[]⟩ (bl 7 64) (tt k2 (tt k1 (ww bQ (pp (pp (xw aQ) (pp nn (pp (xG (decide ((tn v5)≤x0.length))) (xG (decide (0≤(tn v5))))))) (tt k0 nn)))))))) (fun k2=>(lo fun cC=>(lb (fun k3=>(lr 84 47 [1,1,1,1,1,0,1,0,0] 1 47 [(2,(.str [])),(3,(ii 0)),(4,(.bool false))] (sl Yo 54 [] ⟨[],[],[some [2,3,4]],[]⟩ ⟨[],[],[]⟩ (bl 8 128) (tt k3 (ww cC (tt k2 (tt k1 (ww bQ (pp (pp (xw aQ) (pp nn (pp (xG (decide ((tn v5)≤x0.length))) (xG (decide (0≤(tn v5))))))) (tt k0 nn)))))))))) (fun k3=>(lo fun o0=>(lo fun o1=>(lo fun o2=>(lo fun o3=>(sl Yo 71 [] ⟨[],[],v6y,v6z⟩ ⟨[],[],[]⟩ (bl 8 0) (pp (pp (xw o3) (pp (xw o2) (pp (xG (decide ((tn (wr ((x0.length:Int) - 1)))≤x0.length))) (xG (decide ((tn (wr (v5+1)))≤(tn (wr ((x0.length:Int) - 1))))))))) (tt k3 (ww cC (tt k2 (tt k1 (ww bQ (pp (pp (xw aQ) (pp nn (pp (xG (decide ((tn v5)≤x0.length))) (xG (decide (0≤(tn v5))))))) (tt k0 nn)))))))))))))))))))))))))
 | .h1 v5 v6 v7 v8=>(lb (fun k0=>(lo fun aI=>(lb (fun k1=>(lb (fun k2=>(lr 84 47 [1,1,1,1,1,1,1,1,0,1,0,0,1,0,0,0,1,0,0] 1 47 [(2,(.str [])),(3,(ii 0)),(4,(.bool false))] (sl Yo 47 [] ⟨[],[],[some [2,3,4]],[]⟩ ⟨[],[],[]⟩ (trs 6 []) (tt k2 (tt k1 (ww aI (tt k0 nn))))))) (fun k2=>(lb (fun k3=>(lr 84 47 [1,1,1,1,1,1,1,1,0,1,0,0,1,0,0,0,1,0,0] 1 47 [(2,(.str [])),(3,(ii 0)),(4,(.bool false))] (sl Yo 47 [] ⟨[],[],[some [2,3,4]],[]⟩ ⟨[],[],[]⟩ (trs 3 (bl 3 4)) (tt k3 (tt k2 (tt k1 (ww aI (tt k0 nn)))))))) (fun k3=>(sl Yo 60 [] ⟨[],[],v6y,v6z⟩ ⟨[],[],[]⟩ (trs 3 (bl 3 0)) (ww aI (tt k3 (tt k2 (tt k1 (ww aI (tt k0 nn)))))))))))) (fun k1=>(lr 84 47 [1,1,1,1,1,1,1,1,0,1,0,0,1,0,0,0,1,0,0] 1 47 [(2,(.str [])),(3,(ii 0)),(4,(.bool false))] (sl Yo 47 [] ⟨[],[],[some [2,3,4]],[]⟩ ⟨[],[],[]⟩ (bl 6 57) (tt k1 (ww aI (tt k0 nn))))))))) (fun k0=>(lb (fun k1=>(lr 84 47 [1,1,1,1,1,1,1,1,1,0,1,0,0] 1 47 [(2,(.str [])),(3,(ii 0)),(4,(.bool false))] (sl Yo 34 [] ⟨[],[],[some [2,3,4]],[]⟩ ⟨[],[],[]⟩ (bl 7 126) (tt k1 (tt k0 nn))))) (fun k1=>(lb (fun k2=>(lo fun cC=>(lb (fun k3=>(lr 84 47 [1,1,1,1,1,1,1,1,1,0,1,0,0] 1 47 [(2,(.str [])),(3,(ii 0)),(4,(.bool false))] (sl Yo 34 [] ⟨[],[],[some [2,3,4]],[]⟩ ⟨[],[],[]⟩ (bl 10 736) (tt k3 (ww cC (tt k2 (tt k1 (tt k0 nn)))))))) (fun k3=>(lo fun o0=>(lo fun o1=>(lr 84 3 [1,1,1,1,1,1,1,1,0] 1 47 [(2,(.str ((x0.drop 0).take (tn v5)))),(3,(ii v7)),(4,(.bool true))] (sl Yo 39 [] ⟨[],[],[some [2,3,4]],[]⟩ ⟨[],[],[]⟩ (bl 10 224) (pp (pp (xw o1) (pp nn (pp (xG (decide ((tn v5)≤x0.length))) (xG (decide (0≤(tn v5))))))) (tt k3 (ww cC (tt k2 (tt k1 (tt k0 nn)))))))))))))) (fun k2=>(lo fun o0=>(lo fun o1=>(lr 84 3 [1,1,1,1,1,1,1,1,0] 1 47 [(2,(.str ((x0.drop 0).take (tn v5)))),(3,(ii v7)),(4,(.bool true))] (sl Yo 39 [] ⟨[],[],[some [2,3,4]],[]⟩ ⟨[],[],[]⟩ (bl 10 0) (pp (pp (xw o1) (pp nn (pp (xG (decide ((tn v5)≤x0.length))) (xG (decide (0≤(tn v5))))))) (tt k2 (tt k1 (tt k0 nn))))))))))))))
theorem x0u (x0:List UInt8):Yh prog (Zz prog 47) (rstC x0) (Zj prog 47 [(.str x0)] true []) (y4t x0):=(sl Yo 13 [] ⟨[],[],rstN0,rstM0⟩ ⟨[],[],[]⟩ [] nn)
theorem w8b (x0:List UInt8) (n:Nat) (vs:List AVal) (h:Zo (Vp x0) n (y4t x0)=.ret vs):Ws prog (Zz prog 47) (Zj prog 47 [(.str x0)] true []) vs:=by have:=Zk (x8l x0) n _ (x0u x0);rwa [h] at this
theorem wu8 (n:Int) (h:0≤n∧n<256):wrap .u8 n=n:=by unfold wrap;simp [IntKind.signed,IntKind.bits];omega
theorem wi32 (n:Int) (h:0≤n∧n<256):wrap .i32 n=n:=by unfold wrap;simp [IntKind.signed,IntKind.bits];omega
theorem v6e {cs cs':List AVal} (h:RLe cs cs') (ρ:Rho) (u:Value) (hv:Za ρ (.tup cs) u):Za ρ (.tup cs') u:=by
 cases hv with
 | tup _ vs hl hh=>exact .tup cs' vs (by rw [←h.len];exact hl) fun i h1 h2=>h.sound i (by rw [h.len];exact h1) h1 (hh i (by rw [h.len];exact h1) h2)
def w6d (d:List UInt8):Bool:=d.all fun c=>digN c.toNat
def x4o (d:List UInt8):Bool:=decide (1≤d.length)&&(decide (d.length≤4)&& !(decide (1<d.length)&&(bAt d 0 == 48)))
def y8x (d:List UInt8):Bool:=x4o d&&w6d d
def Qt (s:List UInt8):List UInt8:=Vw (Xk s [91]) [93]
def Xt (s:List UInt8):Bool:=z3t (Yi s [91])&&(bif Vx s [91] then z2j (Xk s [91]) [93]&&y8x (Qt s) else true)
def numD (n:Nat) (d:List UInt8):Nat:=d.foldl (fun n c=>10*n+(c.toNat - 48)) n
def Kd (s:List UInt8):List UInt8:=bif z3t (Yi s [91])&&Vx s [91] then (bif Xt s then Yi s [91] else []) else Yi s [91]
def Ke (s:List UInt8):Int:=bif z3t (Yi s [91])&&Vx s [91] then (bif Xt s then (numD 0 (Qt s):Int) else 0) else -1
def z5f (s:List UInt8):Bool:=decide (s.length≤1000000)
theorem w4z {s sep:List UInt8}:(Yi s sep).length ≤s.length∧(Xk s sep).length ≤s.length:=by
 unfold Yi Xk;cases decide (0≤z0r s sep) with
 | true=>rw [Ag,Ag,Bq,Bp];omega
 | false=>exact ⟨Ao _,AE _⟩
theorem u2l {s f:List UInt8}:(Vw s f).length ≤s.length:=by
 unfold Vw;cases z2j s f with
 | true=>rw [Ag,Bq];omega
 | false=>exact Ao _
theorem v5d {s:List UInt8} (hs:(Qt s).length ≤4): ∀(k i n:Nat),i+k=(Qt s).length →n<10 ^ i→
  ∃N,Zo (z3e s) N (.to (.h0 (n:Int) i))=.ret (bif w6d ((Qt s).drop i) then [.agg [.str (Yi s [91]),.int .i64 (numD n ((Qt s).drop i):Int)],.bool true] else [.agg [.str [],.int .i64 0],.bool false])
 | 0,i,n,h,hn=>⟨1,by
  rw [Zv,At (by omega)];unfold z3e;simp only [];rw [show decide (i<(Vw (Xk s [91]) [93]).length)=false from An (show ¬i<(Qt s).length by omega)];rfl⟩
 | k +1,i,n,h,hn=>by
  have hi:i<(Qt s).length :=by omega
  have hp:10 ^ i≤10 ^ 4:=Nat.pow_le_pow_right (by decide) (by omega);rw [AK hi];have e:z3e s (.h0 (n:Int) i)=bif digN (Qt s)[i].toNat then .to (.h0 ((10*n+((Qt s)[i].toNat - 48):Nat):Int) (i+1)) else .ret [.agg [.str [],.int .i64 0],.bool false]:=by
   unfold z3e;simp only [];rw [show decide (i<(Vw (Xk s [91]) [93]).length)=true from Ae hi,Ag];show (bif decide (dcR (Qt s) i<48) then _ else bif decide (dcR (Qt s) i>57) then _ else Ya.to (lreS.h0 (wrap .i64 (wrap .i64 (10*(n:Int))+wrap .i64 (wrap .i32 (dcR (Qt s) i - 48)))) (i+dcW (Qt s) i)))=_;unfold digN;by_cases ha:(Qt s)[i].toNat <128
   ·obtain ⟨e1,e2⟩:=x7i hi ha;rw [e1,e2];generalize (Qt s)[i].toNat =c at ha;by_cases h1:48≤c
    ·rw [dlt_f (by omega),Ae h1];by_cases h2:c≤57
     ·rw [dgt_f (by omega),Ae h2,wi32 _ (by omega),wrap_t (n:=10*(n:Int)) (by omega),wrap_t (n:=(c:Int) - 48) (by omega),wrap_t (by omega)];show Ya.to _=Ya.to _
      congr 2
      omega
     ·rw [dgt_t (by omega),An h2];rfl
    ·rw [dlt_t (by omega),An h1];rfl
   ·have hb:=v5r hi ha;rw [dlt_f (by omega),dgt_t (by omega),An (show ¬(Qt s)[i].toNat ≤57 by omega),AS];rfl
  show∃N,Zo _ N _=.ret (bif digN (Qt s)[i].toNat &&w6d ((Qt s).drop (i+1)) then _ else _);cases g:digN (Qt s)[i].toNat with
  | false=>exact ⟨1,by rw [Zv,e,g,Ad,Zp];rfl⟩
  | true=>
   have g':(48≤(Qt s)[i].toNat ∧(Qt s)[i].toNat ≤57):=by unfold digN at g;rwa [Ac,Ak,Ak] at g
   obtain ⟨N,hN⟩:=v5d hs k (i+1) (10*n+((Qt s)[i].toNat - 48)) (by omega) (by rw [Nat.pow_succ];omega);refine ⟨N+1,?_⟩;rw [Zv,e,g,Ag,hN];rfl
theorem v8z (s:List UInt8) (h:z5f s=true): ∃N,Zo (z3e s) N (z9b s)=.ret [.agg [.str (Kd s),.int .i64 (Ke s)],.bool (Xt s)]:=by
 have hs:s.length≤1000000:=As h;obtain ⟨k0,k1⟩:=w4z (s:=s) (sep:=[91]);unfold z9b;rw [Zr (show Vh s [91]=true by unfold Vh;rw [Ae hs];rfl),Zr (show Wu (Yi s [91])=true from Ae (by omega))];have hv: ∀{a b c},Kd s=a→Ke s=b→Xt s=c→[AVal.agg [.str (Kd s),.int .i64 (Ke s)],.bool (Xt s)]=[.agg [.str a,.int .i64 b],.bool c]:=fun h1 h2 h3=>by rw [h1,h2,h3]
 cases hn:z3t (Yi s [91]) with
 | false=>
  have e1:Xt s=false:=by unfold Xt;rw [hn];rfl
  rw [hv (a:=Yi s [91]) (b:= -1) (c:=false) (by unfold Kd;rw [hn];rfl) (by unfold Ke;rw [hn];rfl) e1];exact ⟨0,by cases Vx s [91] <;> rfl⟩
 | true=>
  cases h2:Vx s [91] with
  | false=>
   have e1:Xt s=true:=by unfold Xt;rw [hn,h2];rfl
   rw [hv (a:=Yi s [91]) (b:= -1) (c:=true) (by unfold Kd;rw [hn,h2];rfl) (by unfold Ke;rw [hn,h2];rfl) e1];exact ⟨0,rfl⟩
  | true=>
   have e1:Xt s=(z2j (Xk s [91]) [93]&&y8x (Qt s)):=by unfold Xt;rw [hn,h2];rfl
   have es:Kd s=bif Xt s then Yi s [91] else []:=by unfold Kd;rw [hn,h2];rfl
   have en:Ke s=bif Xt s then (numD 0 (Qt s):Int) else 0:=by unfold Ke;rw [hn,h2];rfl
   have hf:Xt s=false→[AVal.agg [.str (Kd s),.int .i64 (Ke s)],.bool (Xt s)]=[.agg [.str [],.int .i64 0],.bool false]:=fun q=>by rw [es,en,q];rfl
   have hd:(Qt s).length ≤s.length:=AG u2l k1;have hD:Vw (Xk s [91]) [93]=Qt s:=rfl;rw [Au,Ad,Ad,Zr (show Qq (Xk s [91]) [93]=true by unfold Qq;rw [Ae (show (Xk s [91]).length ≤1000000 by omega)];rfl),hD];cases hc:z2j (Xk s [91]) [93] with
   | false=>rw [hf (by rw [e1,hc];rfl)];exact ⟨0,rfl⟩
   | true=>
    rw [hc,Aq] at e1;rw [Au,Ad];by_cases g0:1≤(Qt s).length
    ·rw [beq_f' (by omega),Ad];by_cases g4:(Qt s).length ≤4
     ·rw [dgt_f (by omega),Ad,Zr (din_t (by omega))];obtain ⟨N,hN⟩:=v5d g4 (Qt s).length 0 0 (Al _) (by decide);rw [A0] at hN;have fin:x4o (Qt s)=true→[AVal.agg [.str (Kd s),.int .i64 (Ke s)],.bool (Xt s)]=(bif w6d (Qt s) then [.agg [.str (Yi s [91]),.int .i64 (numD 0 (Qt s):Int)],.bool true] else [.agg [.str [],.int .i64 0],.bool false]):=fun q=>by
       have e2:Xt s=w6d (Qt s):=by rw [e1];unfold y8x;rw [q,Aq]
       rw [es,en,e2];cases w6d (Qt s) <;> rfl
      by_cases g1:1<(Qt s).length
      ·cases g48:bAt (Qt s) 0 == 48 with
       | true=>rw [Ag,dgt_t (by omega),Ag,hf (by rw [e1];unfold y8x x4o;rw [Ae g1,g48,Bool.and_self,Au,AS,AS,AX])];exact ⟨0,rfl⟩
       | false=>rw [Ad,fin (by unfold x4o;rw [Ae g0,Ae g4,g48,AS];rfl)];exact ⟨N,hN⟩
      ·rw [dgt_f (by omega),Ad,fin (by unfold x4o;rw [Ae g0,Ae g4,An g1];rfl)];refine ⟨N,?_⟩;rw [show∀(b:Bool) (x:Ya lreS),(bif b then x else x)=x from fun b x=>by cases b <;> rfl];exact hN
     ·rw [dgt_t (by omega),Ag,hf (by rw [e1];unfold y8x x4o;rw [An g4];cases decide (1≤(Qt s).length) <;> rfl)];exact ⟨0,rfl⟩
    ·rw [beq_t' (by omega),Ag,hf (by rw [e1];unfold y8x x4o;rw [An g0];rfl)];exact ⟨0,rfl⟩
def fLre :List AVal→Option (AVal×Bool)
 | [.str s]=>some (.tup [.agg [.str (Kd s),.int .i64 (Ke s)],.bool (Xt s)],z5f s)
 | _=>none
theorem u1i {S:Specs} (hS:Zw prog S):Zw prog (S.with lreN fLre):=fOne hS (by kernel_rfl) fun args v h=>by
 unfold fLre at h;split at h
 ·rename_i s;simp only [Ab,Aa] at h;obtain ⟨rfl,ho⟩:=h;obtain ⟨N,hN⟩:=v8z s ho;exact ⟨_,_,.cons (.refl _) .nil,rfl,v0i s N _ hN,5,rfl⟩
 ·cases h
def ixL (b:UInt8):List UInt8→Nat
 | []=>0
 | c::r=>bif c == b then 0 else ixL b r+1
theorem w5d (b:UInt8): ∀s,ixL b s≤s.length
 | []=>Ao _
 | c::r=>by
  have:=w5d b r;unfold ixL;rw [AQ];cases c == b with
  | true=>exact AE _
  | false=>rw [Ad];omega
theorem v5h (b:UInt8): ∀s,(h:ixL b s<s.length)→s[ixL b s]=b
 | [],h=>by cases h
 | c::r,h=>by
  cases g:c == b with
  | true=>
   have e:ixL b (c::r)=0:=by unfold ixL;rw [g];rfl
   simp only [e,List.getElem_cons_zero];exact A7.1 g
  | false=>
   have e:ixL b (c::r)=ixL b r+1:=by rw [ixL,g];rfl
   rw [e,AQ] at h;simp only [e,List.getElem_cons_succ];exact v5h b r (by omega)
theorem x3j (b:UInt8): ∀s,Lib.indexByte s b=bif decide (ixL b s<s.length) then (ixL b s:Int) else -1
 | []=>rfl
 | c::r=>by
  unfold Lib.indexByte ixL;rw [x3j b r,AQ];cases g:c == b with
  | true=>rw [Ag,Ae (Nat.succ_pos _)];rfl
  | false=>
   rw [Ad];by_cases h:ixL b r<r.length
   ·rw [Ae h,Ae (Nat.succ_lt_succ h),Ag,Ag,Ax (by simp),Ax (by simp)];rfl
   ·rw [An h,An (show ¬ixL b r+1<r.length+1 by omega)];rfl
def rstQ (s:List UInt8):Bool:=z3t (s.take (ixL 91 s))&&(decide (ixL 91 s=s.length)||(bAt s (s.length - 1) == 93&&y8x ((s.drop (ixL 91 s+1)).take (s.length - 1 - (ixL 91 s+1)))))
theorem v6x (s:List UInt8):rstQ s=Xt s:=by
 have hix:z0r s [91]=bif decide (ixL 91 s<s.length) then (ixL 91 s:Int) else -1:=x3j 91 s;have hle:=w5d 91 s;unfold rstQ Xt;by_cases h:ixL 91 s<s.length
 ·rw [Ae h,Ag] at hix;have e2:Vx s [91]=true:=by unfold Vx;rw [hix];exact Ae (by omega)
  have e0:Yi s [91]=s.take (ixL 91 s):=by unfold Yi;rw [hix,Ae (show (0:Int)≤(ixL 91 s:Int) by omega),toNat_c];rfl
  have e1:Xk s [91]=s.drop (ixL 91 s+1):=by unfold Xk;rw [hix,Ae (show (0:Int)≤(ixL 91 s:Int) by omega),toNat_c];rfl
  rw [An (show ¬ixL 91 s=s.length by omega),Ba,e0,e2,Ag]
  congr 1
  unfold Qt Vw z2j;rw [e1];have hl:(s.drop (ixL 91 s+1)).length =s.length - (ixL 91 s+1):=Bp;rw [y1l (show s.length - 1<s.length by omega)];by_cases g:ixL 91 s+1<s.length
  ·rw [Ae (show [(93:UInt8)].length ≤(s.drop (ixL 91 s+1)).length by rw [hl];show 1≤_;omega),Aq];have ed:(s.drop (ixL 91 s+1)).drop ((s.drop (ixL 91 s+1)).length - [(93:UInt8)].length)=[s[s.length - 1]'(by omega)]:=by rw [List.drop_drop,hl];show s.drop (ixL 91 s+1+(s.length - (ixL 91 s+1) - 1))=_;rw [show ixL 91 s+1+(s.length - (ixL 91 s+1) - 1)=s.length - 1 by omega,AK (show s.length - 1<s.length by omega),At (by omega)]
   rw [ed];have eb:([s[s.length - 1]'(by omega)] == [(93:UInt8)])=((((s[s.length - 1]'(by omega)).toNat :Nat):Int) == 93):=by
    rw [AR,A7,A7];constructor
    ·intro q;rw [Bc] at q;rw [q.1];rfl
    ·intro q;have:(s[s.length - 1]'(by omega))=93:=by apply UInt8.toNat_inj.1;show _=93;omega
     rw [this]
   rw [eb];cases ((((s[s.length - 1]'(by omega)).toNat :Nat):Int) == 93) with
   | false=>rfl
   | true=>
    rw [Aq,Aq,Ag,hl]
    congr 2
    show _=s.length - (ixL 91 s+1) - 1;omega
  ·have e:s.length - 1=ixL 91 s:=by omega
   have hq:(s[s.length - 1]'(by omega))=91:=by simp only [e];exact v5h 91 s h
   rw [hq,An (show ¬ [(93:UInt8)].length ≤(s.drop (ixL 91 s+1)).length by rw [hl];show ¬1≤_;omega)];rfl
 ·have hn:ixL 91 s=s.length:=by omega
  rw [An h,Ad] at hix;have e2:Vx s [91]=false:=by unfold Vx;rw [hix];rfl
  have e0:Yi s [91]=s:=by unfold Yi;rw [hix];rfl
  rw [e2,e0,hn,Ae rfl,List.take_length];rfl
theorem v3i {s d:List UInt8} {p:Nat} (hp:p≤s.length) (hd:d.length≤1000000): ∀(k i n:Nat),i+k=d.length→i≤4→n<10 ^ i→
  ∃N a b,Zo (Vp s) N (.to (.h1 (p:Int) d (n:Int) (i:Int)))=.ret [.str a,.int .i64 b,.bool (x4o d&&w6d (d.drop i))]
 | 0,i,n,h,h4,hn=>by
  have hs: ∀a b,∃N a' b',Zo (Vp s) N (.ret [.str a,.int .i64 b,.bool (x4o d&&w6d (d.drop i))])=.ret [.str a',.int .i64 b',.bool (x4o d&&w6d (d.drop i))]:=fun a b=>⟨0,a,b,rfl⟩
  rw [At (by omega)] at hs ⊢;have key: ∃a b,Vp s (.h1 (p:Int) d (n:Int) (i:Int))=.ret [.str a,.int .i64 b,.bool (x4o d&&w6d [])]:=by
   unfold Vp x4o;simp only [toNat_c];rw [dlt_f (by omega),Ad,Ae (show d.length≤4 by omega),Aq,Zr (Ae (show (p:Nat)≤s.length from hp)),Zr (Ae (show (0:Int)≤(p:Int) by omega))];by_cases g0:1≤d.length
   ·rw [beq_f' (by omega),Ad,Ae g0,Aq];by_cases g1:1<d.length
    ·rw [dgt_t (by omega),Ag,Zr (din_t (by omega)),Ae g1,Aq];cases bAt d 0 == 48 with
     | true=>exact ⟨_,_,rfl⟩
     | false=>exact ⟨_,_,rfl⟩
    ·rw [dgt_f (by omega),Ad,An g1];exact ⟨_,_,rfl⟩
   ·rw [beq_t' (by omega),Ag,An g0];exact ⟨_,_,rfl⟩
  obtain ⟨a,b,e⟩:=key;exact ⟨1,a,b,by rw [Zv,e];rfl⟩
 | k +1,i,n,h,h4,hn=>by
  have hi:i<d.length:=by omega
  have hc:=w2j d[i];have hpw:10 ^ i≤10 ^ 4:=Nat.pow_le_pow_right (by decide) (by omega);have w2:wrap .i64 ((i:Int)+1)=((i+1:Nat):Int):=wrap_t (by omega);rw [AK hi];have e:Vp s (.h1 (p:Int) d (n:Int) (i:Int))=bif digN d[i].toNat &&decide (i≤3) then .to (.h1 (p:Int) d ((10*n+(d[i].toNat - 48):Nat):Int) ((i+1:Nat):Int)) else .ret [.str [],.int .i64 0,.bool false]:=by
   unfold Vp digN;simp only [toNat_c,w2,y1l hi];rw [dlt_t (by omega),Ag,Zr (din_t (by omega))];generalize d[i].toNat =c at hc;by_cases h1:48≤c
   ·rw [dge_t (by omega),Ae h1,Ag];by_cases h2:c≤57
    ·rw [dle_t (by omega),Ae h2,Au,Ad];by_cases h3:i≤3
     ·rw [dgt_f (by omega),Ae h3,Ad,wu8 _ (by omega),wrap_t (n:=10*(n:Int)) (by omega),wrap_t (n:=(c:Int) - 48) (by omega),wrap_t (by omega)];show Ya.to _=Ya.to _
      congr 2
      omega
     ·rw [dgt_t (by omega),An h3];rfl
    ·rw [dle_f (by omega),An h2];rfl
   ·rw [dge_f (by omega),An h1];rfl
  show∃N a b,Zo _ N _=.ret [_,_,.bool (x4o d&&(digN d[i].toNat &&w6d (d.drop (i+1))))];cases g:digN d[i].toNat with
  | false=>exact ⟨1,[],0,by rw [Zv,e,g,AX,Ad,Zp,AX,AS]⟩
  | true=>
   by_cases h3:i≤3
   ·have g':(48≤d[i].toNat ∧d[i].toNat ≤57):=by unfold digN at g;rwa [Ac,Ak,Ak] at g
    obtain ⟨N,a,b,hN⟩:=v3i hp hd k (i+1) (10*n+(d[i].toNat - 48)) (by omega) (by omega) (by rw [Nat.pow_succ];omega);exact ⟨N+1,a,b,by rw [Zv,e,g,Ae h3,Bool.and_self,Ag,hN,Aq]⟩
   ·have e4:x4o d=false:=by unfold x4o;rw [An (show ¬d.length≤4 by omega),AX,AS]
    exact ⟨1,[],0,by rw [Zv,e,g,An h3,AS,Ad,Zp,e4,AX]⟩
theorem x5t {s:List UInt8} {p:Nat} (hp:p≤s.length) (hs:s.length≤1000000) {E:Ya rstS}
  (hE:E=(bif decide (p≤s.length) then (bif decide (0≤(p:Int)) then (bif Wu ((s.drop 0).take p) then (bif !(z3t ((s.drop 0).take p)) then (.ret [.str [],.int .i64 0,.bool false]) else (bif ((p:Int) == (s.length:Int)) then (.ret [.str s,.int .i64 (-1),.bool true]) else (bif decide (0≤wrap .i64 ((s.length:Int) - 1)∧wrap .i64 ((s.length:Int) - 1)<(s.length:Int)) then (bif (bAt s (Int.toNat (wrap .i64 ((s.length:Int) - 1)))) != 93 then (.ret [.str [],.int .i64 0,.bool false]) else (bif decide (Int.toNat (wrap .i64 ((p:Int)+1))≤Int.toNat (wrap .i64 ((s.length:Int) - 1))) then (bif decide (Int.toNat (wrap .i64 ((s.length:Int) - 1))≤s.length) then (bif decide (0≤wrap .i64 ((p:Int)+1)) then (bif decide (0≤wrap .i64 ((s.length:Int) - 1)) then (.to (.h1 (p:Int) ((s.drop (Int.toNat (wrap .i64 ((p:Int)+1)))).take (Int.toNat (wrap .i64 ((s.length:Int) - 1)) - Int.toNat (wrap .i64 ((p:Int)+1)))) 0 0)) else .stuck) else .stuck) else .stuck) else .stuck)) else .stuck))) else .stuck) else .stuck) else .stuck))
  (hq:p<s.length→s[p]? =some 91):
  ∃N a b,Zo (Vp s) N E=.ret [.str a,.int .i64 b,.bool (z3t (s.take p)&&(decide (p=s.length)||(bAt s (s.length - 1) == 93&&y8x ((s.drop (p+1)).take (s.length - 1 - (p+1))))))]:=by
 subst hE;have hpl:(s.take p).length ≤1000000:=by rw [Bq];omega
 rw [Zr (Ae hp),Zr (Ae (show (0:Int)≤(p:Int) by omega)),A0,Zr (show Wu (s.take p)=true from Ae hpl)];cases hn:z3t (s.take p) with
 | false=>exact ⟨0,[],0,rfl⟩
 | true=>
  rw [Au,Ad,Aq];by_cases g:p=s.length
  ·rw [beq_t' (by omega),Ag,Ae g];exact ⟨0,_,_,rfl⟩
  ·have wl:wrap .i64 ((s.length:Int) - 1)=((s.length - 1:Nat):Int):=by rw [wrap_t (by omega)];omega
   have wp:wrap .i64 ((p:Int)+1)=((p+1:Nat):Int):=wrap_t (by omega);rw [beq_f' (by omega),Ad,An g,Ba,wl,wp,toNat_c,toNat_c,Zr (din_t (by omega))];cases hb:bAt s (s.length - 1) == 93 with
   | false=>rw [show (bAt s (s.length - 1) != 93)=true by unfold bne;rw [hb];rfl,Ag,AX];exact ⟨0,[],0,rfl⟩
   | true=>
    have hne:p+1≤s.length - 1:=by
     rcases AV (p+1) s.length with h | h
     ·omega
     ·exfalso;have hp1:p=s.length - 1:=(by omega);have h1:=hq (by omega);rw [hp1,Ar (by omega)] at h1;have h2:=Af h1;rw [y1l (show s.length - 1<s.length by omega),h2] at hb;revert hb;decide
    rw [show (bAt s (s.length - 1) != 93)=false by unfold bne;rw [hb];rfl,Ad,Aq,Zr (Ae hne),Zr (Ae (show s.length - 1≤s.length by omega)),Zr (Ae (show (0:Int)≤((p+1:Nat):Int) by omega)),Zr (Ae (show (0:Int)≤((s.length - 1:Nat):Int) by omega))];obtain ⟨N,a,b,hN⟩:=v3i (s:=s) (d:=(s.drop (p+1)).take (s.length - 1 - (p+1))) hp (by rw [Bq,Bp];omega) ((s.drop (p+1)).take (s.length - 1 - (p+1))).length 0 0 (Al _) (by omega) (by decide);exact ⟨N,a,b,hN⟩
theorem v3j {s:List UInt8} (hs:s.length≤1000000): ∀(k i:Nat),i+k=s.length→i+ixL 91 (s.drop i)=ixL 91 s→
  ∃N a b,Zo (Vp s) N (.to (.h0 (i:Int)))=.ret [.str a,.int .i64 b,.bool (rstQ s)]
 | 0,i,h,hx=>by have hd:s.drop i=[]:=At (by omega);rw [hd] at hx;have hx:i=ixL 91 s:=hx;obtain ⟨N,a,b,hN⟩:=x5t (s:=s) (p:=i) (by omega) hs rfl (fun hh=>absurd hh (by omega));refine ⟨N+1,a,b,?_⟩;rw [Zv];unfold Vp;simp only [toNat_c];rw [dlt_f (by omega),Ad];unfold rstQ;rw [←hx];exact hN
 | k+1,i,h,hx=>by
  have hi:i<s.length:=by omega
  have hc:=w2j s[i];have w2:wrap .i64 ((i:Int)+1)=((i+1:Nat):Int):=wrap_t (by omega);rw [AK hi,ixL] at hx;have hbb:((((s[i].toNat :Nat):Int)) != 91)= !(s[i] == 91):=by
   rw [show ((((s[i].toNat :Nat):Int)) != 91)= !((((s[i].toNat :Nat):Int)) == 91) from rfl]
   congr 1
   rw [AR,A7,A7];constructor
   ·intro h;apply UInt8.toNat_inj.1;show s[i].toNat =91;omega
   ·intro h;rw [h];rfl
  cases g:s[i] == 91 with
  | false=>
   rw [g,Ad] at hx;obtain ⟨N,a,b,hN⟩:=v3j hs k (i+1) (by omega) (by omega);refine ⟨N+1,a,b,?_⟩;have e:Vp s (.h0 (i:Int))=.to (.h0 ((i+1:Nat):Int)):=by unfold Vp;simp only [toNat_c,y1l hi,w2];rw [dlt_t (by omega),Ag,Zr (din_t (by omega)),hbb,g];rfl
   rw [Zv,e,hN]
  | true=>rw [g,Ag] at hx;have hx:i=ixL 91 s:=hx;obtain ⟨N,a,b,hN⟩:=x5t (s:=s) (p:=i) (by omega) hs rfl (fun _=>by rw [Ar hi,A7.1 g]);refine ⟨N+1,a,b,?_⟩;rw [Zv];unfold Vp;simp only [toNat_c];rw [dlt_t (by omega),Ag,Zr (din_t (by omega)),y1l hi,hbb,g,Au,Ad];unfold rstQ;rw [←hx];exact hN
def z3y (s:List UInt8):Bool:=decide (s.length≤1000000)
def y2y (s:List UInt8):Bool:=Xt s
theorem v6w (s:List UInt8) (h:z3y s=true): ∃N a b,Zo (Vp s) N (y4t s)=.ret [.str a,.int .i64 b,.bool (y2y s)]:=by unfold y2y;rw [←v6x];exact v3j (As h) s.length 0 (Al _) (Al _)
def fRst :List AVal→Option (AVal×Bool)
 | [.str s]=>some (.tup [.undef,.undef,.bool (y2y s)],z3y s)
 | _=>none
theorem u0m {S:Specs} (hS:Zw prog S):Zw prog (S.with rstN fRst):=fTwoS hS (by kernel_rfl) fun args v h=>by
 unfold fRst at h;split at h
 ·rename_i s;simp only [Ab,Aa] at h;obtain ⟨rfl,ho⟩:=h;obtain ⟨N,a,b,hN⟩:=v6w s ho;exact ⟨_,[.str a,.int .i64 b,.bool (y2y s)],.cons (.refl _) .nil,fun ρ u hu=>v6e (cs:=[.str a,.int .i64 b,.bool (y2y s)]) (.cons (.undef _) (.cons (.undef _) (RLe.refl _))) ρ u hu,w8b s N _ hN,3,rfl⟩
 ·cases h
def SzS2 :Specs:=(SzS1.with lreN fLre).with rstN fRst
theorem Ug :Zw prog SzS2:=u0m (u1i Yo)
inductive lchS where
 | h0 (v3:List UInt8) (v4:Bool)
def lchC (x0:List UInt8):lchS→Cfg
 | .h0 v3 v4=>⟨⟨20,0,true⟩,none,(Zm prog 75 [1,0,0] 0),none,[],⟨Yx [(0,(.yld 0)),(3,(.str v3)),(4,(.bool v4))],x6n [(1,⟨[(ii 0)],24,none⟩)],2,[],true⟩,[⟨⟨24,0,true⟩,none,(.inRangeFunc 0::(Zm prog 25 [1,1,0,1,0] 1)),none,(Zz prog 25),Yx [(2,(.ptr 1 0))]⟩],(x6o [(0,⟨.ready,none,24,Yx [(2,(.ptr 1 0))],[16],(Uj prog 25 [1,1,0,1,0,0]),(Uj prog 25 [1,1,0,1,0,1])⟩)])⟩
def lchN0 :List (Option (List Nat)):=[some [0,3,4],some [2]]
def lchM0 :List (Option (List Nat)):=[some [2],none]
def z3f (x0:List UInt8):lchS→Ya lchS
 | .h0 v3 v4=>(bif v4 then (bif (Vh v3 ([47]:List UInt8)) then (bif (z5f (Yi v3 ([47]:List UInt8))) then (bif (!(Xt (Yi v3 ([47]:List UInt8)))) then (.ret [(.int .i64 12)]) else (.to (.h0 (Xk v3 ([47]:List UInt8)) (Vx v3 ([47]:List UInt8))))) else .stuck) else .stuck) else (.ret [(.int .i64 0)]))
def z9d (x0:List UInt8):Ya lchS:=(bif (decide ((x0.length:Int)>4000)) then (.ret [(.int .i64 4)]) else (bif (y1g x0 ([47]:List UInt8)) then (bif (decide ((cntV x0 ([47]:List UInt8))>39)) then (.ret [(.int .i64 4)]) else (.to (.h0 x0 (!(x0 == ([]:List UInt8)))))) else .stuck))
theorem w0e (x0:List UInt8): ∀s,Yh prog (Zz prog 25) (lchC x0) (lchC x0 s) (z3f x0 s)
 | .h0 v3 v4=>(lb (fun k0=>(lo fun aI=>(lo fun aQ=>(lb (fun k1=>(Zf ⟨⟨24,0,true⟩,none,(.code .ret ::(Zm prog 25 [1,1,0,1,0] 1)),none,(Zz prog 25),⟨Yx [(2,(.ptr 0 0))],Xj [⟨[(ii 12)],24,none⟩] 0,1,[],true⟩,[],.leaf⟩ (sl Ug 61 [] ⟨[1],[],[some [2]],[]⟩ ⟨[],[],[]⟩ (trs 3 []) (tt k1 (ww aQ (ww aI (tt k0 nn))))) rfl (by kernel_rfl))) (fun k1=>(sl Ug 60 [] ⟨[0,1],[],lchN0,lchM0⟩ ⟨[],[],[]⟩ (bl 3 1) (tt k1 (ww aQ (ww aI (tt k0 nn)))))))))) (fun k0=>(Zf ⟨⟨24,0,true⟩,none,(Zm prog 3 [1,1,1,1,1,1,1,1,0] 1),none,(Zz prog 25),⟨Yx [(2,(.ptr 0 0))],Xj [⟨[(ii 0)],24,none⟩] 0,1,[],true⟩,[],.leaf⟩ (sl Ug 14 [] ⟨[1],[],[some [2]],[]⟩ ⟨[],[],[]⟩ [false] (tt k0 nn)) rfl (by kernel_rfl))))
theorem x3a (x0:List UInt8):Yh prog (Zz prog 25) (lchC x0) (Zj prog 25 [(.str x0)] true []) (z9d x0):=(lb (fun k0=>(Zf ⟨⟨24,0,true⟩,none,(Zm prog 25 [1,0,1,0,0] 1),none,(Zz prog 25),⟨Yx [(2,(.ptr 0 0))],Xj [⟨[(ii 4)],24,none⟩] 0,1,[],true⟩,[],.leaf⟩ (sl Ug 21 [] ⟨[0],[],[some [2]],[]⟩ ⟨[],[],[]⟩ (trs 4 []) (tt k0 nn)) rfl (by kernel_rfl))) (fun k0=>(lo fun aI=>(lb (fun k1=>(Zf ⟨⟨24,0,true⟩,none,(Zm prog 25 [1,0,1,0,0] 1),none,(Zz prog 25),⟨Yx [(2,(.ptr 0 0))],Xj [⟨[(ii 4)],24,none⟩] 0,1,[],true⟩,[],.leaf⟩ (sl Ug 21 [] ⟨[0],[],[some [2]],[]⟩ ⟨[],[],[]⟩ [false,false,false,true] (tt k1 (ww aI (tt k0 nn)))) rfl (by kernel_rfl))) (fun k1=>(sl Ug 41 [] ⟨[2,0],[],lchN0,lchM0⟩ ⟨[],[],[]⟩ [false,false,false,false] (tt k1 (ww aI (tt k0 nn)))))))))
theorem v0m (x0:List UInt8) (n:Nat) (vs:List AVal) (h:Zo (z3f x0) n (z9d x0)=.ret vs):Ws prog (Zz prog 25) (Zj prog 25 [(.str x0)] true []) vs:=by have:=Zk (w0e x0) n _ (x3a x0);rwa [h] at this
inductive rlcS where
 | h0 (v4:Int)
def rlcC (x0:List UInt8):rlcS→Cfg
 | .h0 v4=>⟨⟨33,0,true⟩,none,(Zm prog 26 [1,1,1,1,0,1,0,0] 0),none,(Zz prog 5),⟨Yx [(3,(.dat (z7i x0).length (Zy (z7i x0)))),(4,(ii v4))],Xj [] 0,0,[],true⟩,[],.leaf⟩
def rlcN0 :List (Option (List Nat)):=[some [3,4]]
def rlcM0 :List (Option (List Nat)):=[]
def z2x (x0:List UInt8):rlcS→Ya rlcS
 | .h0 v4=>(bif (decide (v4<(((z7i x0).length :Nat):Int))) then (bif ((decide (0≤v4∧v4<(((z7i x0).length :Nat):Int)))&&true) then (bif (z3y (rd (z7i x0) v4.toNat)) then (bif (!(y2y (rd (z7i x0) v4.toNat))) then (.ret [(.int .i64 12)]) else (.to (.h0 (wrap .i64 (v4+1))))) else .stuck) else .stuck) else (.ret [(.int .i64 0)]))
def z8s (x0:List UInt8):Ya rlcS:=(bif (decide ((x0.length:Int)>4000)) then (.ret [(.int .i64 4)]) else (bif (z4r x0) then (bif (decide ((((z7i x0).length :Nat):Int)>40)) then (.ret [(.int .i64 4)]) else (.to (.h0 0))) else .stuck))
theorem x8z (x0:List UInt8): ∀s,Yh prog (Zz prog 26) (rlcC x0) (rlcC x0 s) (z2x x0 s)
 | .h0 v4=>(lb (fun k0=>(lo fun aI=>(lo fun aQ=>(lb (fun k1=>(lr 33 26 [1,1,1,1,0,1,0,0,1,0,0,1,1,0,0] 1 5 [(2,(ii 12))] (sl Ug 37 [] ⟨[],[],[some [2]],[]⟩ ⟨[],[],[]⟩ (bl 2 3) (tt k1 (ww aQ (ww aI (tt k0 nn))))))) (fun k1=>(sl Ug 41 [] ⟨[],[],rlcN0,rlcM0⟩ ⟨[],[],[]⟩ (bl 2 1) (tt k1 (ww aQ (ww aI (tt k0 nn)))))))))) (fun k0=>(lr 33 3 [1,1,1,1,1,1,1,1,0] 1 5 [(2,(ii 0))] (sl Ug 14 [] ⟨[],[],[some [2]],[]⟩ ⟨[],[],[]⟩ [false] (tt k0 nn)))))
theorem x1l (x0:List UInt8):Yh prog (Zz prog 26) (rlcC x0) (Zj prog 26 [(.str x0)] true []) (z8s x0):=(lb (fun k0=>(lr 33 26 [1,0,1,0,0] 1 5 [(2,(ii 4))] (sl Ug 16 [] ⟨[],[],[some [2]],[]⟩ ⟨[],[],[]⟩ [true] (tt k0 nn)))) (fun k0=>(lo fun aI=>(lb (fun k1=>(lr 33 26 [1,1,1,0,1,0,0] 1 5 [(2,(ii 4))] (sl Ug 31 [] ⟨[],[],[some [2]],[]⟩ ⟨[],[],[]⟩ [false,true] (tt k1 (ww aI (tt k0 nn)))))) (fun k1=>(sl Ug 35 [] ⟨[],[],rlcN0,rlcM0⟩ ⟨[],[],[]⟩ [false,false] (tt k1 (ww aI (tt k0 nn)))))))))
theorem w8q (x0:List UInt8) (n:Nat) (vs:List AVal) (h:Zo (z2x x0) n (z8s x0)=.ret vs):Ws prog (Zz prog 26) (Zj prog 26 [(.str x0)] true []) vs:=by have:=Zk (x8z x0) n _ (x1l x0);rwa [h] at this
theorem v5f (b:UInt8) (s:List UInt8):Yi s [b]=s.take (ixL b s)∧Xk s [b]=(bif decide (ixL b s<s.length) then s.drop (ixL b s+1) else [])∧Vx s [b]=decide (ixL b s<s.length):=by
 have hix:z0r s [b]=bif decide (ixL b s<s.length) then (ixL b s:Int) else -1:=x3j b s;have hle:=w5d b s;unfold Yi Xk Vx;rw [hix];by_cases h:ixL b s<s.length
 ·rw [Ae h,Ag,Ae (show (0:Int)≤(ixL b s:Int) by omega),toNat_c];exact ⟨rfl,rfl,rfl⟩
 ·rw [An h,Ad];refine ⟨?_,rfl,rfl⟩;rw [show ixL b s=s.length by omega,List.take_length];rfl
theorem w6i (b:UInt8): ∀s,z2i b [] s=s.take (ixL b s)::(bif decide (ixL b s<s.length) then z2i b [] (s.drop (ixL b s+1)) else [])
 | []=>rfl
 | c::r=>by
  cases g:c == b with
  | true=>
   have e:ixL b (c::r)=0:=by unfold ixL;rw [g];rfl
   rw [e,z2i,g,Ag,AQ,Ae (Nat.succ_pos _)];rfl
  | false=>
   have e:ixL b (c::r)=ixL b r+1:=by rw [ixL,g];rfl
   rw [e,z2i,g,Ad,z6u,w6i b r,AQ,show decide (ixL b r+1<r.length+1)=decide (ixL b r<r.length) by rw [AR,Ak,Ak];omega];rfl
theorem v1w (b:UInt8) (s:List UInt8):z2i b [] s=Yi s [b]::(bif Vx s [b] then z2i b [] (Xk s [b]) else []):=by obtain ⟨e0,e1,e2⟩:=v5f b s;rw [w6i,e0,e1,e2];cases decide (ixL b s<s.length) <;> rfl
theorem z1y (b:UInt8): ∀s cur,(z2i b cur s).length =Lib.countByte s b+1
 | [],cur=>rfl
 | c::r,cur=>by
  unfold z2i Lib.countByte;rw [List.count_cons];cases g:c == b with
  | true=>rw [Ag,AQ,z1y b r];rfl
  | false=>rw [Ad,z1y b r];rfl
def y1z (p:List UInt8):Int:=bif decide (4000<p.length) then 4 else bif decide (40<(z7i p).length) then 4 else bif (z7i p).all Xt then 0 else 12
def Wo (p:List UInt8):Bool:=decide (p.length≤1000000)
theorem v0n {s:List UInt8} {b:UInt8} (h:Vx s [b]=true):(Xk s [b]).length <s.length:=by obtain ⟨e0,e1,e2⟩:=v5f b s;rw [e2] at h;rw [e1,h,Ag,Bp];have:=As h;omega
theorem v5e {x:List UInt8}: ∀(n:Nat) (s:List UInt8),s.length≤n→s.length≤1000000→ ∃N,Zo (z3f x) N (.to (.h0 s true))=.ret [.int .i64 (bif (z2i 47 [] s).all Xt then 0 else 12)]
 | n,s,hn,hs=>by
  obtain ⟨k0,k1⟩:=w4z (s:=s) (sep:=[47]);have e:z3f x (.h0 s true)=bif !(Xt (Yi s [47])) then .ret [.int .i64 12] else .to (.h0 (Xk s [47]) (Vx s [47])):=by unfold z3f;simp only [];rw [Ag,Zr (show Vh s [47]=true by unfold Vh;rw [Ae hs];rfl),Zr (show z5f (Yi s [47])=true from Ae (by omega))]
  rw [v1w,List.all_cons];cases g:Xt (Yi s [47]) with
  | false=>exact ⟨1,by rw [Zv,e,g];rfl⟩
  | true=>
   cases g2:Vx s [47] with
   | false=>have e2: ∀s',z3f x (.h0 s' false)=.ret [.int .i64 0]:=fun s'=>rfl;exact ⟨2,by rw [Zv,e,g,g2,Au,Ad,Zv,e2];rfl⟩
   | true=>
    have hl:=v0n g2
    match n with
    | 0=>omega
    | n+1=>obtain ⟨N,hN⟩:=v5e (x:=x) n (Xk s [47]) (by omega) (by omega);exact ⟨N+1,by rw [Zv,e,g,g2,Au,Ad,hN,Ag,Aq]⟩
theorem v9g (s:List UInt8) (h:Wo s=true): ∃N,Zo (z3f s) N (z9d s)=.ret [.int .i64 (y1z s)]:=by
 have hs:s.length≤1000000:=As h;unfold z9d y1z;by_cases g:4000<s.length
 ·rw [dgt_t (by omega),Ae g];exact ⟨0,rfl⟩
 ·rw [dgt_f (by omega),An g,Ad,Ad,Zr (show y1g s [47]=true from rfl)];have hc:cntV s [47]=((Lib.countByte s 47:Nat):Int):=rfl;have hk:=z1y 47 s [];unfold z7i;cases s with
  | nil=>refine ⟨1,?_⟩;rfl
  | cons c r=>
   rw [show ((c::r) == ([]:List UInt8))=false from rfl,Ad,Ay];by_cases g2:40<(z2i 47 [] (c::r)).length
   ·rw [Ae g2,dgt_t (by omega)];exact ⟨0,rfl⟩
   ·rw [An g2,dgt_f (by omega),Ad,Ad];exact v5e (c::r).length (c::r) (Ao _) hs
theorem v3v {x:List UInt8} (hs:x.length≤1000000): ∀(k i:Nat),i+k=(z7i x).length → ∃N,Zo (z2x x) N (.to (.h0 (i:Int)))=.ret [.int .i64 (bif ((z7i x).drop i).all Xt then 0 else 12)]
 | 0,i,h=>⟨1,by
  rw [Zv,At (by omega)];unfold z2x;simp only [];rw [dlt_f (by omega)];rfl⟩
 | k+1,i,h=>by
  have hi:i<(z7i x).length :=by omega
  have hle:(z7i x).length ≤1000001:=by
   unfold z7i;cases x == [] with
   | true=>exact AE _
   | false=>rw [Ad,z1y];have:Lib.countByte x 47≤x.length:=List.count_le_length;omega
  have hp:(rd (z7i x) i).length ≤1000000:=by
   rw [Xf hi];have hm:=AU hi;revert hm;generalize (z7i x)[i]=p;unfold z7i;cases x == [] with
   | true=>intro hm;cases hm
   | false=>intro hm;have:=z6t 47 x [] p hm;simp at this;omega
  have w2:wrap .i64 ((i:Int)+1)=((i+1:Nat):Int):=wrap_t (by omega);obtain ⟨N,hN⟩:=v3v hs k (i+1) (by omega);have e:z2x x (.h0 (i:Int))=bif !(Xt (rd (z7i x) i)) then .ret [.int .i64 12] else .to (.h0 ((i+1:Nat):Int)):=by unfold z2x;simp only [toNat_c,w2];rw [dlt_t (by omega),Ag,Ap,Zr (din_t (by omega)),Zr (show z3y (rd (z7i x) i)=true from Ae hp)];rfl
  rw [drop_rd hi,List.all_cons];cases g:Xt (rd (z7i x) i) with
  | false=>exact ⟨1,by rw [Zv,e,g];rfl⟩
  | true=>exact ⟨N+1,by rw [Zv,e,g,Au,Ad,hN,Aq]⟩
theorem v7m (s:List UInt8) (h:Wo s=true): ∃N,Zo (z2x s) N (z8s s)=.ret [.int .i64 (y1z s)]:=by
 have hs:s.length≤1000000:=As h;unfold z8s y1z;by_cases g:4000<s.length
 ·rw [dgt_t (by omega),Ae g];exact ⟨0,rfl⟩
 ·rw [dgt_f (by omega),An g,Ad,Ad,Zr (show z4r s=true from h)];by_cases g2:40<(z7i s).length
  ·rw [Ae g2,dgt_t (by omega)];exact ⟨0,rfl⟩
  ·rw [An g2,dgt_f (by omega),Ad,Ad];exact v3v hs (z7i s).length 0 (Al _)
def fLch :List AVal→Option (AVal×Bool)
 | [.str s]=>some (.int .i64 (y1z s),Wo s)
 | _=>none
theorem u1j {S:Specs} (hS:Zw prog S):Zw prog (S.with lchN fLch):=fOne hS (by kernel_rfl) fun args v h=>by
 unfold fLch at h;split at h
 ·rename_i s;simp only [Ab,Aa] at h;obtain ⟨rfl,ho⟩:=h;obtain ⟨N,hN⟩:=v9g s ho;exact ⟨_,_,.cons (.refl _) .nil,rfl,v0m s N _ hN,3,rfl⟩
 ·cases h
theorem u0u {S:Specs} (hS:Zw prog S):Zw prog (S.with rlcN fLch):=fOne hS (by kernel_rfl) fun args v h=>by
 unfold fLch at h;split at h
 ·rename_i s;simp only [Ab,Aa] at h;obtain ⟨rfl,ho⟩:=h;obtain ⟨N,hN⟩:=v7m s ho;exact ⟨_,_,.cons (.refl _) .nil,rfl,w8q s N _ hN,3,rfl⟩
 ·cases h
def SzS3 :Specs:=(SzS2.with lchN fLch).with rlcN fLch
theorem Wg :Zw prog SzS3:=u0u (u1j Ug)
structure Nod where
 n:List UInt8
 (a t x y z:Int)
 s:List R6
instance : Ym Nod where
 w:=7
 d:=⟨[],0,0,0,0,0,[]⟩
 cells x:=[.str x.n,.int .i64 x.a,.int .u8 x.t,.int .i64 x.x,.int .i64 x.y,.int .i64 x.z,.dat x.s.length (Zy x.s)]
 of l:=⟨sOf (l.getD 0 .undef),iOf (l.getD 1 .undef),iOf (l.getD 2 .undef),iOf (l.getD 3 .undef),iOf (l.getD 4 .undef),iOf (l.getD 5 .undef),match l.getD 6 .undef with
  | .dat n g=>lst R6 n g
  | _=>[]⟩
 len _:=rfl
 pos:=by decide
 flat _:=rfl
 sc _:=rfl
 back x:=by show Nod.mk x.n x.a x.t x.x x.y x.z (lst R6 x.s.length (Zy x.s))=x;rw [Zc]
inductive pthS where
 | h0 (aL:List (List UInt8)) (aC:Int)
 | h1 (v0:List (List UInt8)) (v2:Int) (v3:Int)
def pthC (l0:List Nod) (x1:Int):pthS→Cfg
 | .h0 aL aC=>⟨⟨19,0,true⟩,none,(Zm prog 68 [0,0] 0),none,[],⟨Yx [(0,(.yld 0)),(1,(.ptr 2 0)),(2,(.ptr 3 0))],x6n [(1,⟨[(.sla 4 1 0 aL.length (.un 1))],77,none⟩),(2,⟨[(ii aC)],3,none⟩),(3,⟨[(.dat l0.length (Zy l0))],22,none⟩),(4,⟨rows aL.length (Zy aL),9,some ⟨1,aL.length,(Zy aL)⟩⟩)],5,[],true⟩,[⟨⟨20,0,true⟩,none,(.inRangeFunc 0::(Zm prog 22 [1,1,0,1,0] 1)),none,(Zz prog 4),Yx [(4,(.str [])),(5,(.ptr 1 0))]⟩],(x6o [(0,⟨.ready,none,20,Yx [(5,(.ptr 1 0))],[10],(Uj prog 22 [1,1,0,1,0,0]),(Uj prog 22 [1,1,0,1,0,1])⟩)])⟩
 | .h1 v0 v2 v3=>⟨⟨28,0,true⟩,none,(Zm prog 41 [1,0,0] 0),none,[],⟨Yx [(0,(.sla 0 1 0 v0.length (.un 1))),(2,(ii v2)),(3,(ii v3))],Xj [⟨rows v0.length (Zy v0),9,some ⟨1,v0.length,(Zy v0)⟩⟩,⟨[(.sla 0 1 0 v0.length (.un 1))],77,none⟩] 0,2,[],true⟩,[⟨⟨20,0,true⟩,(z1q prog 22 [1,1,1,0] 1),(Zm prog 22 [1,1,1,0] 1),none,(Zz prog 4),Yx [(5,(.ptr 1 0)),(16,(.sla 0 1 0 v0.length (.un 1)))]⟩],.leaf⟩
def pthN0 :List (Option (List Nat)):=[some [0,1,2],some [4,5]]
def pthM0 :List (Option (List Nat)):=[some [5],none,none,none,none]
def pthN1 :List (Option (List Nat)):=[some [0,2,3],some [5,16]]
def pthM1 :List (Option (List Nat)):=[]
def Ur (l0:List Nod) (x1:Int):pthS→Ya pthS
 | .h0 aL aC=>(bif (decide (aC≥0)) then (bif (Nat.beq 1 1&&((decide (0+aL.length=aL.length))&&decide ((aL.length+1+1)*(16+1)≤Jq))) then (bif ((decide (0≤aC∧aC<(l0.length:Int)))&&true) then (.to (.h0 (aL++[(rd l0 aC.toNat).n]) (rd l0 aC.toNat).a)) else .stuck) else .stuck) else (.to (.h1 aL 0 (wrap .i64 ((aL.length:Int) - 1)))))
 | .h1 v0 v2 v3=>(bif (decide (v2<v3)) then (bif ((decide (0≤v2∧v2<(v0.length:Int)))&&true) then (bif (decide ((0+v2.toNat)<v0.length)) then (bif ((decide (0≤v3∧v3<(v0.length:Int)))&&true) then (bif (decide ((0+v3.toNat)<v0.length)) then (.to (.h1 ((v0.set (0+v2.toNat) (rd v0 (0+v3.toNat))).set (0+v3.toNat) (rd v0 (0+v2.toNat))) (wrap .i64 (v2+1)) (wrap .i64 (v3 - 1)))) else .stuck) else .stuck) else .stuck) else .stuck) else (bif (Nat.beq 1 1&&(decide (0+v0.length≤v0.length)&&Ji (Zy v0))) then (bif (Qu (lst (List UInt8) (v0.length) (fun k=>(Zy v0) (0+k))) ([47]:List UInt8)) then (.ret [(.str (joiV (lst (List UInt8) (v0.length) (fun k=>(Zy v0) (0+k))) ([47]:List UInt8)))]) else .stuck) else .stuck))
def z8z (l0:List Nod) (x1:Int):Ya pthS:=(.to (.h0 ([]:List (List UInt8)) x1))
theorem x9m (l0:List Nod) (x1:Int): ∀s,Yh prog (Zz prog 22) (pthC l0 x1) (pthC l0 x1 s) (Ur l0 x1 s)
 | .h0 aL aC=>(lb (fun k0=>(lo fun o0=>(lo fun o1=>(sl Wg 43 [] ⟨[0,1,2,3,7],[],pthN0,pthM0⟩ ⟨[],[.keep,.cells [.len (aL++[(rd l0 (tn aC)).n]).length],.keep,.keep,.rowed 1 (aL++[(rd l0 (tn aC)).n]).length (Zy (aL++[(rd l0 (tn aC)).n]))],[]⟩ (trs 7 []) (pp (xL (aL.length+1) (aL++[(rd l0 (tn aC)).n]).length) (pp (xL (aL.length+1) (aL++[(rd l0 (tn aC)).n]).length) (pp (xS (aL.length+1) (Ze (Zy aL) 0 aL.length 1 [(.str (rd l0 (tn aC)).n)]) (Zy (aL++[(rd l0 (tn aC)).n]))) (pp (pp (xF (Ze (Zy aL) 0 aL.length 1 [(.str (rd l0 (tn aC)).n)])) nn) (ww o1 (ww o0 (ww o1 (tt k0 nn)))))))))))) (fun k0=>(sl Wg 33 [] ⟨[4,1],[],pthN1,pthM1⟩ ⟨[],[],[]⟩ (bl 7 0) (pp (fl aL nn) (tt k0 nn)))))
 | .h1 v0 v2 v3=>(lb (fun k0=>(lo fun o0=>(lo fun o1=>(lo fun o2=>(lo fun o3=>(sl Wg 22 [] ⟨[0,1],[],pthN1,pthM1⟩ ⟨[(0,.len ((v0.set (0+(tn v2)) (rd v0 (0+(tn v3)))).set (0+(tn v3)) (rd v0 (0+(tn v2)))).length)],[.rowed 1 ((v0.set (0+(tn v2)) (rd v0 (0+(tn v3)))).set (0+(tn v3)) (rd v0 (0+(tn v2)))).length (Zy ((v0.set (0+(tn v2)) (rd v0 (0+(tn v3)))).set (0+(tn v3)) (rd v0 (0+(tn v2))))),.cells [.len ((v0.set (0+(tn v2)) (rd v0 (0+(tn v3)))).set (0+(tn v3)) (rd v0 (0+(tn v2)))).length]],[[(16,.len ((v0.set (0+(tn v2)) (rd v0 (0+(tn v3)))).set (0+(tn v3)) (rd v0 (0+(tn v2)))).length)]]⟩ [true] (pp (xL v0.length ((v0.set (0+(tn v2)) (rd v0 (0+(tn v3)))).set (0+(tn v3)) (rd v0 (0+(tn v2)))).length) (pp (xL v0.length ((v0.set (0+(tn v2)) (rd v0 (0+(tn v3)))).set (0+(tn v3)) (rd v0 (0+(tn v2)))).length) (pp (xS v0.length (Xp (Xp (Zy v0) (0+(tn v2)) 0 [(.str (rd v0 (0+(tn v3))))]) (0+(tn v3)) 0 [(.str (rd v0 (0+(tn v2))))]) (Zy ((v0.set (0+(tn v2)) (rd v0 (0+(tn v3)))).set (0+(tn v3)) (rd v0 (0+(tn v2)))))) (pp (xL v0.length ((v0.set (0+(tn v2)) (rd v0 (0+(tn v3)))).set (0+(tn v3)) (rd v0 (0+(tn v2)))).length) (pp (xL v0.length ((v0.set (0+(tn v2)) (rd v0 (0+(tn v3)))).set (0+(tn v3)) (rd v0 (0+(tn v2)))).length) (pp (pp (xF (Xp (Xp (Zy v0) (0+(tn v2)) 0 [(.str (rd v0 (0+(tn v3))))]) (0+(tn v3)) 0 [(.str (rd v0 (0+(tn v2))))])) nn) (ww o3 (ww o2 (ww o1 (ww o0 (ww o1 (ww o0 (ww o3 (ww o2 (tt k0 nn))))))))))))))))))))) (fun k0=>(lo fun o0=>(lo fun o1=>(lr 20 3 [1,1,1,1,1,1,1,1,0] 1 4 [(4,(.str (joiV (lst (List UInt8) (v0.length) (fun k=>(Zy v0) (0+k))) ([47]:List UInt8))))] (sl Wg 17 [] ⟨[],[],[some [4]],[]⟩ ⟨[],[],[]⟩ [false] (pp (pp (pp (xw o0) (pp nn nn)) (pp (xI (List UInt8) (v0.length) (fun k=>(Zy v0) (0+k))) (xw o1))) (tt k0 nn))))))))
theorem x2h (l0:List Nod) (x1:Int):Yh prog (Zz prog 22) (pthC l0 x1) (Zj prog 22 [(.dat l0.length (Zy l0)),(.int .i64 x1)] true []) (z8z l0 x1):=(sl Wg 31 [(9,1,Zy ([]:List (List UInt8)))] ⟨[3,0,2,1,4],[],pthN0,pthM0⟩ ⟨[],[.keep,.cells [.grow 4 1],.keep,.keep,.keep],[]⟩ [] (pp (fl ([]:List (List UInt8)) nn) nn))
theorem w9p (l0:List Nod) (x1:Int) (n:Nat) (vs:List AVal) (h:Zo (Ur l0 x1) n (z8z l0 x1)=.ret vs):Ws prog (Zz prog 22) (Zj prog 22 [(.dat l0.length (Zy l0)),(.int .i64 x1)] true []) vs:=by have:=Zk (x9m l0 x1) n _ (x2h l0 x1);rwa [h] at this
inductive rpaS where
 | h0 (v5:List UInt8) (v6:Int)
def rpaC (l0:List Nod) (x1:Int):rpaS→Cfg
 | .h0 v5 v6=>⟨⟨33,0,true⟩,none,(Zm prog 24 [1,1,0,1,0,0] 0),none,(Zz prog 4),⟨Yx [(0,(.dat l0.length (Zy l0))),(5,(.str v5)),(6,(ii v6))],Xj [] 0,0,[],true⟩,[],.leaf⟩
def rpaN0 :List (Option (List Nat)):=[some [0,5,6]]
def rpaM0 :List (Option (List Nat)):=[]
def z2v (l0:List Nod) (x1:Int):rpaS→Ya rpaS
 | .h0 v5 v6=>(bif (decide (v6≥0)) then (bif (sOk (rd l0 v6.toNat).n ([47]:List UInt8)) then (bif (sOk ((rd l0 v6.toNat).n ++([47]:List UInt8)) v5) then (bif ((decide (0≤v6∧v6<(l0.length:Int)))&&true) then (.to (.h0 (((rd l0 v6.toNat).n ++([47]:List UInt8))++v5) (rd l0 v6.toNat).a)) else .stuck) else .stuck) else .stuck) else (.ret [(.str v5)]))
def z8q (l0:List Nod) (x1:Int):Ya rpaS:=(bif ((decide (0≤x1∧x1<(l0.length:Int)))&&true) then (.to (.h0 (rd l0 x1.toNat).n (rd l0 x1.toNat).a)) else .stuck)
theorem x8t (l0:List Nod) (x1:Int): ∀s,Yh prog (Zz prog 24) (rpaC l0 x1) (rpaC l0 x1 s) (z2v l0 x1 s)
 | .h0 v5 v6=>(lb (fun k0=>(lo fun o0=>(lo fun o1=>(lo fun o2=>(sl Wg 31 [] ⟨[],[],rpaN0,rpaM0⟩ ⟨[],[],[]⟩ [true] (ww o2 (ww o1 (ww o0 (ww o2 (tt k0 nn)))))))))) (fun k0=>(lr 33 3 [1,1,1,1,1,1,1,1,0] 1 4 [(4,(.str v5))] (sl Wg 13 [] ⟨[],[],[some [4]],[]⟩ ⟨[],[],[]⟩ [false] (tt k0 nn)))))
theorem x1c (l0:List Nod) (x1:Int):Yh prog (Zz prog 24) (rpaC l0 x1) (Zj prog 24 [(.dat l0.length (Zy l0)),(.int .i64 x1)] true []) (z8q l0 x1):=(lo fun o0=>(sl Wg 25 [] ⟨[],[],rpaN0,rpaM0⟩ ⟨[],[],[]⟩ [] (ww o0 (ww o0 nn))))
theorem w8j (l0:List Nod) (x1:Int) (n:Nat) (vs:List AVal) (h:Zo (z2v l0 x1) n (z8q l0 x1)=.ret vs):Ws prog (Zz prog 24) (Zj prog 24 [(.dat l0.length (Zy l0)),(.int .i64 x1)] true []) vs:=by have:=Zk (x8t l0 x1) n _ (x1c l0 x1);rwa [h] at this
inductive greS where
 | h0 (v3:Int)
def greC (l0:List Nod):greS→Cfg
 | .h0 v3=>⟨⟨43,0,true⟩,none,(Zm prog 5 [1,0,1,0,0] 0),none,(Zz prog 5),⟨Yx [(0,(.dat l0.length (Zy l0))),(3,(ii v3))],Xj [] 0,0,[],true⟩,[],.leaf⟩
def greN0 :List (Option (List Nat)):=[some [0,3]]
def greM0 :List (Option (List Nat)):=[]
def z3i (l0:List Nod):greS→Ya greS
 | .h0 v3=>(bif (decide (v3<(l0.length:Int))) then (bif (decide (v3<300)) then (bif ((decide (0≤v3∧v3<(l0.length:Int)))&&true) then (bif (decide ((((rd l0 v3.toNat).s.length :Nat):Int)>12)) then (.ret [(.bool true)]) else (bif (decide ((((rd l0 v3.toNat).n.length :Nat):Int)>500)) then (.ret [(.bool true)]) else (.to (.h0 (wrap .i64 (v3+1)))))) else .stuck) else (bif (decide ((l0.length:Int)>12)) then (bif (decide ((l0.length:Int)≤200)) then (.ret [(.bool true)]) else (.ret [(.bool (decide ((l0.length:Int)>220)))])) else (.ret [(.bool (decide ((l0.length:Int)>220)))]))) else (bif (decide ((l0.length:Int)>12)) then (bif (decide ((l0.length:Int)≤200)) then (.ret [(.bool true)]) else (.ret [(.bool (decide ((l0.length:Int)>220)))])) else (.ret [(.bool (decide ((l0.length:Int)>220)))])))
def y5q (l0:List Nod):Ya greS:=(.to (.h0 0))
theorem w0l (l0:List Nod): ∀s,Yh prog (Zz prog 5) (greC l0) (greC l0 s) (z3i l0 s)
 | .h0 v3=>(lb (fun k0=>(lb (fun k1=>(lo fun bF=>(lb (fun k2=>(lr 43 5 [1,0,1,0,0,1,0,0,1,0,0] 1 5 [(2,(.bool true))] (sl Wg 40 [] ⟨[],[],[some [2]],[]⟩ ⟨[],[],[]⟩ (trs 11 []) (tt k2 (ww bF (tt k1 (tt k0 nn))))))) (fun k2=>(lb (fun k3=>(lr 43 5 [1,0,1,0,0,1,0,0,1,0,0] 1 5 [(2,(.bool true))] (sl Wg 40 [] ⟨[],[],[some [2]],[]⟩ ⟨[],[],[]⟩ (trs 3 (bl 8 128)) (tt k3 (ww bF (tt k2 (ww bF (tt k1 (tt k0 nn))))))))) (fun k3=>(sl Wg 44 [] ⟨[],[],greN0,greM0⟩ ⟨[],[],[]⟩ (trs 3 (bl 8 0)) (tt k3 (ww bF (tt k2 (ww bF (tt k1 (tt k0 nn))))))))))))) (fun k1=>(lb (fun k2=>(lb (fun k3=>(lr 43 3 [1,1,1,1,1,1,1,1,0] 1 5 [(2,(.bool true))] (sl Wg 31 [] ⟨[],[],[some [2]],[]⟩ ⟨[],[],[]⟩ (bl 9 507) (tt k3 (tt k2 (tt k1 (tt k0 nn))))))) (fun k3=>(lr 43 3 [1,1,1,1,1,1,1,1,0] 1 5 [(2,(.bool (decide ((l0.length:Int)>220))))] (sl Wg 31 [] ⟨[],[],[some [2]],[]⟩ ⟨[],[],[]⟩ (bl 9 59) (tt k3 (tt k2 (tt k1 (tt k0 nn))))))))) (fun k2=>(lr 43 3 [1,1,1,1,1,1,1,1,0] 1 5 [(2,(.bool (decide ((l0.length:Int)>220))))] (sl Wg 31 [] ⟨[],[],[some [2]],[]⟩ ⟨[],[],[]⟩ (bl 9 3) (tt k2 (tt k1 (tt k0 nn)))))))))) (fun k0=>(lb (fun k1=>(lb (fun k2=>(lr 43 3 [1,1,1,1,1,1,1,1,0] 1 5 [(2,(.bool true))] (sl Wg 31 [] ⟨[],[],[some [2]],[]⟩ ⟨[],[],[]⟩ (bl 9 504) (tt k2 (tt k1 (tt k0 nn)))))) (fun k2=>(lr 43 3 [1,1,1,1,1,1,1,1,0] 1 5 [(2,(.bool (decide ((l0.length:Int)>220))))] (sl Wg 31 [] ⟨[],[],[some [2]],[]⟩ ⟨[],[],[]⟩ (bl 9 56) (tt k2 (tt k1 (tt k0 nn)))))))) (fun k1=>(lr 43 3 [1,1,1,1,1,1,1,1,0] 1 5 [(2,(.bool (decide ((l0.length:Int)>220))))] (sl Wg 31 [] ⟨[],[],[some [2]],[]⟩ ⟨[],[],[]⟩ (bl 9 0) (tt k1 (tt k0 nn))))))))
theorem x3q (l0:List Nod):Yh prog (Zz prog 5) (greC l0) (Zj prog 5 [(.dat l0.length (Zy l0))] true []) (y5q l0):=(sl Wg 11 [] ⟨[],[],greN0,greM0⟩ ⟨[],[],[]⟩ [] nn)
theorem v0y (l0:List Nod) (n:Nat) (vs:List AVal) (h:Zo (z3i l0) n (y5q l0)=.ret vs):Ws prog (Zz prog 5) (Zj prog 5 [(.dat l0.length (Zy l0))] true []) vs:=by have:=Zk (w0l l0) n _ (x3q l0);rwa [h] at this
def upN (l:List Nod):Nat→Int→List (List UInt8)
 | 0,_=>[]
 | k+1,i=>bif decide (0≤i) then (rd l i.toNat).n ::upN l k (rd l i.toNat).a else []
def okC (l:List Nod) (i:Nat):Bool:=(List.range (i+1)).all fun j=>decide (-1≤(rd l j).a)&&decide ((rd l j).a <(j:Int))
def Qi (l:List Nod) (i:Int):List UInt8:=Lib.join (upN l (i.toNat+1) i).reverse [47]
def Xd (l:List Nod) (i:Int):Bool:=decide (0≤i∧i<(l.length:Int))&&(decide (l.length≤1000)&&(okC l i.toNat&&l.all fun x=>decide (x.n.length≤500)))
theorem Uz {l:List Nod} {i j:Nat} (h:okC l i=true) (hj:j≤i): -1≤(rd l j).a ∧(rd l j).a <(j:Int):=by have:=Aw.1 h j (AN.2 (by omega));rwa [Ac,Ak,Ak] at this
theorem w9t {l:List Nod} {i j:Nat} (h:okC l i=true) (hj:j≤i):okC l j=true:=Aw.2 fun k hk=>by have:=Uz h (show k≤i by have:=AN.1 hk;omega);rw [Ac,Ak,Ak];exact this
theorem z2o (l:List Nod) (k:Nat) {i:Int} (h: ¬0≤i):upN l k i=[]:=by
 cases k with
 | zero=>rfl
 | succ k=>unfold upN;rw [An h];rfl
theorem x5l {l:List Nod} {t:Nat} (ht:okC l t=true): ∀(k m:Nat) (i:Int),i≤(t:Int)→i<(k:Int)→i<(m:Int)→upN l k i=upN l m i
 | 0,m,i,h0,h1,h2=>by rw [z2o l 0 (by omega),z2o l m (by omega)]
 | k+1,0,i,h0,h1,h2=>by rw [z2o l (k+1) (by omega),z2o l 0 (by omega)]
 | k+1,m+1,i,h0,h1,h2=>by
  unfold upN;by_cases h:0≤i
  ·obtain ⟨j,rfl⟩: ∃j:Nat,i=(j:Int):=⟨i.toNat,by omega⟩
   have hb:=Uz ht (show j≤t by omega);rw [Ae h,Ag,Ag,toNat_c,x5l ht k m (rd l j).a (by omega) (by omega) (by omega)]
  ·rw [An h];rfl
theorem x0b (l:List Nod): ∀(k:Nat) (i:Int),(upN l k i).length ≤k
 | 0,i=>Ao _
 | k+1,i=>by
  unfold upN;cases decide (0≤i) with
  | true=>rw [Ag,AQ];have:=x0b l k (rd l i.toNat).a;omega
  | false=>exact AE _
theorem z9w {l:List Nod} (h:(l.all fun x=>decide (x.n.length≤500))=true) (j:Nat):(rd l j).n.length ≤500:=by
 by_cases hj:j<l.length
 ·rw [Xf hj];exact As (Aw.1 h _ (AU hj))
 ·have:rd l j=Ym.d:=by simp [rd,List.getD,List.getElem?_eq_none (show l.length≤j by omega)]
  rw [this];exact AE _
theorem y6x {l:List Nod} (h:(l.all fun x=>decide (x.n.length≤500))=true): ∀(k:Nat) (i:Int) (p:List UInt8),p∈upN l k i→p.length≤500
 | 0,i,p,hp=>by cases hp
 | k+1,i,p,hp=>by
  unfold upN at hp;cases g:decide (0≤i) with
  | true=>
   rw [g,Ag] at hp;cases hp with
   | head=>exact z9w h _
   | tail _ hp=>exact y6x h k _ p hp
  | false=>rw [g] at hp;cases hp
theorem w4x (m:Nat): ∀(L:List (List UInt8)),(∀p∈L,p.length≤m)→Lib.lens L≤m*L.length
 | [],h=>by simp [Lib.lens]
 | x::r,h=>by
  have h1:=h x Bf;have h2:=w4x m r fun p hp=>h p (Bw _ hp);have e:Lib.lens (x::r)=x.length+Lib.lens r:=by simp [Lib.lens]
  rw [e,AQ,Nat.mul_add];omega
theorem v9i (L:List (List UInt8)) (h: ∀p∈L,p.length≤500):(Lib.join L [47]).length ≤501*L.length:=by
 cases L with
 | nil=>simp [Lib.join_nil]
 | cons x r=>have:=w4x 500 (x::r) h;rw [Lib.join_length];have e:(x::r).length =r.length+1:=rfl;rw [e] at this ⊢;show 1*r.length+_≤_;omega
theorem y5f {l:List Nod} {i:Int} (h:Xd l i=true):(Qi l i).length ≤1000000:=by unfold Xd at h;simp only [Ac,Ak] at h;obtain ⟨h1,h2,h3,h4⟩:=h;have:=v9i (upN l (i.toNat+1) i).reverse fun p hp=>y6x h4 _ _ p (List.mem_reverse.1 hp);have hl:=x0b l (i.toNat+1) i;rw [List.length_reverse] at this;unfold Qi;omega
theorem v4o {l:List Nod} {x:Int} {t:Nat} (ht:okC l t=true) (hl:l.length≤1000) {R:Ya pthS}: ∀(m:Nat) (i:Int) (out:List (List UInt8)),i<(m:Int)→i≤(t:Int)→i<(l.length:Int)→out.length+m≤2000→
  (∃N,Zo (Ur l x) N (.to (.h1 (out++upN l m i) 0 (wrap .i64 (((out++upN l m i).length :Int) - 1))))=R)→ ∃N,Zo (Ur l x) N (.to (.h0 out i))=R
 | m,i,out,hm,hit,hil,ho,⟨N,hR⟩=>by
  by_cases h:0≤i
  ·match m with
   | 0=>omega
   | m+1=>
    obtain ⟨j,rfl⟩: ∃j:Nat,i=(j:Int):=⟨i.toNat,by omega⟩
    have hb:=Uz ht (show j≤t by omega);have e:Ur l x (.h0 out (j:Int))=.to (.h0 (out++[(rd l j).n]) (rd l j).a):=by unfold Ur;simp only [toNat_c];rw [dge_t h,Ag,Zr (y4x (by omega)),Ap,Zr (din_t (by omega))]
    have hu:upN l (m+1) (j:Int)=(rd l j).n ::upN l m (rd l j).a :=(by rw [upN,Ae h,Ag,toNat_c]);rw [hu,show out++(rd l j).n ::upN l m (rd l j).a =(out++[(rd l j).n])++upN l m (rd l j).a by rw [AF];rfl] at hR;obtain ⟨M,hM⟩:=v4o ht hl m (rd l j).a (out++[(rd l j).n]) (by omega) (by omega) (by omega) (by rw [AL,Br];omega) ⟨N,hR⟩;exact ⟨M+1,by rw [Zv,e,hM]⟩
  ·refine ⟨N+1,?_⟩;rw [z2o l m h,AJ] at hR;rw [Zv,←hR]
   congr 1
   unfold Ur;simp only [];rw [dge_f h];rfl
theorem w3y {α:Type} [Ym α] {L:List α} {i:Nat} {v:α} (hi:i<L.length) (k:Nat):rd (L.set i v) k=bif Nat.beq i k then v else rd L k:=by
 unfold rd;rw [A9,A9,List.getElem?_set];cases g:Nat.beq i k with
 | true=>obtain rfl:=Ah g;rw [AD rfl,AD hi];rfl
 | false=>
  have:i≠k:=fun e=>by rw [e,Bv] at g;cases g
  rw [Ax this];rfl
theorem v8e {L M:List (List UInt8)} (hl:M.length=L.length) (h: ∀k,k<L.length→rd M k=rd L (L.length - 1 - k)):M=L.reverse:=by apply Bz (by rw [List.length_reverse,hl]);intro k h1 h2;have:=h k (by omega);rw [Xf h1,Xf (show L.length - 1 - k<L.length by omega)] at this;rw [this,List.getElem_reverse]
theorem v4n {l:List Nod} {x:Int} {L:List (List UInt8)} (hL:L.length≤2000) (hj:Qu L.reverse [47]=true): ∀(d i j:Nat) (M:List (List UInt8)),M.length=L.length→i+j+1=L.length+0∨(L.length=0∧i=0∧j=0)→j - i≤d→
  (∀k,k<L.length→rd M k=bif decide (k<i)||decide (j<k) then rd L (L.length - 1 - k) else rd L k)→
  ∃N,Zo (Ur l x) N (.to (.h1 M (i:Int) (wrap .i64 ((L.length:Int) - 1 - (i:Int)))))=.ret [.str (joiV L.reverse [47])]
 | d, i,j,M,hM,hij,hd,hk=>by
  have wj:L.length≠0→wrap .i64 ((L.length:Int) - 1 - (i:Int))=(j:Int):=fun h0=>by rw [wrap_t (by omega)];omega
  by_cases h:i<j
  ·have h0:L.length≠0:=by omega
   match d with
   | 0=>omega
   | d +1=>
    have w2:wrap .i64 ((i:Int)+1)=((i+1:Nat):Int):=wrap_t (by omega);have w3:wrap .i64 ((j:Int) - 1)=wrap .i64 ((L.length:Int) - 1 - ((i+1:Nat):Int)):=by congr 1;omega
    have e:Ur l x (.h1 M (i:Int) (wrap .i64 ((L.length:Int) - 1 - (i:Int))))=.to (.h1 ((M.set i (rd M j)).set j (rd M i)) ((i+1:Nat):Int) (wrap .i64 ((L.length:Int) - 1 - ((i+1:Nat):Int)))):=by rw [wj h0];unfold Ur;simp only [toNat_c,w2,w3,Al];rw [dlt_t (by omega),Ag,Ap,Ap,Zr (din_t (by omega)),Zr (nlt_t (by omega)),Zr (din_t (by omega)),Zr (nlt_t (by omega))]
    obtain ⟨N,hN⟩:=v4n (l:=l) (x:=x) hL hj d (i+1) (j - 1) ((M.set i (rd M j)).set j (rd M i)) (by rw [BJ,BJ,hM]) (by omega) (by omega) fun k hkl=>by
     rw [w3y (by rw [BJ];omega),w3y (by omega)];by_cases g1:j=k
     ·subst g1;rw [Bv,Ag,hk i (by omega),An (show ¬i<i by omega),An (show ¬j<i by omega),Ae (show j - 1<j by omega),Bool.or_true];show rd L i=rd L (L.length - 1 - j)
      congr 1;omega
     ·rw [show Nat.beq j k=false from by cases g:Nat.beq j k with
       | false=>rfl
       | true=>exact absurd (Ah g) g1,Ad]
      by_cases g2:i=k
      ·subst g2;rw [Bv,Ag,hk j (by omega),An (show ¬j<i by omega),An (show ¬j<j by omega),Ae (show i<i+1 by omega)];show rd L j=rd L (L.length - 1 - i)
       congr 1;omega
      ·rw [show Nat.beq i k=false from by cases g:Nat.beq i k with
        | false=>rfl
        | true=>exact absurd (Ah g) g2,Ad,hk k hkl,show decide (k<i+1)=decide (k<i) by rw [AR,Ak,Ak];omega,show decide (j - 1<k)=decide (j<k) by rw [AR,Ak,Ak];omega]
    exact ⟨N+1,by rw [Zv,e,hN]⟩
  ·have hrev:M=L.reverse:=v8e hM fun k hkl=>by
    rw [hk k hkl];cases g:decide (k<i)||decide (j<k) with
    | true=>rfl
    | false=>
     rw [AT,AY,AY] at g;show rd L k=_
     congr 1;omega
   subst hrev;refine ⟨1,?_⟩;rw [Zv];have hlt: ¬(i:Int)<wrap .i64 ((L.length:Int) - 1 - (i:Int)):=by rw [wrap_t (by omega)];omega
   unfold Ur;simp only [];rw [dlt_f hlt,Ad,Zr (by rw [Ac,Ac];exact ⟨rfl,Ae (by omega),Yn _⟩),Wj,Zr hj];rfl
theorem v8o (l:List Nod) (i:Int) (h:Xd l i=true): ∃N,Zo (Ur l i) N (z8z l i)=.ret [.str (Qi l i)]:=by
 have hp:=y5f h;unfold Xd at h;simp only [Ac,Ak] at h;obtain ⟨h1,h2,h3,h4⟩:=h;have cW:=x0b l (i.toNat+1) i;have hjo:Qu (upN l (i.toNat+1) i).reverse [47]=true:=by unfold Qu;rw [Ac,Ak,Ak,List.length_reverse];exact ⟨by omega,hp⟩
 unfold z8z;refine v4o h3 h2 (i.toNat+1) i [] (by omega) (by omega) (by omega) (by rw [List.length_nil];omega) ?_;rw [A6];have:=v4n (l:=l) (x:=i) (L:=upN l (i.toNat+1) i) (by omega) hjo ((upN l (i.toNat+1) i).length) 0 ((upN l (i.toNat+1) i).length - 1) (upN l (i.toNat+1) i) rfl (by omega) (by omega) fun k hk=>by rw [An (show ¬k<0 by omega),An (show ¬(upN l (i.toNat+1) i).length - 1<k by omega)];rfl
 rw [show ((upN l (i.toNat+1) i).length :Int) - 1 - ((0:Nat):Int)=((upN l (i.toNat+1) i).length :Int) - 1 by omega] at this;exact this
def fPth :List AVal→Option (AVal×Bool)
 | [a0,.int .i64 i]=>match asL Nod a0 with
  | some (L,g,n)=>some (.str (Qi L i),isT Nod n g&&Xd L i)
  | _=>none
 | _=>none
theorem u1c {S:Specs} (hS:Zw prog S):Zw prog (S.with pthN fPth):=fOne hS (by kernel_rfl) fun args v h=>by
 unfold fPth at h;split at h
 ·rename_i a0 i;split at h
  ·rename_i L g n e0;simp only [Ab,Aa,Ac] at h;obtain ⟨rfl,ho0,hw⟩:=h;obtain ⟨N,hN⟩:=v8o L i hw;exact ⟨_,_,(.cons (Yg e0 ho0) (.cons (.refl _) .nil)),rfl,w9p L i N _ hN,3,rfl⟩
  ·cases h
 ·cases h
theorem v0q (sep x p:List UInt8): ∀R:List (List UInt8),Lib.join (R++[x,p]) sep=Lib.join (R++[x++sep++p]) sep
 | []=>by show Lib.join [x,p] sep=Lib.join [x++sep++p] sep;rw [Lib.join_one,Lib.join_cons];simp [Lib.joinTail]
 | y::R=>by rw [BF,BF,Lib.join_cons,Lib.join_cons];simp [Lib.joinTail]
theorem v3s {l:List Nod} {x:Int} {t:Nat} (ht:okC l t=true) (hl:l.length≤1000) (hn:(l.all fun x=>decide (x.n.length≤500))=true): ∀(m:Nat) (i:Int) (p:List UInt8),i<(m:Int)→i≤(t:Int)→i<(l.length:Int)→m≤1000→p.length+501*m≤600000→
  ∃N,Zo (z2v l x) N (.to (.h0 p i))=.ret [.str (Lib.join ((upN l m i).reverse ++[p]) [47])]
 | m,i,p,hm,hit,hil,hm2,hp=>by
  by_cases h:0≤i
  ·match m with
   | 0=>omega
   | m+1=>
    obtain ⟨j,rfl⟩: ∃j:Nat,i=(j:Int):=⟨i.toNat,by omega⟩
    have hb:=Uz ht (show j≤t by omega);have hnl:=z9w hn j;have e:z2v l x (.h0 p (j:Int))=.to (.h0 (((rd l j).n ++[47])++p) (rd l j).a):=by unfold z2v;simp only [toNat_c];rw [dge_t h,Ag,Zr (sOk_t (by show _+1≤_;omega)),Zr (sOk_t (by rw [AL];show _+1+_≤_;omega)),Ap,Zr (din_t (by omega))]
    have hu:upN l (m+1) (j:Int)=(rd l j).n ::upN l m (rd l j).a :=(by rw [upN,Ae h,Ag,toNat_c]);obtain ⟨N,hN⟩:=v3s (x:=x) ht hl hn m (rd l j).a (((rd l j).n ++[47])++p) (by omega) (by omega) (by omega) (by omega) (by rw [AL,AL];show _+1+_+_≤_;omega);refine ⟨N+1,?_⟩;rw [Zv,e,hN,hu,List.reverse_cons,show (upN l m (rd l j).a).reverse ++[(rd l j).n]++[p]=(upN l m (rd l j).a).reverse ++[(rd l j).n,p] from AF _ _ _,v0q]
  ·refine ⟨1,?_⟩;rw [Zv,z2o l m h,List.reverse_nil,A6,Lib.join_one];unfold z2v;simp only [];rw [dge_f h];rfl
theorem v7i (l:List Nod) (i:Int) (h:Xd l i=true): ∃N,Zo (z2v l i) N (z8q l i)=.ret [.str (Qi l i)]:=by
 unfold Xd at h;simp only [Ac,Ak] at h;obtain ⟨h1,h2,h3,h4⟩:=h;obtain ⟨j,rfl⟩: ∃j:Nat,i=(j:Int):=⟨i.toNat,by omega⟩
 rw [toNat_c] at h3;have hb:=Uz h3 (Ao j);have hnl:=z9w h4 j;unfold z8q Qi;rw [Ap,Zr (din_t h1),toNat_c];have hu:upN l (j+1) (j:Int)=(rd l j).n ::upN l j (rd l j).a :=by rw [upN,Ae (show (0:Int)≤(j:Int) by omega),Ag,toNat_c]
 rw [hu,List.reverse_cons];exact v3s h3 h2 h4 j (rd l j).a (rd l j).n (by omega) (by omega) (by omega) (by omega) (by omega)
theorem u0q {S:Specs} (hS:Zw prog S):Zw prog (S.with rpaN fPth):=fOne hS (by kernel_rfl) fun args v h=>by
 unfold fPth at h;split at h
 ·rename_i a0 i;split at h
  ·rename_i L g n e0;simp only [Ab,Aa,Ac] at h;obtain ⟨rfl,ho0,hw⟩:=h;obtain ⟨N,hN⟩:=v7i L i hw;exact ⟨_,_,(.cons (Yg e0 ho0) (.cons (.refl _) .nil)),rfl,w8j L i N _ hN,3,rfl⟩
  ·cases h
 ·cases h
def greB (x:Nod):Bool:=decide (12<x.s.length)||decide (500<x.n.length)
def greZ (n:Nat):Bool:=decide (12<n)&&decide (n≤200)||decide (220<n)
def v9q (l:List Nod):Bool:=(l.take 300).any greB||greZ l.length
theorem v9p (l:List Nod):(bif decide ((l.length:Int)>12) then (bif decide ((l.length:Int)≤200) then (.ret [.bool true]) else (.ret [.bool (decide ((l.length:Int)>220))])) else (.ret [.bool (decide ((l.length:Int)>220))]):Ya greS)=.ret [.bool (greZ l.length)]:=by
 unfold greZ;have e:decide ((l.length:Int)>220)=decide (220<l.length):=by rw [AR,Ak,Ak];omega
 rw [e];by_cases h:12<l.length
 ·rw [dgt_t (by omega),Ae h];by_cases h2:l.length≤200
  ·rw [dle_t (by omega),Ae h2];rfl
  ·rw [dle_f (by omega),An h2];rfl
 ·rw [dgt_f (by omega),An h];rfl
theorem v5j (l:List Nod): ∀(k i:Nat),i+k=min l.length 300→ ∃N,Zo (z3i l) N (.to (.h0 (i:Int)))=.ret [.bool (((l.take 300).drop i).any greB||greZ l.length)]
 | 0,i,h=>⟨1,by
  rw [Zv,At (by rw [Bq];omega)];unfold z3i;simp only [];rw [v9p];by_cases g:i<l.length
  ·rw [dlt_t (by omega),Ag,dlt_f (by omega)];rfl
  ·rw [dlt_f (by omega)];rfl⟩
 | k+1,i,h=>by
  have hi:i<l.length:=by omega
  have w2:wrap .i64 ((i:Int)+1)=((i+1:Nat):Int):=wrap_t (by omega);have e:z3i l (.h0 (i:Int))=bif greB (rd l i) then .ret [.bool true] else .to (.h0 ((i+1:Nat):Int)):=by
   unfold z3i greB;simp only [toNat_c,w2];rw [dlt_t (by omega),Ag,dlt_t (by omega),Ag,Ap,Zr (din_t (by omega))];have e1:decide (((rd l i).s.length :Int)>12)=decide (12<(rd l i).s.length):=by rw [AR,Ak,Ak];omega
   have e2:decide (((rd l i).n.length :Int)>500)=decide (500<(rd l i).n.length):=by rw [AR,Ak,Ak];omega
   rw [e1,e2];cases decide (12<(rd l i).s.length) <;> rfl
  have hd:(l.take 300).drop i=rd l i::(l.take 300).drop (i+1):=by rw [AK (show i<(l.take 300).length by rw [Bq];omega),BD,Xf hi]
  rw [hd,List.any_cons];cases g:greB (rd l i) with
  | true=>exact ⟨1,by rw [Zv,e,g];rfl⟩
  | false=>obtain ⟨N,hN⟩:=v5j l k (i+1) (by omega);exact ⟨N+1,by rw [Zv,e,g,Ad,hN,Ba]⟩
theorem v9n (l:List Nod): ∃N,Zo (z3i l) N (y5q l)=.ret [.bool (v9q l)]:=v5j l (min l.length 300) 0 (Al _)
def fGre :List AVal→Option (AVal×Bool)
 | [a0]=>match asL Nod a0 with
  | some (L,g,n)=>some (.bool (v9q L),isT Nod n g)
  | _=>none
 | _=>none
theorem u1o {S:Specs} (hS:Zw prog S):Zw prog (S.with greN fGre):=fOne hS (by kernel_rfl) fun args v h=>by
 unfold fGre at h;split at h
 ·rename_i a0;split at h
  ·rename_i L g n e0;simp only [Ab,Aa] at h;obtain ⟨rfl,ho0⟩:=h;obtain ⟨N,hN⟩:=v9n L;exact ⟨_,_,(.cons (Yg e0 ho0) .nil),rfl,v0y L N _ hN,3,rfl⟩
  ·cases h
 ·cases h
def SzS4 :Specs:=((SzS3.with pthN fPth).with rpaN fPth).with greN fGre
theorem Um :Zw prog SzS4:=u1o (u0q (u1c Wg))
inductive fckS where
def fckC (aA:Int) (aG:Int) (aH:Int) (aF:Int):fckS→Cfg
 :=nofun
def x4g (aA:Int) (aG:Int) (aH:Int) (aF:Int):fckS→Ya fckS
 :=nofun
def z5s (aA:Int) (aG:Int) (aH:Int) (aF:Int):Ya fckS:=(bif (decide (aA≥24)) then (.ret [(.int .i64 8)]) else (bif (decide ((y6q (y6q aG aH) aF)≥(-1000000))) then (bif (!(decide ((y6r (y6r aG aH) aF)≤1000000))) then (.ret [(.int .i64 8)]) else (.ret [(.int .i64 0)])) else (.ret [(.int .i64 8)])))
theorem w0y (aA:Int) (aG:Int) (aH:Int) (aF:Int): ∀s,Yh prog (Zz prog 31) (fckC aA aG aH aF) (fckC aA aG aH aF s) (x4g aA aG aH aF s)
 :=nofun
theorem x4h (aA:Int) (aG:Int) (aH:Int) (aF:Int):Yh prog (Zz prog 31) (fckC aA aG aH aF) (Zj prog 31 [(.agg [(.int .u8 aA),(.int .i64 aG),(.int .i64 aH),(.int .i64 aF)])] true []) (z5s aA aG aH aF):=(lb (fun k0=>(lr 12 31 [1,0,1,0,0] 1 5 [(2,(ii 8))] (sl Um 23 [] ⟨[],[],[some [2]],[]⟩ ⟨[],[],[]⟩ (trs 5 []) (tt k0 nn)))) (fun k0=>(lb (fun k1=>(lb (fun k2=>(lr 12 31 [1,0,1,0,0] 1 5 [(2,(ii 8))] (sl Um 52 [] ⟨[],[],[some [2]],[]⟩ ⟨[],[],[]⟩ [false,false,false,true,true,true,true,true,true,true,true,false,true] (tt k2 (tt k1 (tt k0 nn)))))) (fun k2=>(lr 12 3 [1,1,1,1,1,1,1,1,0] 1 5 [(2,(ii 0))] (sl Um 53 [] ⟨[],[],[some [2]],[]⟩ ⟨[],[],[]⟩ [false,false,false,true,true,true,true,true,true,true,true,false,false] (tt k2 (tt k1 (tt k0 nn)))))))) (fun k1=>(lr 12 31 [1,0,1,0,0] 1 5 [(2,(ii 8))] (sl Um 52 [] ⟨[],[],[some [2]],[]⟩ ⟨[],[],[]⟩ [false,false,false,false,false,false,false,false,false,false,false,false,true] (tt k1 (tt k0 nn))))))))
theorem v1k (aA:Int) (aG:Int) (aH:Int) (aF:Int) (n:Nat) (vs:List AVal) (h:Zo (x4g aA aG aH aF) n (z5s aA aG aH aF)=.ret vs):Ws prog (Zz prog 31) (Zj prog 31 [(.agg [(.int .u8 aA),(.int .i64 aG),(.int .i64 aH),(.int .i64 aF)])] true []) vs:=by have:=Zk (w0y aA aG aH aF) n _ (x4h aA aG aH aF);rwa [h] at this
inductive rfcS where
def rfcC (aA:Int) (aG:Int) (aH:Int) (aF:Int):rfcS→Cfg
 :=nofun
def x1u (aA:Int) (aG:Int) (aH:Int) (aF:Int):rfcS→Ya rfcS
 :=nofun
def z4m (aA:Int) (aG:Int) (aH:Int) (aF:Int):Ya rfcS:=(bif (decide (aA≥24)) then (.ret [(.int .i64 8)]) else (bif (decide (aG≥(-1000000))) then (bif (decide (aH≥(-1000000))) then (bif (decide (aF≥(-1000000))) then (bif (decide (aG≤1000000)) then (bif (decide (aH≤1000000)) then (bif (!(decide (aF≤1000000))) then (.ret [(.int .i64 8)]) else (.ret [(.int .i64 0)])) else (.ret [(.int .i64 8)])) else (.ret [(.int .i64 8)])) else (.ret [(.int .i64 8)])) else (.ret [(.int .i64 8)])) else (.ret [(.int .i64 8)])))
theorem x9f (aA:Int) (aG:Int) (aH:Int) (aF:Int): ∀s,Yh prog (Zz prog 34) (rfcC aA aG aH aF) (rfcC aA aG aH aF s) (x1u aA aG aH aF s)
 :=nofun
theorem x1v (aA:Int) (aG:Int) (aH:Int) (aF:Int):Yh prog (Zz prog 34) (rfcC aA aG aH aF) (Zj prog 34 [(.agg [(.int .u8 aA),(.int .i64 aG),(.int .i64 aH),(.int .i64 aF)])] true []) (z4m aA aG aH aF):=(lb (fun k0=>(lr 12 34 [1,0,1,0,0] 1 5 [(2,(ii 8))] (sl Um 23 [] ⟨[],[],[some [2]],[]⟩ ⟨[],[],[]⟩ (trs 5 []) (tt k0 nn)))) (fun k0=>(lb (fun k1=>(lb (fun k2=>(lb (fun k3=>(lb (fun k4=>(lb (fun k5=>(lb (fun k6=>(lr 12 34 [1,0,1,0,0] 1 5 [(2,(ii 8))] (sl Um 64 [] ⟨[],[],[some [2]],[]⟩ ⟨[],[],[]⟩ [false,false,false,true,true,true,true,true,true,true,true,true,true,true,true,true,true,true,true,true,false,true] (tt k6 (tt k5 (tt k4 (tt k3 (tt k2 (tt k1 (tt k0 nn)))))))))) (fun k6=>(lr 12 3 [1,1,1,1,1,1,1,1,0] 1 5 [(2,(ii 0))] (sl Um 65 [] ⟨[],[],[some [2]],[]⟩ ⟨[],[],[]⟩ [false,false,false,true,true,true,true,true,true,true,true,true,true,true,true,true,true,true,true,true,false,false] (tt k6 (tt k5 (tt k4 (tt k3 (tt k2 (tt k1 (tt k0 nn)))))))))))) (fun k5=>(lr 12 34 [1,0,1,0,0] 1 5 [(2,(ii 8))] (sl Um 64 [] ⟨[],[],[some [2]],[]⟩ ⟨[],[],[]⟩ [false,false,false,true,true,true,true,true,true,true,true,true,true,true,true,true,true,false,false,false,false,true] (tt k5 (tt k4 (tt k3 (tt k2 (tt k1 (tt k0 nn))))))))))) (fun k4=>(lr 12 34 [1,0,1,0,0] 1 5 [(2,(ii 8))] (sl Um 64 [] ⟨[],[],[some [2]],[]⟩ ⟨[],[],[]⟩ [false,false,false,true,true,true,true,true,true,true,true,true,true,true,false,false,false,false,false,false,false,true] (tt k4 (tt k3 (tt k2 (tt k1 (tt k0 nn)))))))))) (fun k3=>(lr 12 34 [1,0,1,0,0] 1 5 [(2,(ii 8))] (sl Um 64 [] ⟨[],[],[some [2]],[]⟩ ⟨[],[],[]⟩ [false,false,false,true,true,true,true,true,true,true,true,false,false,false,false,false,false,false,false,false,false,true] (tt k3 (tt k2 (tt k1 (tt k0 nn))))))))) (fun k2=>(lr 12 34 [1,0,1,0,0] 1 5 [(2,(ii 8))] (sl Um 64 [] ⟨[],[],[some [2]],[]⟩ ⟨[],[],[]⟩ [false,false,false,true,true,true,true,false,false,false,false,false,false,false,false,false,false,false,false,false,false,true] (tt k2 (tt k1 (tt k0 nn)))))))) (fun k1=>(lr 12 34 [1,0,1,0,0] 1 5 [(2,(ii 8))] (sl Um 64 [] ⟨[],[],[some [2]],[]⟩ ⟨[],[],[]⟩ [false,false,false,false,false,false,false,false,false,false,false,false,false,false,false,false,false,false,false,false,false,true] (tt k1 (tt k0 nn))))))))
theorem w8z (aA:Int) (aG:Int) (aH:Int) (aF:Int) (n:Nat) (vs:List AVal) (h:Zo (x1u aA aG aH aF) n (z4m aA aG aH aF)=.ret vs):Ws prog (Zz prog 34) (Zj prog 34 [(.agg [(.int .u8 aA),(.int .i64 aG),(.int .i64 aH),(.int .i64 aF)])] true []) vs:=by have:=Zk (x9f aA aG aH aF) n _ (x1v aA aG aH aF);rwa [h] at this
def inB (x:Int):Bool:=decide (-1000000≤x)&&decide (x≤1000000)
def inV (x y z:Int):Bool:=inB x&&(inB y&&inB z)
def fkV (t x y z:Int):Int:=bif decide (24≤t) then 8 else bif inV x y z then 0 else 8
theorem w5h (x y z:Int):inV x y z=true↔(-1000000≤x∧x≤1000000)∧(-1000000≤y∧y≤1000000)∧(-1000000≤z∧z≤1000000):=by unfold inV inB;simp only [Ac,Ak]
theorem u0c (t x y z:Int): ∃N,Zo (x4g t x y z) N (z5s t x y z)=.ret [.int .i64 (fkV t x y z)]:=⟨0,by
 show z5s t x y z=_;unfold z5s fkV;by_cases h:24≤t
 ·rw [dge_t h];rfl
 ·rw [dge_f h,Ad,Ad];cases g:inV x y z with
  | true=>have:=(w5h x y z).1 g;rw [y0q,y0q,y0r,y0r,dge_t (by omega),dle_t (by omega)];rfl
  | false=>
   have: ¬((-1000000≤x∧x≤1000000)∧(-1000000≤y∧y≤1000000)∧(-1000000≤z∧z≤1000000)):=fun h=>A3.1 g ((w5h x y z).2 h);rw [y0q,y0q,y0r,y0r];by_cases h1:min (min x y) z≥ -1000000
   ·rw [dge_t h1,Ag,dle_f (by omega)];rfl
   ·rw [dge_f h1];rfl⟩
theorem v8d (t x y z:Int): ∃N,Zo (x1u t x y z) N (z4m t x y z)=.ret [.int .i64 (fkV t x y z)]:=⟨0,by
 show z4m t x y z=_;unfold z4m fkV inV inB;by_cases h:24≤t
 ·rw [dge_t h];rfl
 ·rw [dge_f h,Ad,Ad];show (bif decide (-1000000≤x) then _ else _)=_;have e: ∀(a b:Int),decide (a≥b)=decide (b≤a):=fun a b=>rfl;rw [e y,e z];cases decide (-1000000≤x) <;> cases decide (-1000000≤y) <;> cases decide (-1000000≤z) <;> cases decide (x≤1000000) <;> cases decide (y≤1000000) <;> cases decide (z≤1000000) <;> rfl⟩
def fFk :List AVal→Option (AVal×Bool)
 | [.agg [.int .u8 t,.int .i64 x,.int .i64 y,.int .i64 z]]=>some (.int .i64 (fkV t x y z),true)
 | _=>none
theorem u1w {S:Specs} (hS:Zw prog S):Zw prog (S.with fckN fFk):=fOne hS (by kernel_rfl) fun args v h=>by
 unfold fFk at h;split at h
 ·rename_i t x y z;simp only [Ab,Aa] at h;obtain ⟨rfl,_⟩:=h;obtain ⟨N,hN⟩:=u0c t x y z;exact ⟨_,_,.cons (.refl _) .nil,rfl,v1k t x y z N _ hN,3,rfl⟩
 ·cases h
theorem u0y {S:Specs} (hS:Zw prog S):Zw prog (S.with rfcN fFk):=fOne hS (by kernel_rfl) fun args v h=>by
 unfold fFk at h;split at h
 ·rename_i t x y z;simp only [Ab,Aa] at h;obtain ⟨rfl,_⟩:=h;obtain ⟨N,hN⟩:=v8d t x y z;exact ⟨_,_,.cons (.refl _) .nil,rfl,w8z t x y z N _ hN,3,rfl⟩
 ·cases h
def SzS5 :Specs:=(SzS4.with fckN fFk).with rfcN fFk
theorem Xz :Zw prog SzS5:=u0y (u1w Um)
inductive schS where
 | h0 (v15:Int)
 | h1 (v29:Int) (aE:List (List UInt8×Bool))
def schC (l0:List Nod):schS→Cfg
 | .h0 v15=>⟨⟨69,0,true⟩,none,(Zm prog 12 [1,1,0,1,0,0] 0),none,(Zz prog 5),⟨Yx [(0,(.dat l0.length (Zy l0))),(13,(.dat l0.length (Zy l0))),(14,(ii (l0.length:Int))),(15,(ii v15))],Xj [] 0,0,[],true⟩,[],.leaf⟩
 | .h1 v29 aE=>⟨⟨69,0,true⟩,none,(Zm prog 12 [1,1,1,1,0,1,0,0] 0),none,(Zz prog 5),⟨Yx [(0,(.dat l0.length (Zy l0))),(6,(.mapr 0)),(27,(.dat l0.length (Zy l0))),(28,(ii (l0.length:Int))),(29,(ii v29))],Xj [⟨[(.obj (.mb aE))],64,none⟩] 0,1,[],true⟩,[],.leaf⟩
def schN0 :List (Option (List Nat)):=[some [0,13,14,15]]
def schM0 :List (Option (List Nat)):=[]
def schN1 :List (Option (List Nat)):=[some [0,6,27,28,29]]
def schM1 :List (Option (List Nat)):=[]
def Uw (l0:List Nod):schS→Ya schS
 | .h0 v15=>(bif (decide (v15<(l0.length:Int))) then (bif ((decide (0≤v15∧v15<(l0.length:Int)))&&true) then (bif (x0l (cvT (rd l0 v15.toNat).s)) then (bif ((Wa (cvT (rd l0 v15.toNat).s)) != 0) then (.ret [(.int .i64 (Wa (cvT (rd l0 v15.toNat).s)))]) else (.to (.h0 (wrap .i64 (v15+1))))) else .stuck) else .stuck) else (.to (.h1 0 ([]:List (List UInt8×Bool)))))
 | .h1 v29 aE=>(bif (decide (v29<(l0.length:Int))) then (bif ((decide (0≤v29∧v29<(l0.length:Int)))&&true) then (bif (Wu (rd l0 v29.toNat).n) then (bif (!(z3t (rd l0 v29.toNat).n)) then (.ret [(.int .i64 8)]) else (bif (decide ((rd l0 v29.toNat).a <(-1))) then (.ret [(.int .i64 8)]) else (bif (decide ((rd l0 v29.toNat).a ≥v29)) then (.ret [(.int .i64 8)]) else (bif ((fkV (rd l0 v29.toNat).t (rd l0 v29.toNat).x (rd l0 v29.toNat).y (rd l0 v29.toNat).z) != 0) then (.ret [(.int .i64 8)]) else (bif (Xd (cvT l0) v29) then (bif (getK false aE (Qi (cvT l0) v29)) then (.ret [(.int .i64 8)]) else (bif (Wo (Qi (cvT l0) v29)) then (bif ((y1z (Qi (cvT l0) v29)) != 0) then (.ret [(.int .i64 8)]) else (.to (.h1 (wrap .i64 (v29+1)) (x5p aE (Qi (cvT l0) v29) true)))) else .stuck)) else .stuck))))) else .stuck) else .stuck) else (.ret [(.int .i64 0)]))
def z8l (l0:List Nod):Ya schS:=(bif (decide ((l0.length:Int)>200)) then (.ret [(.int .i64 4)]) else (.to (.h0 0)))
theorem x8d (l0:List Nod): ∀s,Yh prog (Zz prog 12) (schC l0) (schC l0 s) (Uw l0 s)
 | .h0 v15=>(lb (fun k0=>(lo fun aI=>(lo fun aQ=>(lb (fun k1=>(lr 69 12 [1,1,0,1,0,0,1,1,0,0,1,1,1,0,0] 1 5 [(2,(ii (Wa (cvT (rd l0 (tn v15)).s))))] (sl Xz 34 [] ⟨[],[],[some [2]],[]⟩ ⟨[],[],[]⟩ (bl 2 3) (tt k1 (pp (pp (xI R6 (rd l0 (tn v15)).s.length (Zy (rd l0 (tn v15)).s)) (xw aQ)) (ww aI (tt k0 nn))))))) (fun k1=>(sl Xz 36 [] ⟨[],[],schN0,schM0⟩ ⟨[],[],[]⟩ (bl 2 1) (tt k1 (pp (pp (xI R6 (rd l0 (tn v15)).s.length (Zy (rd l0 (tn v15)).s)) (xw aQ)) (ww aI (tt k0 nn)))))))))) (fun k0=>(sl Xz 21 [] ⟨[0],[],schN1,schM1⟩ ⟨[],[],[]⟩ [false] (tt k0 nn))))
 | .h1 v29 aE=>(lb (fun k0=>(lo fun aI=>(lo fun aQ=>(lb (fun k1=>(lr 69 12 [1,1,1,1,0,1,0,0,1,1,0,0,1,0,1,0,0] 1 5 [(2,(ii 8))] (sl Xz 48 [] ⟨[],[],[some [2]],[]⟩ ⟨[],[],[]⟩ (trs 13 []) (tt k1 (ww aQ (ww aI (tt k0 nn))))))) (fun k1=>(lb (fun k2=>(lr 69 12 [1,1,1,1,0,1,0,0,1,1,0,0,1,0,1,0,0] 1 5 [(2,(ii 8))] (sl Xz 48 [] ⟨[],[],[some [2]],[]⟩ ⟨[],[],[]⟩ (bl 13 8177) (tt k2 (tt k1 (ww aQ (ww aI (tt k0 nn)))))))) (fun k2=>(lb (fun k3=>(lr 69 12 [1,1,1,1,0,1,0,0,1,1,0,0,1,0,1,0,0] 1 5 [(2,(ii 8))] (sl Xz 48 [] ⟨[],[],[some [2]],[]⟩ ⟨[],[],[]⟩ (bl 13 7937) (tt k3 (tt k2 (tt k1 (ww aQ (ww aI (tt k0 nn))))))))) (fun k3=>(lb (fun k4=>(lr 69 12 [1,1,1,1,0,1,0,0,1,1,0,0,1,0,1,0,0] 1 5 [(2,(ii 8))] (sl Xz 48 [] ⟨[],[],[some [2]],[]⟩ ⟨[],[],[]⟩ (bl 13 4097) (tt k4 (tt k3 (tt k2 (tt k1 (ww aQ (ww aI (tt k0 nn)))))))))) (fun k4=>(lo fun cH=>(lb (fun k5=>(lr 69 12 [1,1,1,1,0,1,0,0,1,1,0,0,1,1,1,0,1,0,0] 1 5 [(2,(ii 8))] (sl Xz 69 [] ⟨[],[],[some [2]],[]⟩ ⟨[],[],[]⟩ (bl 17 122881) (tt k5 (pp (pp (xr l0) (xw cH)) (tt k4 (tt k3 (tt k2 (tt k1 (ww aQ (ww aI (tt k0 nn)))))))))))) (fun k5=>(lo fun cT=>(lb (fun k6=>(lr 69 12 [1,1,1,1,0,1,0,0,1,1,0,0,1,1,1,0,1,0,0] 1 5 [(2,(ii 8))] (sl Xz 69 [] ⟨[],[],[some [2]],[]⟩ ⟨[],[],[]⟩ (bl 17 65537) (tt k6 (ww cT (tt k5 (pp (pp (xr l0) (xw cH)) (tt k4 (tt k3 (tt k2 (tt k1 (ww aQ (ww aI (tt k0 nn)))))))))))))) (fun k6=>(sl Xz 77 [] ⟨[0],[],schN1,schM1⟩ ⟨[],[],[]⟩ (bl 17 1) (tt k6 (ww cT (tt k5 (pp (pp (xr l0) (xw cH)) (tt k4 (tt k3 (tt k2 (tt k1 (ww aQ (ww aI (tt k0 nn))))))))))))))))))))))))))))) (fun k0=>(lr 69 3 [1,1,1,1,1,1,1,1,0] 1 5 [(2,(ii 0))] (sl Xz 11 [] ⟨[],[],[some [2]],[]⟩ ⟨[],[],[]⟩ [false] (tt k0 nn)))))
theorem x0m (l0:List Nod):Yh prog (Zz prog 12) (schC l0) (Zj prog 12 [(.dat l0.length (Zy l0))] true []) (z8l l0):=(lb (fun k0=>(lr 69 12 [1,0,1,0,0] 1 5 [(2,(ii 4))] (sl Xz 16 [] ⟨[],[],[some [2]],[]⟩ ⟨[],[],[]⟩ [true] (tt k0 nn)))) (fun k0=>(sl Xz 22 [] ⟨[],[],schN0,schM0⟩ ⟨[],[],[]⟩ [false] (tt k0 nn))))
theorem w7t (l0:List Nod) (n:Nat) (vs:List AVal) (h:Zo (Uw l0) n (z8l l0)=.ret vs):Ws prog (Zz prog 12) (Zj prog 12 [(.dat l0.length (Zy l0))] true []) vs:=by have:=Zk (x8d l0) n _ (x0m l0);rwa [h] at this
inductive rscS where
 | h0 (v3:Int)
 | h1 (v4:Int)
 | h2 (v4:Int) (v6:Int) (aE:List UInt8) (bB:Int) (bE:Int) (bO:Int) (cM:Int) (cN:Int) (cL:List R6)
def rscC (l0:List Nod):rscS→Cfg
 | .h0 v3=>⟨⟨90,0,true⟩,none,(Zm prog 13 [1,1,0,1,0,0] 0),none,(Zz prog 5),⟨Yx [(0,(.dat l0.length (Zy l0))),(3,(ii v3))],Xj [] 0,0,[],true⟩,[],.leaf⟩
 | .h1 v4=>⟨⟨90,0,true⟩,none,(Zm prog 13 [1,1,1,0,1,0,0] 0),none,(Zz prog 5),⟨Yx [(0,(.dat l0.length (Zy l0))),(4,(ii v4))],Xj [] 0,0,[],true⟩,[],.leaf⟩
 | .h2 v4 v6 aE bB bE bO cM cN cL=>⟨⟨90,0,true⟩,none,(Zm prog 13 [1,1,1,0,1,0,0,1,0,0,1,1,1,0,0] 0),none,(Zz prog 5),⟨Yx [(0,(.dat l0.length (Zy l0))),(4,(ii v4)),(5,(.ptr 0 0)),(6,(ii v6))],Xj [⟨[(.str aE),(ii bB),(.int .u8 bE),(ii bO),(ii cM),(ii cN),(.dat cL.length (Zy cL))],57,none⟩] 0,1,[],true⟩,[],.leaf⟩
def rscN0 :List (Option (List Nat)):=[some [0,3]]
def rscM0 :List (Option (List Nat)):=[]
def rscN1 :List (Option (List Nat)):=[some [0,4]]
def rscM1 :List (Option (List Nat)):=[]
def v7d :List (Option (List Nat)):=[some [0,4,5,6]]
def v7e :List (Option (List Nat)):=[]
def Xr (l0:List Nod):rscS→Ya rscS
 | .h0 v3=>(bif (decide (v3<(l0.length:Int))) then (bif ((decide (0≤v3∧v3<(l0.length:Int)))&&true) then (bif (x2c (cvT (rd l0 v3.toNat).s)) then (bif ((z7j (cvT (rd l0 v3.toNat).s)) != 0) then (.ret [(.int .i64 (z7j (cvT (rd l0 v3.toNat).s)))]) else (.to (.h0 (wrap .i64 (v3+1))))) else .stuck) else .stuck) else (.to (.h1 0)))
 | .h1 v4=>(bif (decide (v4<(l0.length:Int))) then (bif ((decide (0≤v4∧v4<(l0.length:Int)))&&true) then (bif (Wu (rd l0 v4.toNat).n) then (bif (!(z3t (rd l0 v4.toNat).n)) then (.ret [(.int .i64 8)]) else (bif (decide ((rd l0 v4.toNat).a <(-1))) then (.ret [(.int .i64 8)]) else (bif (decide ((rd l0 v4.toNat).a ≥v4)) then (.ret [(.int .i64 8)]) else (bif ((fkV (rd l0 v4.toNat).t (rd l0 v4.toNat).x (rd l0 v4.toNat).y (rd l0 v4.toNat).z) != 0) then (.ret [(.int .i64 8)]) else (bif (Xd (cvT l0) v4) then (bif (Wo (Qi (cvT l0) v4)) then (bif ((y1z (Qi (cvT l0) v4)) != 0) then (.ret [(.int .i64 8)]) else (.to (.h2 v4 0 (rd l0 v4.toNat).n (rd l0 v4.toNat).a (rd l0 v4.toNat).t (rd l0 v4.toNat).x (rd l0 v4.toNat).y (rd l0 v4.toNat).z (rd l0 v4.toNat).s))) else .stuck) else .stuck))))) else .stuck) else .stuck) else (.ret [(.int .i64 0)]))
 | .h2 v4 v6 aE bB bE bO cM cN cL=>(bif (decide (v6<v4)) then (bif ((decide (0≤v6∧v6<(l0.length:Int)))&&true) then (bif ((rd l0 v6.toNat).a == bB) then (bif ((rd l0 v6.toNat).n == aE) then (.ret [(.int .i64 8)]) else (.to (.h2 v4 (wrap .i64 (v6+1)) aE bB bE bO cM cN cL))) else (.to (.h2 v4 (wrap .i64 (v6+1)) aE bB bE bO cM cN cL))) else .stuck) else (.to (.h1 (wrap .i64 (v4+1)))))
def z8o (l0:List Nod):Ya rscS:=(bif (decide ((l0.length:Int)>200)) then (.ret [(.int .i64 4)]) else (.to (.h0 0)))
theorem x8p (l0:List Nod): ∀s,Yh prog (Zz prog 13) (rscC l0) (rscC l0 s) (Xr l0 s)
 | .h0 v3=>(lb (fun k0=>(lo fun aI=>(lo fun aQ=>(lb (fun k1=>(lr 90 13 [1,1,0,1,0,0,1,0,0,1,0,0] 1 5 [(2,(ii (z7j (cvT (rd l0 (tn v3)).s))))] (sl Xz 33 [] ⟨[],[],[some [2]],[]⟩ ⟨[],[],[]⟩ (bl 2 3) (pp (pp (xI R6 (rd l0 (tn v3)).s.length (Zy (rd l0 (tn v3)).s)) (xw aQ)) (ww aI (tt k1 (pp (pp (xI R6 (rd l0 (tn v3)).s.length (Zy (rd l0 (tn v3)).s)) (xw aQ)) (ww aI (tt k0 nn))))))))) (fun k1=>(sl Xz 31 [] ⟨[],[],rscN0,rscM0⟩ ⟨[],[],[]⟩ (bl 2 1) (tt k1 (pp (pp (xI R6 (rd l0 (tn v3)).s.length (Zy (rd l0 (tn v3)).s)) (xw aQ)) (ww aI (tt k0 nn)))))))))) (fun k0=>(sl Xz 17 [] ⟨[],[],rscN1,rscM1⟩ ⟨[],[],[]⟩ [false] (tt k0 nn))))
 | .h1 v4=>(lb (fun k0=>(lo fun aI=>(lo fun aQ=>(lb (fun k1=>(lr 90 13 [1,1,1,0,1,0,0,1,0,0,1,0,1,0,0] 1 5 [(2,(ii 8))] (sl Xz 58 [] ⟨[],[],[some [2]],[]⟩ ⟨[],[],[]⟩ (trs 18 []) (tt k1 (ww aQ (ww aI (tt k0 nn))))))) (fun k1=>(lb (fun k2=>(lr 90 13 [1,1,1,0,1,0,0,1,0,0,1,0,1,0,0] 1 5 [(2,(ii 8))] (sl Xz 58 [] ⟨[],[],[some [2]],[]⟩ ⟨[],[],[]⟩ (bl 18 262129) (tt k2 (tt k1 (ww aQ (ww aI (tt k0 nn)))))))) (fun k2=>(lb (fun k3=>(lr 90 13 [1,1,1,0,1,0,0,1,0,0,1,0,1,0,0] 1 5 [(2,(ii 8))] (sl Xz 58 [] ⟨[],[],[some [2]],[]⟩ ⟨[],[],[]⟩ (bl 18 261889) (tt k3 (tt k2 (tt k1 (ww aQ (ww aI (tt k0 nn))))))))) (fun k3=>(lb (fun k4=>(lr 90 13 [1,1,1,0,1,0,0,1,0,0,1,0,1,0,0] 1 5 [(2,(ii 8))] (sl Xz 58 [] ⟨[],[],[some [2]],[]⟩ ⟨[],[],[]⟩ (bl 18 258049) (tt k4 (tt k3 (tt k2 (tt k1 (ww aQ (ww aI (tt k0 nn)))))))))) (fun k4=>(lo fun cH=>(lo fun cU=>(lb (fun k5=>(lr 90 13 [1,1,1,0,1,0,0,1,0,0,1,0,1,0,0] 1 5 [(2,(ii 8))] (sl Xz 58 [] ⟨[],[],[some [2]],[]⟩ ⟨[],[],[]⟩ (bl 18 131073) (tt k5 (ww cU (pp (pp (xr l0) (xw cH)) (tt k4 (tt k3 (tt k2 (tt k1 (ww aQ (ww aI (tt k0 nn))))))))))))) (fun k5=>(sl Xz 61 [] ⟨[0],[],v7d,v7e⟩ ⟨[],[],[]⟩ (bl 18 1) (tt k5 (ww cU (pp (pp (xr l0) (xw cH)) (tt k4 (tt k3 (tt k2 (tt k1 (ww aQ (ww aI (tt k0 nn)))))))))))))))))))))))))) (fun k0=>(lr 90 3 [1,1,1,1,1,1,1,1,0] 1 5 [(2,(ii 0))] (sl Xz 14 [] ⟨[],[],[some [2]],[]⟩ ⟨[],[],[]⟩ [false] (tt k0 nn)))))
 | .h2 v4 v6 aE bB bE bO cM cN cL=>(lb (fun k0=>(lo fun aI=>(lb (fun k1=>(lb (fun k2=>(lr 90 13 [1,1,1,0,1,0,0,1,0,0,1,1,1,0,0,1,0,0,1,0,0] 1 5 [(2,(ii 8))] (sl Xz 18 [] ⟨[],[],[some [2]],[]⟩ ⟨[],[],[]⟩ (trs 10 []) (tt k2 (ww aI (tt k1 (ww aI (tt k0 nn)))))))) (fun k2=>(sl Xz 22 [] ⟨[0],[],v7d,v7e⟩ ⟨[],[],[]⟩ (trs 9 [false]) (tt k2 (ww aI (tt k1 (ww aI (tt k0 nn))))))))) (fun k1=>(sl Xz 22 [] ⟨[0],[],v7d,v7e⟩ ⟨[],[],[]⟩ (bl 10 1) (tt k1 (ww aI (tt k0 nn)))))))) (fun k0=>(sl Xz 16 [] ⟨[],[],rscN1,rscM1⟩ ⟨[],[],[]⟩ [false] (tt k0 nn))))
theorem x0x (l0:List Nod):Yh prog (Zz prog 13) (rscC l0) (Zj prog 13 [(.dat l0.length (Zy l0))] true []) (z8o l0):=(lb (fun k0=>(lr 90 13 [1,0,1,0,0] 1 5 [(2,(ii 4))] (sl Xz 16 [] ⟨[],[],[some [2]],[]⟩ ⟨[],[],[]⟩ [true] (tt k0 nn)))) (fun k0=>(sl Xz 20 [] ⟨[],[],rscN0,rscM0⟩ ⟨[],[],[]⟩ [false] (tt k0 nn))))
theorem w8f (l0:List Nod) (n:Nat) (vs:List AVal) (h:Zo (Xr l0) n (z8o l0)=.ret vs):Ws prog (Zz prog 13) (Zj prog 13 [(.dat l0.length (Zy l0))] true []) vs:=by have:=Zk (x8p l0) n _ (x0x l0);rwa [h] at this
def pt (L:List R2) (y:Int):Prop:= ∃s∈L,s.a≤y∧y<s.b
structure Can (L:List R2):Prop where
 pos: ∀s∈L,s.a<s.b
 sep:L.Pairwise fun s t=>s.b<t.a
theorem Can.nil :Can []:=⟨by simp,.nil⟩
theorem Can.tail {s:R2} {L:List R2} (h:Can (s::L)):Can L:=⟨fun t ht=>h.pos t (Bw _ ht),(Bj.1 h.sep).2⟩
theorem Can.head {s:R2} {L:List R2} (h:Can (s::L)): ∀t∈L,s.b<t.a:=(Bj.1 h.sep).1
theorem v5s {s:R2} {L:List R2} (h:Can (s::L)) {y:Int} (hy:pt (s::L) y):s.a≤y:=by
 obtain ⟨t,ht,h1,h2⟩:=hy;rcases AM.1 ht with rfl | ht
 ·exact h1
 ·have:=h.head t ht;have:=h.pos s (by simp);omega
theorem v5t : ∀(L M:List R2),Can L→Can M→(∀y,pt L y↔pt M y)→L=M
 | [],[],_,_,_=>rfl
 | [],t::M,_,hM,h=>by have:=(h t.a).2 ⟨t,by simp,BA _,hM.pos t (by simp)⟩;obtain ⟨s,hs,_⟩:=this;cases hs
 | s::L,[],hL,_,h=>by have:=(h s.a).1 ⟨s,by simp,BA _,hL.pos s (by simp)⟩;obtain ⟨s,hs,_⟩:=this;cases hs
 | s::L,t::M,hL,hM,h=>by
  have p1:=hL.pos s (by simp);have p2:=hM.pos t (by simp);have a1:t.a≤s.a:=v5s hM ((h s.a).1 ⟨s,by simp,BA _,p1⟩);have a2:s.a≤t.a:=v5s hL ((h t.a).2 ⟨t,by simp,BA _,p2⟩);have b1: ¬s.b<t.b:=fun hb=>by
   obtain ⟨u,hu,h1,h2⟩:=(h s.b).2 ⟨t,by simp,by omega,hb⟩;rcases AM.1 hu with rfl | hu
   ·omega
   ·have:=hL.head u hu;omega
  have b2: ¬t.b<s.b:=fun hb=>by
   obtain ⟨u,hu,h1,h2⟩:=(h t.b).1 ⟨s,by simp,by omega,hb⟩;rcases AM.1 hu with rfl | hu
   ·omega
   ·have:=hM.head u hu;omega
  have e:s=t:=by
   obtain ⟨sa,sb⟩:=s;obtain ⟨ta,tb⟩:=t;simp only at a1 a2 b1 b2;have:sa=ta:=by omega
   have:sb=tb:=by omega
   subst_vars;rfl
  subst e
  congr 1
  refine v5t L M hL.tail hM.tail fun y=>⟨fun hy=> ?_,fun hy=> ?_⟩
  ·obtain ⟨u,hu,h1,h2⟩:=hy;have g:=hL.head u hu;obtain ⟨v,hv,h3,h4⟩:=(h y).1 ⟨u,by simp [hu],h1,h2⟩;rcases AM.1 hv with rfl | hv
   ·omega
   ·exact ⟨v,hv,h3,h4⟩
  ·obtain ⟨u,hu,h1,h2⟩:=hy;have g:=hM.head u hu;obtain ⟨v,hv,h3,h4⟩:=(h y).2 ⟨u,by simp [hu],h1,h2⟩;rcases AM.1 hv with rfl | hv
   ·omega
   ·exact ⟨v,hv,h3,h4⟩
def push (out:List R2) (x x':Int):List R2:=
 bif decide (0<out.length)&&((rd out (out.length - 1)).b == x) then out.set (out.length - 1) ⟨(rd out (out.length - 1)).a,x'⟩ else out++[⟨x,x'⟩]
theorem w4j (out:List R2) (s:R2) (x x':Int):push (out++[s]) x x'=bif s.b == x then out++[⟨s.a,x'⟩] else out++[s]++[⟨x,x'⟩]:=by
 grind [rd,push]
theorem x6c {out:List R2} {x x':Int} (hc:Can out) (hb: ∀s∈out,s.b≤x) (hx:x<x'):
  Can (push out x x')∧(∀s∈push out x x',s.b≤x')∧ ∀y,pt (push out x x') y↔pt out y∨(x≤y∧y<x'):=by
 rcases List.eq_nil_or_concat out with rfl | ⟨L,s,rfl⟩
 ·refine ⟨⟨?_,?_⟩,?_,fun y=> ?_⟩;all_goals simp_all [push,pt]
 ·rw [List.concat_eq_append] at*;rw [w4j];have hs:=hb s (by simp);have hp:=hc.pos s (by simp);have sep:=List.pairwise_append.1 hc.sep;rcases boolc (s.b == x) with q | q
  ·rw [q,Ag];have q:s.b=x:=by simpa using q
   refine ⟨⟨?_,?_⟩,?_,fun y=> ?_⟩
   ·intro t ht;rcases AW.1 ht with ht | ht
    ·exact hc.pos t (by simp [ht])
    grind
   ·grind
   ·grind
   ·constructor
    ·rintro ⟨t,ht,h1,h2⟩;rcases AW.1 ht with ht | ht
     ·exact .inl ⟨t,by simp [ht],h1,h2⟩
     ·rw [BI.1 ht] at h1 h2;by_cases hy:y<s.b
      ·exact .inl ⟨s,by simp,h1,hy⟩
      grind
    ·rintro (⟨t,ht,h1,h2⟩ | ⟨h1,h2⟩)
     ·rcases AW.1 ht with ht | ht
      ·exact ⟨t,by simp [ht],h1,h2⟩
      ·rw [BI.1 ht] at h1 h2;exact ⟨⟨s.a,x'⟩,by simp,h1,by grind⟩
     ·exact ⟨⟨s.a,x'⟩,by simp,by grind,h2⟩
  ·rw [q,Ad];have q:s.b≠x:=by simpa using q
   refine ⟨⟨?_,?_⟩,?_,fun y=> ?_⟩
   ·intro t ht;rcases AW.1 ht with ht | ht
    ·exact hc.pos t ht
    grind
   ·grind
   ·grind
   ·constructor
    ·rintro ⟨t,ht,h1,h2⟩;rcases AW.1 ht with ht | ht
     ·exact .inl ⟨t,ht,h1,h2⟩
     grind
    ·rintro (⟨t,ht,h1,h2⟩ | ⟨h1,h2⟩)
     ·exact ⟨t,AW.2 (.inl ht),h1,h2⟩
     ·exact ⟨⟨x,x'⟩,by simp,h1,h2⟩
theorem v8y {l:List Int} (h:l.Pairwise (· < ·)) {i j:Nat} (hij:i<j) (hj:j<l.length):rd l i<rd l j:=by rw [Xf (by omega),Xf hj];exact BE.1 h i j (by omega) hj hij
theorem y5z (cuts:List Int) (ins:List Bool) (hc:cuts.Pairwise (· < ·)): ∀(k i:Nat) (out:List R2),i+k<cuts.length∨k=0→Can out→(∀s∈out,s.b≤rd cuts i)→
  Can (w2a cuts ins k i out)∧ ∀y,pt (w2a cuts ins k i out) y↔pt out y∨ ∃j,i≤j∧j<i+k∧rd ins j=true∧rd cuts j≤y∧y<rd cuts (j+1)
 | 0,i,out,h,ho,hb=>⟨ho,fun y=>⟨.inl,fun hy=>hy.elim id fun ⟨j,h1,h2,_⟩=>by omega⟩⟩
 | k +1,i,out,h,ho,hb=>by
  have hlt:rd cuts i<rd cuts (i+1):=v8y hc (BM _) (by omega);obtain ⟨p1,p2,p3⟩:=x6c ho hb hlt;have e:w2a cuts ins (k+1) i out=w2a cuts ins k (i+1) (bif rd ins i then push out (rd cuts i) (rd cuts (i+1)) else out):=rfl;rw [e];rcases boolc (rd ins i) with q | q
  ·rw [q,Ag];obtain ⟨r1,r2⟩:=y5z cuts ins hc k (i+1) (push out (rd cuts i) (rd cuts (i+1))) (by omega) p1 p2;refine ⟨r1,fun y=> ?_⟩;rw [r2,p3];constructor
   ·rintro ((h | h) | ⟨j,h1,h2,h3⟩)
    ·exact .inl h
    ·exact .inr ⟨i,Ao _,by omega,q,h⟩
    ·exact .inr ⟨j,by omega,by omega,h3⟩
   ·rintro (h | ⟨j,h1,h2,h3⟩)
    ·exact .inl (.inl h)
    ·rcases BK h1 with rfl | h1
     ·exact .inl (.inr h3.2)
     ·exact .inr ⟨j,h1,by omega,h3⟩
  ·rw [q,Ad];obtain ⟨r1,r2⟩:=y5z cuts ins hc k (i+1) out (by omega) ho (fun s hs=>by have:=hb s hs;omega);refine ⟨r1,fun y=> ?_⟩;rw [r2];constructor
   ·rintro (h | ⟨j,h1,h2,h3⟩)
    ·exact .inl h
    ·exact .inr ⟨j,by omega,by omega,h3⟩
   ·rintro (h | ⟨j,h1,h2,h3⟩)
    ·exact .inl h
    ·rcases BK h1 with rfl | h1
     ·rw [q] at h3;cases h3.1
     ·exact .inr ⟨j,h1,by omega,h3⟩
theorem w6m {cuts:List Int}: ∀(k:Nat),k<cuts.length→ ∀y,rd cuts 0≤y→y<rd cuts k→ ∃j,j<k∧rd cuts j≤y∧y<rd cuts (j+1)
 | 0,_,y,h1,h2=>by omega
 | k+1,hk,y,h1,h2=>by
  by_cases h:rd cuts k≤y
  ·exact ⟨k,BM _,h,h2⟩
  ·obtain ⟨j,h3,h4⟩:=w6m k (by omega) y h1 (by omega);exact ⟨j,by omega,h4⟩
theorem v2c (cuts:List Int) (hc:cuts.Pairwise (· < ·)) (P:Int→Bool) (S:List R2) (hS: ∀s∈S,s.a∈cuts∧s.b∈cuts) (hP: ∀y,P y=true↔pt S y):
  Can (z7y cuts (cuts.map P))∧ ∀y,pt (z7y cuts (cuts.map P)) y↔pt S y:=by
 obtain ⟨r1,r2⟩:=y5z cuts (cuts.map P) hc (cuts.length - 1) 0 [] (by omega) .nil (by simp);refine ⟨r1,fun y=> ?_⟩;unfold z7y;rw [r2];have hin: ∀x,x∈cuts→ ∃i,i<cuts.length∧rd cuts i=x:=fun x hx=>by obtain ⟨i,hi,h⟩:=A1 hx;exact ⟨i,hi,by rw [Xf hi];exact h⟩
 have hmap: ∀j,j<cuts.length→rd (cuts.map P) j=P (rd cuts j):=fun j hj=>by
  grind [Xf]
 have le_of: ∀i j,i<cuts.length→j<cuts.length→i≤j→rd cuts i≤rd cuts j:=fun i j hi hj hij=>by
  rcases BK hij with rfl | h
  ·grind
  ·exact Int.le_of_lt (v8y hc h hj)
 constructor
 ·rintro (⟨s,hs,_⟩ | ⟨j,h1,h2,h3,h4,h5⟩)
  ·cases hs
  ·have hj:j+1<cuts.length:=by omega
   rw [hmap j (by omega)] at h3;obtain ⟨s,hs,a1,a2⟩:=(hP _).1 h3;obtain ⟨ca,cb⟩:=hS s hs;obtain ⟨m,hm,em⟩:=hin s.b cb;refine ⟨s,hs,by omega,?_⟩
   grind
 ·rintro ⟨s,hs,a1,a2⟩;right;obtain ⟨ca,cb⟩:=hS s hs;obtain ⟨n,hn,en⟩:=hin s.a ca;obtain ⟨m,hm,em⟩:=hin s.b cb;have h0:=le_of 0 n (by omega) hn (AE _);obtain ⟨j,h1,h2,h3⟩:=w6m m hm y (by omega) (by omega);refine ⟨j,AE _,by omega,?_,h2,h3⟩;rw [hmap j (by omega),hP];refine ⟨s,hs,?_,?_⟩;all_goals grind
end Go.Am
end
