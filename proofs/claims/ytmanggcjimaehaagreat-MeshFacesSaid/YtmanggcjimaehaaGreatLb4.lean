/- A part of a proof: several texts in one. -/
import Derived.Test.YtmanggcjimaehaaGreatLb3
set_option maxRecDepth 1000000
set_option maxHeartbeats 8000000
set_option linter.unusedVariables false
set_option linter.unusedSimpArgs false
noncomputable section
namespace Go.Am
open Go.Proofs.Tryz
open Go.Proofs Go.Sort Go.Shelf Go.RowKit Go.Lib
theorem x2l {i n:Nat} (h:i<n):decide ((i:Int)<(n:Int))=true:=decide_eq_true (by omega)
theorem z6q {σ:Type} (step:σ→Xf σ) (a b:Nat) (s:Xf σ):Yv step (a+b) s=Yv step a (Yv step b s):=by
 induction b generalizing s with
 | zero=>cases s <;> simp [Yv]
 | succ b ih=>cases s with
  | to s=>exact ih (step s)
  | ret vs=>simp only [Zm]
  | stuck=>cases a <;> cases b <;> rfl
theorem x2m {i:Nat}:decide ((i:Int)≥0)=true:=decide_eq_true (by omega)
def Km {α:Type} [Yo α] (out:List α):List AVal:=bif decide ((out.length:Int)>400) then [.nils,.int .i64 4] else [.dat out.length (Zz out),.int .i64 0]
def y2g {α:Type} [Yo α] (e:Int) (L:List α):List AVal:=bif e != 0 then [.nils,.int .i64 e] else [.dat L.length (Zz L),.int .i64 0]
def y9k {α:Type} (e:Int) (L:List α):List α:=bif e != 0 then [] else L
theorem z3s {α:Type} [Yo α] (e:Int) (L:List α) (ρ:Rho) (u:Value) (hu:VRel ρ (Ja (y2g e L)) u):VRel ρ (.tup [.dat (y9k e L).length (Zz (y9k e L)),.int .i64 e]) u:=by
 unfold y2g at hu;unfold y9k;by_cases h:e=0
 ·subst h;exact hu
 ·have h:(e != 0)=true:=by simpa using h
  rw [h] at hu ⊢;exact z4i (.cons (z4y α) (RLe.refl _)) ρ u hu
theorem z7t {α:Type} [Yo α] (e:Int) (L:List α):pf 3 (Ja (y2g e L))=true:=by unfold y2g;cases (e != 0) <;> rfl
def y7l (n:Nat):Int:=bif decide ((n:Int)>400) then 4 else 0
theorem z7d {α:Type} [Yo α] (L:List α):Km L=y2g (y7l L.length) L:=by unfold Km y2g y7l;cases decide ((L.length:Int)>400) <;> rfl
theorem z1m {α:Type} [Yo α] {e:Int} (L:List α) (h:(e != 0)=true):y2g e L=[.nils,.int .i64 e]:=by unfold y2g;rw [h];rfl
theorem y5k : ∀(L:List R3) (o last:Int) (inn:Bool) (out:List R2),(swF L o last inn out).length ≤out.length+L.length
 | [],_,_,_,out=>Nat.le_refl _
 | e::r,o,last,inn,out=>by rw [y0h];have:=y5k r (o+e.c) e.a (decide (o+e.c>0)) (Vj out last inn e.a);have:=z1y out last inn e.a;simp only [List.length_cons];omega
theorem y1w (l:List R3):(Qs l).length =l.length:=by
 by_cases h:z9w l=true
 ·exact (Kv l h).1.length_eq
 ·unfold Qs;rw [dif_neg h]
theorem x3v (l:List R2):(Xm l).length ≤800:=by
 unfold Xm;by_cases h:400<l.length
 ·rw [decide_eq_true h];exact Nat.zero_le _
 ·rw [decide_eq_false h];cases l.all Qr
  ·exact Nat.zero_le _
  ·show (swV l).length ≤800;have h1:=y5k (Qs (Je l)) 0 0 false [];rw [y1w,z3h] at h1;simp only [List.length_nil] at h1;unfold swV;omega
def Vx (r:R4):Bool:=decide (r.a<r.c)&&(decide (r.b<r.d)&&(decide (r.a≥ -1000000)&&(decide (r.a≤1000000)&&(decide (r.c≥ -1000000)&&(decide (r.c≤1000000)&&(decide (r.b≥ -1000000)&&(decide (r.b≤1000000)&&(decide (r.d≥ -1000000)&&decide (r.d≤1000000)))))))))
def D4 :Dim R4 R2:=⟨R4.a,R4.c,fun r=>⟨r.b,r.d⟩,fun x x' s=>⟨x,s.a,x',s.b⟩,fun x r=>⟨r.a,r.b,x,r.d⟩,Xm,Kj⟩
theorem D4_sec (l:List R4) (x:Int):(D4.sec l x).length ≤1000:=Nat.le_trans (x3v _) (by omega)
section
variable (l:List R4) (hl:l.length≤400)
include hl
theorem v9u (i:Nat) (out:List R4) (last:List R2) (first fin x x':Int): ∀(k j:Nat) (acc:List R2),j+k=l.length→acc.length≤j→
  ∃n,∀N,Yv (Xa l) (N+n) (.to (.h2 (i:Int) (j:Int) out last first fin ((D4.cuts l).length) (Wz (Yh (D4.ends l))) x x' acc))=Yv (Xa l) N (.to (.h2 (i:Int) (l.length:Int) out last first fin ((D4.cuts l).length) (Wz (Yh (D4.ends l))) x x' (acc++D4.inn (l.drop j) x)))
 | 0,j,acc,h,ha=>by refine ⟨0,fun N=> ?_⟩;rw [List.drop_eq_nil_of_le (by omega),show D4.inn ([]:List R4) x=[] from rfl,List.append_nil,Nat.add_zero,show j=l.length by omega]
 | k+1,j,acc,h,ha=>by
  have hj:j<l.length:=by omega
  obtain ⟨n,hn⟩:=v9u i out last first fin x x' k (j+1) (acc++D4.inn [rd l j] x) (by omega) (by have:=D4.inn_length [rd l j] x;simp only [List.length_append,List.length_singleton] at*;omega)
  refine ⟨n+1,fun N=> ?_⟩;have e:D4.inn (l.drop j) x=D4.inn [rd l j] x++D4.inn (l.drop (j+1)) x:=by rw [Yp hj,←D4.inn_append];rfl
  rw [e,←Nat.add_assoc,Zv,←List.append_assoc,←hn N];by_cases h1:D4.lo (rd l j)≤x
  ·by_cases h2:x<D4.hi (rd l j)
   ·rw [D4.inn_t _ _ h1 h2];simp only [D4] at h1 h2 ⊢;simp (disch:=omega) only [Xa,Xh,Za,Zq,Zt,Yz,Yg,Yu,Yk,Zi,Zk,Zx,Yq,Zj,Nat.zero_add,decide_true,Bool.and_true,Bool.true_and,cond_true,cond_false]
   ·rw [D4.inn_f2 _ _ h2,List.append_nil];simp only [D4] at h1 h2;simp (disch:=omega) only [Xa,Xh,Yw,Za,Zq,Zt,Yz,Yg,Yu,Yk,Zi,Zk,Zx,Yq,Zj,Nat.zero_add,decide_true,Bool.and_true,Bool.true_and,cond_true,cond_false]
  ·rw [D4.inn_f1 _ _ h1,List.append_nil];simp only [D4] at h1;simp (disch:=omega) only [Xa,x6y,Za,Zq,Zt,Yz,Yg,Yu,Yk,Zi,Zk,Zx,Yq,Zj,Nat.zero_add,decide_true,Bool.and_true,Bool.true_and,cond_true,cond_false]
theorem v9t (i:Nat) (hi:i≤1000) (x x':Int) (s last:List R2) (first:Int) (inn:List R2) (hs:s.length≤1000): ∀(k j:Nat) (out:List R4),j+k=s.length→out.length≤10000000+j→
  ∃n,∀N,Yv (Xa l) (N+n) (.to (.h3 x x' s (s.length:Int) (j:Int) s (i:Int) out last first ((D4.cuts l).length) (Wz (Yh (D4.ends l))) inn))=Yv (Xa l) N (.to (.h1 ((i+1:Nat):Int) (out++(s.drop j).map (D4.put x x')) last first x' ((D4.cuts l).length) (Wz (Yh (D4.ends l)))))
 | 0,j,out,h,ho=>by have _u:=hl;refine ⟨1,fun N=> ?_⟩;rw [List.drop_eq_nil_of_le (by omega),Zv];simp (disch:=omega) only [Xa,Yw,Zk,Zx,cond_false,List.map_nil,List.append_nil]
 | k+1,j,out,h,ho=>by
  obtain ⟨n,hn⟩:=v9t i hi x x' s last first inn hs k (j+1) (out++[D4.put x x' (rd s j)]) (by omega) (by simp;omega)
  refine ⟨n+1,fun N=> ?_⟩;have:=hn N;rw [Yp (show j<s.length by omega),List.map_cons,←Nat.add_assoc,Zv];simp (disch:=omega) only [Xa,Za,Zq,Zt,Yz,Yg,Yu,Yk,Zi,Zk,Zx,Yq,Zj,Nat.zero_add,decide_true,Bool.and_true,Bool.true_and,cond_true,cond_false];rw [List.append_assoc] at this;exact this
theorem v9s (i:Nat) (hi:i≤1000) (x x' fin:Int) (s last:List R2) (first:Int) (inn:List R2): ∀(k j:Nat) (out:List R4),j+k=out.length→out.length≤10000000→
  ∃n,∀N,Yv (Xa l) (N+n) (.to (.h4 x' (j:Int) x s (i:Int) out last first fin ((D4.cuts l).length) (Wz (Yh (D4.ends l))) inn))=Yv (Xa l) N (.to (.h1 ((i+1:Nat):Int) (D4.grow out j x') last first x' ((D4.cuts l).length) (Wz (Yh (D4.ends l)))))
 | 0,j,out,h,ho=>by have _u:=hl;refine ⟨1,fun N=> ?_⟩;rw [D4.grow_nil _ _ _ (by omega),Zv];simp (disch:=omega) only [Xa,Yw,Zk,Zx,cond_false]
 | k+1,j,out,h,ho=>by
  obtain ⟨n,hn⟩:=v9s i hi x x' fin s last first inn k (j+1) (out.set j (D4.ext x' (rd out j))) (by simp;omega) (by simpa using ho)
  refine ⟨n+1,fun N=> ?_⟩;have:=hn N;rw [D4.grow_set out j _ (by omega)] at this;rw [←Nat.add_assoc,Zv];simp (disch:=omega) only [Xa,Za,Zq,Zt,Yz,Yg,Yu,Yk,Zi,Zk,Zx,Yq,Zj,Nat.zero_add,decide_true,Bool.and_true,Bool.true_and,cond_true,cond_false];exact this
theorem w8h : ∀(k i:Nat) (s:Sw R4 R2),k=(D4.cuts l).length - 1 - i→i≤(D4.cuts l).length →s.out.length≤i*1000→s.last.length≤1000→s.first≤s.out.length→
  ∃n,Yv (Xa l) n (.to (.h1 ((i+1:Nat):Int) s.out s.last (s.first:Int) s.fin ((D4.cuts l).length) (Wz (Yh (D4.ends l)))))=.ret (Km (D4.go l k i s).out)
 | 0,i,s,h,hi,ho,hla,hf=>by
  have hc:=D4.cuts_length l;refine ⟨1,?_⟩;rw [Zv,show D4.go l 0 i s=s from rfl];unfold Km;by_cases q:(s.out.length:Int)>400
  ·simp (disch:=omega) only [Xa,Yw,Ye,cond_true,cond_false,Zm]
  ·simp (disch:=omega) only [Xa,Yw,Xv,cond_true,cond_false,Zm]
 | k +1,i,s,h,hi,ho,hla,hf=>by
  have hc:=D4.cuts_length l;have hi1:i+1<(D4.cuts l).length :=by omega
  have hpl:(Wz (Yh (D4.ends l))).length =2*l.length:=by rw [Uy,Xs,D4.ends_length]
  have r0:rd (Wz (Yh (D4.ends l))) i=rd (D4.cuts l) i:=z2u _ _ (by show i<(D4.cuts l).length;omega);have r1:rd (Wz (Yh (D4.ends l))) (i+1)=rd (D4.cuts l) (i+1):=z2u _ _ (by show i+1<(D4.cuts l).length;omega);have hbig:i*1000≤1000*1000:=Nat.mul_le_mul_right _ (by omega);have hsl:=D4_sec l (rd (D4.cuts l) i);have hsd:D4.sec l (rd (D4.cuts l) i)=Xm (D4.inn l (rd (D4.cuts l) i)):=rfl;obtain ⟨n3,h3⟩:=v9u l hl (i+1) s.out s.last (s.first:Int) s.fin (rd (D4.cuts l) i) (rd (D4.cuts l) (i+1)) l.length 0 [] (Nat.zero_add _) (Nat.le_refl _);simp only [List.drop_zero,List.nil_append,z5l] at h3;have w1:y1x (D4.inn l (rd (D4.cuts l) i))=true:=rfl;have w2:Vp s.last (Xm (D4.inn l (rd (D4.cuts l) i)))=true:=decide_eq_true (by omega);have ol:=D4.one_length l (rd (D4.cuts l) i) (rd (D4.cuts l) (i+1)) s;have st0: ∀N,Yv (Xa l) (N+n3+1) (.to (.h1 ((i+1:Nat):Int) s.out s.last (s.first:Int) s.fin ((D4.cuts l).length) (Wz (Yh (D4.ends l)))))=Yv (Xa l) N (.to (.h2 ((i+1:Nat):Int) (l.length:Int) s.out s.last (s.first:Int) s.fin ((D4.cuts l).length) (Wz (Yh (D4.ends l))) (rd (D4.cuts l) i) (rd (D4.cuts l) (i+1)) (D4.inn l (rd (D4.cuts l) i)))):=fun N=>by
   rw [←h3 N,Zv];have e1:IntKind.wrap .i64 (((i+1:Nat):Int) - 1)=(i:Int):=by rw [Zs];exact Zk (by omega)
   simp (disch:=omega) only [Xa,e1,r0,r1,Za,Zq,Zt,Yz,Yg,Yu,Yk,Zi,Zk,Zx,Yq,Zj,Nat.zero_add,decide_true,Bool.and_true,Bool.true_and,cond_true,cond_false]
  rcases Yf (decide (0<(D4.sec l (rd (D4.cuts l) i)).length)&&((s.fin == rd (D4.cuts l) i)&&D4.same s.last (D4.sec l (rd (D4.cuts l) i)))) with q | q
  ·obtain ⟨n5,h5⟩:=v9s l hl (i+1) (by omega) (rd (D4.cuts l) i) (rd (D4.cuts l) (i+1)) s.fin (D4.sec l (rd (D4.cuts l) i)) s.last (s.first:Int) (D4.inn l (rd (D4.cuts l) i)) (s.out.length - s.first) s.first s.out (by omega) (by omega)
   have e:D4.one l (rd (D4.cuts l) i) (rd (D4.cuts l) (i+1)) s=⟨D4.grow s.out s.first (rd (D4.cuts l) (i+1)),s.last,s.first,rd (D4.cuts l) (i+1)⟩:=by unfold Dim.one;rw [q];rfl
   obtain ⟨n0,h0⟩:=w8h k (i+1) (D4.one l (rd (D4.cuts l) i) (rd (D4.cuts l) (i+1)) s) (by omega) (by omega) (by omega) (by rw [e];exact hla) (by rw [e];simpa [Dim.grow_length] using hf);refine ⟨n0+n5+1+n3+1,?_⟩;rw [st0 (n0+n5+1),Zv];simp only [Bool.and_eq_true,decide_eq_true_eq] at q;obtain ⟨q1,q2,q3⟩:=q;have q3':Kj s.last (Xm (D4.inn l (rd (D4.cuts l) i)))=true:=q3;rw [hsd] at q1;simp (disch:=omega) only [Xa,Za,Zq,Yw,Ye,q2,q3',w1,w2,cond_true,cond_false];rw [←hsd,h5 n0];simp only [Dim.go];rw [e] at h0 ⊢;exact h0
  ·obtain ⟨n4,h4⟩:=v9t l hl (i+1) (by omega) (rd (D4.cuts l) i) (rd (D4.cuts l) (i+1)) (D4.sec l (rd (D4.cuts l) i)) (D4.sec l (rd (D4.cuts l) i)) (s.out.length:Int) (D4.inn l (rd (D4.cuts l) i)) hsl (D4.sec l (rd (D4.cuts l) i)).length 0 s.out (Nat.zero_add _) (by omega);simp only [List.drop_zero,z5l] at h4;have e:D4.one l (rd (D4.cuts l) i) (rd (D4.cuts l) (i+1)) s=⟨s.out++(D4.sec l (rd (D4.cuts l) i)).map (D4.put (rd (D4.cuts l) i) (rd (D4.cuts l) (i+1))),D4.sec l (rd (D4.cuts l) i),s.out.length,rd (D4.cuts l) (i+1)⟩:=by unfold Dim.one;rw [q];rfl
   obtain ⟨n0,h0⟩:=w8h k (i+1) (D4.one l (rd (D4.cuts l) i) (rd (D4.cuts l) (i+1)) s) (by omega) (by omega) (by omega) (by rw [e];exact hsl) (by rw [e];simp);have hg:Yv (Xa l) 1 (.to (.h2 ((i+1:Nat):Int) (l.length:Int) s.out s.last (s.first:Int) s.fin ((D4.cuts l).length) (Wz (Yh (D4.ends l))) (rd (D4.cuts l) i) (rd (D4.cuts l) (i+1)) (D4.inn l (rd (D4.cuts l) i))))=.to (.h3 (rd (D4.cuts l) i) (rd (D4.cuts l) (i+1)) (D4.sec l (rd (D4.cuts l) i)) ((D4.sec l (rd (D4.cuts l) i)).length :Int) 0 (D4.sec l (rd (D4.cuts l) i)) ((i+1:Nat):Int) s.out (D4.sec l (rd (D4.cuts l) i)) (s.out.length:Int) ((D4.cuts l).length) (Wz (Yh (D4.ends l))) (D4.inn l (rd (D4.cuts l) i))):=by
    rw [show (1:Nat)=0+1 from rfl,Zv];rw [hsd] at q ⊢;have e3:D4.same s.last (Xm (D4.inn l (rd (D4.cuts l) i)))=Kj s.last (Xm (D4.inn l (rd (D4.cuts l) i))):=rfl;rw [e3] at q;by_cases q1:0<(Xm (D4.inn l (rd (D4.cuts l) i))).length
    ·rw [decide_eq_true q1,Bool.true_and] at q;rcases Yf (s.fin == rd (D4.cuts l) i) with q2 | q2
     ·rw [q2,Bool.true_and] at q;simp (disch:=omega) only [Xa,Za,Zq,Yw,Ye,q2,q,w1,w2,cond_true,cond_false];rfl
     ·simp (disch:=omega) only [Xa,Za,Zq,Yw,Ye,q2,w1,w2,cond_true,cond_false];rfl
    ·simp (disch:=omega) only [Xa,Za,Zq,Yw,Xv,w1,w2,cond_true,cond_false];rfl
   refine ⟨n0+n4+1+n3+1,?_⟩;rw [st0 (n0+n4+1),z6q _ (n0+n4) 1,hg,h4 n0];simp only [Dim.go];rw [e] at h0 ⊢;exact h0
theorem v9v : ∀(k i:Nat) (acc:List Int),i+k=l.length→acc=D4.ends (l.take i)→ ∃n,Yv (Xa l) n (.to (.h0 (i:Int) acc))=.ret (Km (D4.go l ((D4.cuts l).length - 1) 0 ⟨[],[],0,0⟩).out)
 | 0,i,acc,h,ha=>by
  have e:acc=D4.ends l:=by rw [ha,List.take_of_length_le (by omega)]
  subst e;have hle:=D4.ends_length l;obtain ⟨n,hn⟩:=w8h l hl ((D4.cuts l).length - 1) 0 ⟨[],[],0,0⟩ (by omega) (Nat.zero_le _) (Nat.zero_le _) (Nat.zero_le _) (Nat.zero_le _);refine ⟨n+1,?_⟩;rw [Zv];simp (disch:=omega) only [Xa,Wg,Qx,z8o,Yw,Yu,Yk,decide_true,cond_true,cond_false];exact hn
 | k+1,i,acc,h,ha=>by
  have hle:=D4.ends_length (l.take i);have fH:acc.length≤2*i:=by rw [ha,hle];simp;omega
  obtain ⟨n,hn⟩:=v9v k (i+1) (acc++D4.ends [rd l i]) (by omega) (by
   rw [ha,List.take_add_one];have:l[i]? =some (rd l i):=by rw [Xu (show i<l.length by omega)];exact List.getElem?_eq_getElem _
   rw [this,D4.ends_append];rfl)
  refine ⟨n+1,?_⟩;rw [Zv];simp (disch:=omega) only [Xa,Za,Zq,Zt,Yz,Yg,Yu,Yk,Zi,Zk,Zx,Yq,Zj,Nat.zero_add,decide_true,Bool.and_true,Bool.true_and,cond_true,cond_false];exact hn
end
def v9y (l:List R4):Int:=y7l (D4.out l).length
def Wu (l:List R4):List R4:=y9k (v9y l) (D4.out l)
def z0e (l:List R4):Int:=v9y l
def Kk (l:List R4):Bool:=decide (l.length≤400)
theorem u4d (l:List R4) (h:Kk l=true): ∃n,Yv (Xa l) n (y8z l)=.ret (y2g (v9y l) (D4.out l)):=by rw [show y2g (v9y l) (D4.out l)=Km (D4.out l) from (z7d _).symm];exact v9v l (of_decide_eq_true h) l.length 0 [] (Nat.zero_add _) rfl
def u0r (a b c d:Int):Bool:=Vx ⟨a,b,c,d⟩
theorem u0q (a b c d:Int): ∃N,Yv (x3n a b c d) N (y0g a b c d)=.ret [.bool (u0r a b c d)]:=⟨0,by
 unfold y0g u0r Vx;simp only [y3y];cases decide (a<c) <;> cases decide (b<d) <;> cases decide (a≥ -1000000) <;> cases decide (a≤1000000) <;> cases decide (c≥ -1000000) <;> cases decide (c≤1000000) <;> cases decide (b≥ -1000000) <;> cases decide (b≤1000000) <;> cases decide (d≥ -1000000) <;> rfl⟩
def fVl4 :List AVal→Option (AVal×Bool)
 | [.agg [.int .i64 aV,.int .i64 aW,.int .i64 aX,.int .i64 bS]]=>some (.bool (u0r aV aW aX bS),true)
 | _=>none
theorem u5a {S:Specs} (hS:Zu prog S):Zu prog (S.with x9h fVl4):=by
 refine z3g hS (by kernel_rfl) fun args v h=> ?_;unfold fVl4 at h;split at h
 ·rename_i aV aW aX bS;simp only [Option.some.injEq,Prod.mk.injEq,and_true] at h;subst h;obtain ⟨N,hN⟩:=u0q aV aW aX bS;exact ⟨_,_,(.cons (.refl _) .nil),rfl,v1m aV aW aX bS N _ hN,3,rfl⟩
 ·cases h
def fMad :List AVal→Option (AVal×Bool)
 | [a0]=>match asL R4 a0 with
  | some (L0,g0,n0)=>some (.tup [.dat (Wu L0).length (Zz (Wu L0)),.int .i64 (z0e L0)],isT R4 n0 g0&&(Kk L0))
  | _=>none
 | _=>none
theorem u5s {S:Specs} (hS:Zu prog S):Zu prog (S.with w7o fMad):=by
 refine w9m hS (by kernel_rfl) fun args v h=> ?_;unfold fMad at h;split at h
 ·rename_i a0;split at h
  ·rename_i L0 g0 n0 e0;simp only [Option.some.injEq,Prod.mk.injEq,Bool.and_eq_true] at h;obtain ⟨rfl,ho0,hw⟩:=h;obtain ⟨N,hN⟩:=u4d L0 hw;exact ⟨_,_,(.cons (asL_le e0 ho0) .nil),z3s _ _,v4m L0 N _ hN,3,z7t _ _⟩
  ·cases h
 ·cases h
def T6v :Specs:=(T6.with x9h fVl4)
theorem T6v_ok :Zu prog T6v:=(u5a Jd)
def T6m :Specs:=(T6v.with w7o fMad)
theorem y4m :Zu prog T6m:=(u5s T6v_ok)
end Go.Am
namespace Go.Am
open Go.Proofs.Tryz
open Go.Proofs
inductive rgmS where
 | h0 (v8:Int)
def rgmC (l0:List R4):rgmS→Cfg
 | .h0 v8=>⟨⟨19,0,true⟩,none,(Zd prog 154 [1,0,1,0,0] 0),none,(Zy prog 5),⟨Ya [(0,(.dat l0.length (Zz l0))),(1,(.fn 119 [])),(7,(ii (l0.length:Int))),(8,(ii v8))],Uq [] 0,0,[],true⟩,[⟨⟨9,0,true⟩,(Up prog 118 [1,0] 2),(Zd prog 118 [1,0] 1),none,(Zy prog 5),Ya [(5,(.dat l0.length (Zz l0))),(6,(.fn 119 []))]⟩,⟨⟨13,0,true⟩,(Up prog 65 [1,1,0,0] 1),(Zd prog 65 [1,1,0,0] 1),none,(Zy prog 15),Ya [(0,(.dat l0.length (Zz l0))),(7,(.dat l0.length (Zz l0)))]⟩],.leaf⟩
def rgmN0 :List (Option (List Nat)):=[some [0,1,7,8],some [5,6],some [0,7]]
def rgmM0 :List (Option (List Nat)):=[]
def z2r (l0:List R4):rgmS→Xf rgmS
 | .h0 v8=>(bif (decide (v8<(l0.length:Int))) then (bif ((decide (0≤v8∧v8<(l0.length:Int)))&&true) then (bif (!(u0r (rd l0 v8.toNat).a (rd l0 v8.toNat).b (rd l0 v8.toNat).c (rd l0 v8.toNat).d)) then (bif (decide (v8≥0)) then (.ret [.nils,(.int .i64 8)]) else (bif (Kk (cvT l0)) then (.ret [(.dat (Wu (cvT l0)).length (Zz (Wu (cvT l0)))),(.int .i64 (z0e (cvT l0)))]) else .stuck)) else (.to (.h0 (IntKind.wrap .i64 (v8+1))))) else .stuck) else (bif (Kk (cvT l0)) then (.ret [(.dat (Wu (cvT l0)).length (Zz (Wu (cvT l0)))),(.int .i64 (z0e (cvT l0)))]) else .stuck))
def z5z (l0:List R4):Xf rgmS:=(bif (decide ((l0.length:Int)>400)) then (.ret [.nils,(.int .i64 4)]) else (.to (.h0 0)))
theorem w1x (l0:List R4): ∀s,Xj prog (Zy prog 65) (rgmC l0) (rgmC l0 s) (z2r l0 s)
 | .h0 v8=>(lb (fun k0=>(lo fun aG=>(lb (fun k1=>(lb (fun k2=>(lr 13 65 [1,1,0,1,0,0] 1 15 [(2,.nils),(3,(ii 8))] (sl y4m 54 [] ⟨[],[],[some [2,3]],[]⟩ ⟨[],[],[]⟩ (trs 3 []) (tt k2 (tt k1 (ww aG (tt k0 nn))))))) (fun k2=>(lo fun o0=>(lr 13 3 [1,1,1,1,1,1,1,0] 1 15 [(2,(.dat (Wu (cvT l0)).length (Zz (Wu (cvT l0))))),(3,(ii (z0e (cvT l0))))] (sl y4m 59 [] ⟨[],[],[some [2,3]],[]⟩ ⟨[],[],[]⟩ (bl 3 3) (pp (pp (xr l0) (xw o0)) (tt k2 (tt k1 (ww aG (tt k0 nn))))))))))) (fun k1=>(sl y4m 44 [] ⟨[],[],rgmN0,rgmM0⟩ ⟨[],[],[]⟩ (bl 2 1) (tt k1 (ww aG (tt k0 nn)))))))) (fun k0=>(lo fun o0=>(lr 13 3 [1,1,1,1,1,1,1,0] 1 15 [(2,(.dat (Wu (cvT l0)).length (Zz (Wu (cvT l0))))),(3,(ii (z0e (cvT l0))))] (sl y4m 28 [] ⟨[],[],[some [2,3]],[]⟩ ⟨[],[],[]⟩ (bl 2 0) (pp (pp (xr l0) (xw o0)) (tt k0 nn)))))))
theorem x4t (l0:List R4):Xj prog (Zy prog 65) (rgmC l0) (Ze prog 65 [(.dat l0.length (Zz l0))] true []) (z5z l0):=(lb (fun k0=>(lr 13 65 [1,0,1,0,0] 1 15 [(2,.nils),(3,(ii 4))] (sl y4m 18 [] ⟨[],[],[some [2,3]],[]⟩ ⟨[],[],[]⟩ [true] (tt k0 nn)))) (fun k0=>(sl y4m 41 [] ⟨[],[],rgmN0,rgmM0⟩ ⟨[],[],[]⟩ [false] (tt k0 nn))))
theorem v2u (l0:List R4) (n:Nat) (vs:List AVal) (h:Yv (z2r l0) n (z5z l0)=.ret vs):Ky prog (Zy prog 65) (Ze prog 65 [(.dat l0.length (Zz l0))] true []) vs:=by have:=Zr (w1x l0) n _ (x4t l0);rwa [h] at this
end Go.Am
namespace Go.Am
open Go.Proofs.Tryz
open Go.Proofs
open Go.Sort Go.Shelf Go.RowKit Go.Lib
theorem v8a (l:List R4) (hl:l.length≤400): ∀(k i:Nat),i+k=l.length→(∀s∈l.take i,Vx s=true)→ ∃n,Yv (z2r l) n (.to (.h0 (i:Int)))=.ret (bif l.all Vx then [.dat (Wu l).length (Zz (Wu l)),.int .i64 (z0e l)] else [.nils,.int .i64 8])
 | 0,i,h,ht=>by have hv:l.all Vx=true:=List.all_eq_true.2 fun s hs=>ht s (by rw [List.take_of_length_le (by omega)];exact hs);have w:Kk l=true:=decide_eq_true hl;refine ⟨1,?_⟩;rw [Zv,hv,cond_true];simp (disch:=omega) only [z2r,Za,w,Yw,cond_true,cond_false,Zm]
 | k+1,i,h,ht=>by
  have hi:i<l.length:=by omega
  have hs:z2r l (.h0 (i:Int))=bif Vx (rd l i) then .to (.h0 ((i+1:Nat):Int)) else .ret [.nils,.int .i64 8]:=by have e:u0r (rd l i).a (rd l i).b (rd l i).c (rd l i).d =Vx (rd l i):=rfl;simp (disch:=omega) only [z2r,e,z5m,x2l,x2m,Yz,Zk,Zx,Zj,Bool.and_true,cond_true,cond_false]
  rcases Yf (Vx (rd l i)) with q | q
  ·obtain ⟨n,hn⟩:=v8a l hl k (i+1) (by omega) (fun s hs=>by
    rw [List.take_add_one] at hs;have e:l[i]? =some (rd l i):=by rw [Xu hi];exact List.getElem?_eq_getElem _
    rw [e] at hs;simp only [Option.toList_some,List.mem_append,List.mem_singleton] at hs;rcases hs with hs | rfl
    ·exact ht s hs
    ·exact q)
   refine ⟨n+1,?_⟩;rw [Zv,hs,q,cond_true];exact hn
  ·have hv:l.all Vx=false:=Bool.eq_false_iff.2 fun e=>by have:=List.all_eq_true.1 e (rd l i) (by rw [Xu hi];exact List.getElem_mem hi);rw [this] at q;cases q
   refine ⟨1,?_⟩;rw [Zv,hv,cond_false,hs,q,cond_false,Zm]
theorem v2t (l:List R4): ∃n,Yv (z2r l) n (z5z l)=.ret (bif decide (400<l.length) then [.nils,.int .i64 4] else bif l.all Vx then [.dat (Wu l).length (Zz (Wu l)),.int .i64 (z0e l)] else [.nils,.int .i64 8]):=by
 unfold z5z;by_cases h:400<l.length
 ·refine ⟨0,?_⟩;rw [decide_eq_true h,Ye (show (l.length:Int)>400 by omega)];rfl
 ·obtain ⟨n,hn⟩:=v8a l (by omega) l.length 0 (Nat.zero_add _) (fun s hs=>by simp at hs);refine ⟨n,?_⟩;rw [decide_eq_false h,Xv (show¬(l.length:Int)>400 by omega),cond_false,cond_false];exact hn
def Zg (l:List R4):List R4:=bif decide (400<l.length) then [] else bif l.all Vx then (bif decide (((D4.out l).length :Int)>400) then [] else D4.out l) else []
def Xp (l:List R4):Int:=bif decide (400<l.length) then 4 else bif l.all Vx then (bif decide (((D4.out l).length :Int)>400) then 4 else 0) else 8
def Vs (l:List R4):Bool:=true
theorem u2r (l:List R4) (h:Vs l=true): ∃n,Yv (z2r l) n (z5z l)=.ret (bif decide (400<l.length) then [.nils,.int .i64 4] else bif l.all Vx then [.dat (Zg l).length (Zz (Zg l)),.int .i64 (Xp l)] else [.nils,.int .i64 8]):=by
 obtain ⟨n,hn⟩:=v2t l;refine ⟨n,hn.trans ?_⟩;cases h1:decide (400<l.length) <;> cases h2:l.all Vx <;> simp only [cond_true,cond_false];have e0:Wu l=Zg l:=by unfold Wu v9y y9k y7l Zg;rw [h1,h2];cases decide (((D4.out l).length :Int)>400) <;> rfl
 have e1:z0e l=Xp l:=by unfold z0e v9y y7l Xp;rw [h1,h2];rfl
 rw [e0,e1]
def fRgm :List AVal→Option (AVal×Bool)
 | [a0]=>match asL R4 a0 with
  | some (L0,g0,n0)=>some (.tup [.dat (Zg L0).length (Zz (Zg L0)),.int .i64 (Xp L0)],isT R4 n0 g0&&(Vs L0))
  | _=>none
 | _=>none
theorem u5h {S:Specs} (hS:Zu prog S):Zu prog (S.with x9j fRgm):=by
 refine w9m hS (by kernel_rfl) fun args v h=> ?_;unfold fRgm at h;split at h
 ·rename_i a0;split at h
  ·rename_i L0 g0 n0 e0;simp only [Option.some.injEq,Prod.mk.injEq,Bool.and_eq_true] at h;obtain ⟨rfl,ho0,hw⟩:=h;obtain ⟨N,hN⟩:=u2r L0 hw;refine ⟨_,_,(.cons (asL_le e0 ho0) .nil),?_,v2u L0 N _ hN,3,?_⟩
   ·cases h1:decide (400<L0.length) <;> cases h2:L0.all Vx <;> simp only [Zg,Xp,h1,h2,cond_true,cond_false]
    ·exact fun ρ u hu=>z4i (.cons (z4y R4) (RLe.refl _)) ρ u hu
    ·exact fun ρ u hu=>hu
    ·exact fun ρ u hu=>z4i (.cons (z4y R4) (RLe.refl _)) ρ u hu
    ·exact fun ρ u hu=>z4i (.cons (z4y R4) (RLe.refl _)) ρ u hu
   ·cases decide (400<L0.length) <;> cases L0.all Vx <;> rfl
  ·cases h
 ·cases h
def T7 :Specs:=(T6m.with x9j fRgm)
theorem x3e :Zu prog T7:=(u5h y4m)
end Go.Am
namespace Go.Am
open Go.Proofs.Tryz
open Go.Proofs
inductive vl6S where
def vl6C (aV:Int) (aW:Int) (aX:Int) (bS:Int) (cC:Int) (cD:Int):vl6S→Cfg
 :=nofun
def x3l (aV:Int) (aW:Int) (aX:Int) (bS:Int) (cC:Int) (cD:Int):vl6S→Xf vl6S
 :=nofun
def y0f (aV:Int) (aW:Int) (aX:Int) (bS:Int) (cC:Int) (cD:Int):Xf vl6S:=(bif (decide (aV<bS)) then (bif (decide (aW<cC)) then (bif (decide (aX<cD)) then (bif (decide ((z5c (z5c aV aW) aX)≥(-1000000))) then (bif (decide ((Kq (Kq aV aW) aX)≤1000000)) then (bif (decide ((z5c (z5c bS cC) cD)≥(-1000000))) then (.ret [(.bool (decide ((Kq (Kq bS cC) cD)≤1000000)))]) else (.ret [(.bool false)])) else (.ret [(.bool false)])) else (.ret [(.bool false)])) else (.ret [(.bool false)])) else (.ret [(.bool false)])) else (.ret [(.bool false)]))
theorem w0r (aV:Int) (aW:Int) (aX:Int) (bS:Int) (cC:Int) (cD:Int): ∀s,Xj prog (Zy prog 94) (vl6C aV aW aX bS cC cD) (vl6C aV aW aX bS cC cD s) (x3l aV aW aX bS cC cD s)
 :=nofun
theorem x3m (aV:Int) (aW:Int) (aX:Int) (bS:Int) (cC:Int) (cD:Int):Xj prog (Zy prog 94) (vl6C aV aW aX bS cC cD) (Ze prog 94 [(.agg [(.int .i64 aV),(.int .i64 aW),(.int .i64 aX),(.int .i64 bS),(.int .i64 cC),(.int .i64 cD)])] true []) (y0f aV aW aX bS cC cD):=(lb (fun k0=>(lb (fun k1=>(lb (fun k2=>(lb (fun k3=>(lb (fun k4=>(lb (fun k5=>(lr 38 3 [1,1,1,1,1,1,1,0] 1 3 [(2,(.bool (decide ((Kq (Kq bS cC) cD)≤1000000))))] (sl x3e 100 [] ⟨[],[],[some [2]],[]⟩ ⟨[],[],[]⟩ (trs 36 []) (tt k5 (tt k4 (tt k3 (tt k2 (tt k1 (tt k0 nn))))))))) (fun k5=>(lr 38 3 [1,1,1,1,1,1,1,0] 1 3 [(2,(.bool false))] (sl x3e 100 [] ⟨[],[],[some [2]],[]⟩ ⟨[],[],[]⟩ (trs 28 [false,false,false,false,false,false,false,false]) (tt k5 (tt k4 (tt k3 (tt k2 (tt k1 (tt k0 nn))))))))))) (fun k4=>(lr 38 3 [1,1,1,1,1,1,1,0] 1 3 [(2,(.bool false))] (sl x3e 72 [] ⟨[],[],[some [2]],[]⟩ ⟨[],[],[]⟩ (trs 25 [false,false,false]) (tt k4 (tt k3 (tt k2 (tt k1 (tt k0 nn)))))))))) (fun k3=>(lr 38 3 [1,1,1,1,1,1,1,0] 1 3 [(2,(.bool false))] (sl x3e 72 [] ⟨[],[],[some [2]],[]⟩ ⟨[],[],[]⟩ (trs 17 [false,false,false,false,false,false,false,false,false,false,false]) (tt k3 (tt k2 (tt k1 (tt k0 nn))))))))) (fun k2=>(lr 38 3 [1,1,1,1,1,1,1,0] 1 3 [(2,(.bool false))] (sl x3e 44 [] ⟨[],[],[some [2]],[]⟩ ⟨[],[],[]⟩ (trs 14 [false,false,false,false,false,false]) (tt k2 (tt k1 (tt k0 nn)))))))) (fun k1=>(lr 38 3 [1,1,1,1,1,1,1,0] 1 3 [(2,(.bool false))] (sl x3e 44 [] ⟨[],[],[some [2]],[]⟩ ⟨[],[],[]⟩ (trs 7 [false,false,false,false,false,false,false,false,false,false,false,false,false]) (tt k1 (tt k0 nn))))))) (fun k0=>(lr 38 3 [1,1,1,1,1,1,1,0] 1 3 [(2,(.bool false))] (sl x3e 44 [] ⟨[],[],[some [2]],[]⟩ ⟨[],[],[]⟩ [false,false,false,false,false,false,false,false,false,false,false,false,false,false,false,false,false,false,false,false] (tt k0 nn)))))
theorem v1l (aV:Int) (aW:Int) (aX:Int) (bS:Int) (cC:Int) (cD:Int) (n:Nat) (vs:List AVal) (h:Yv (x3l aV aW aX bS cC cD) n (y0f aV aW aX bS cC cD)=.ret vs):Ky prog (Zy prog 94) (Ze prog 94 [(.agg [(.int .i64 aV),(.int .i64 aW),(.int .i64 aX),(.int .i64 bS),(.int .i64 cC),(.int .i64 cD)])] true []) vs:=by have:=Zr (w0r aV aW aX bS cC cD) n _ (x3m aV aW aX bS cC cD);rwa [h] at this
end Go.Am
namespace Go.Am
open Go.Proofs.Tryz
open Go.Proofs
open Go.Sort Go.Shelf Go.RowKit Go.Lib
def z0m (r:R6):Bool:=decide (r.a<r.d)&&(decide (r.b<r.e)&&(decide (r.c<r.f)&&(decide ((z5c (z5c r.a r.b) r.c)≥(-1000000))&&(decide ((Kq (Kq r.a r.b) r.c)≤1000000)&&(decide ((z5c (z5c r.d r.e) r.f)≥(-1000000))&&decide ((Kq (Kq r.d r.e) r.f)≤1000000))))))
def u0p (a b c d e f:Int):Bool:=z0m ⟨a,b,c,d,e,f⟩
theorem u0o (a b c d e f:Int): ∃N,Yv (x3l a b c d e f) N (y0f a b c d e f)=.ret [.bool (u0p a b c d e f)]:=⟨0,by
 unfold y0f u0p z0m;simp only [y3y];cases decide (a<d) <;> cases decide (b<e) <;> cases decide (c<f) <;> cases decide ((z5c (z5c a b) c)≥(-1000000)) <;> cases decide ((Kq (Kq a b) c)≤1000000) <;> cases decide ((z5c (z5c d e) f)≥(-1000000)) <;> rfl⟩
def fVl6 :List AVal→Option (AVal×Bool)
 | [.agg [.int .i64 aV,.int .i64 aW,.int .i64 aX,.int .i64 bS,.int .i64 cC,.int .i64 cD]]=>some (.bool (u0p aV aW aX bS cC cD),true)
 | _=>none
theorem u4z {S:Specs} (hS:Zu prog S):Zu prog (S.with x9g fVl6):=by
 refine z3g hS (by kernel_rfl) fun args v h=> ?_;unfold fVl6 at h;split at h
 ·rename_i aV aW aX bS cC cD;simp only [Option.some.injEq,Prod.mk.injEq,and_true] at h;subst h;obtain ⟨N,hN⟩:=u0o aV aW aX bS cC cD;exact ⟨_,_,(.cons (.refl _) .nil),rfl,v1l aV aW aX bS cC cD N _ hN,3,rfl⟩
 ·cases h
def T7v :Specs:=(T7.with x9g fVl6)
theorem Vk :Zu prog T7v:=(u4z x3e)
end Go.Am
namespace Go.Am
open Go.Proofs.Tryz
open Go.Proofs
inductive sckS where
 | h0 (v8:Int)
 | h1 (v16:Int) (aA:List Int)
 | h2 (v4:Int) (aF:List R6) (aQ:List R4) (aZ:Int) (bA:Int) (aE:Nat) (aH:List Int)
 | h3 (v4:Int) (v38:Int) (aF:List R6) (aQ:List R4) (aZ:Int) (bA:Int) (aE:Nat) (aH:List Int) (aO:Int) (bC:Int) (aB:List R4)
 | h4 (v1:Int) (v2:Int) (v72:List R4) (v73:Int) (v74:Int) (bL:List R4) (aS:Int) (aD:List R6) (bD:List R4) (bE:Int) (aE:Nat) (aH:List Int) (aO:List R4)
 | h5 (v2:Int) (v8:Int) (bY:Int) (bL:List R4) (aS:Int) (aD:List R6) (bD:List R4) (bE:Int) (bV:Int) (bH:Nat) (bQ:List Int) (aB:List R4)
abbrev y5u (aD:List R6) (v8:Int) (v2:Int):=(aD.set (0+(tn v8)) (R6.mk (rd aD (0+(tn v8))).a (rd aD (0+(tn v8))).b (rd aD (0+(tn v8))).c (rd aD (0+(tn v8))).d (rd aD (0+(tn v8))).e v2))
def w5o (l0:List R6):AFr:=⟨⟨25,0,true⟩,(Up prog 51 [1,1,1,0,0] 3),(Zd prog 51 [1,1,1,0,0] 1),none,(Zy prog 3),Ya [(0,(.dat l0.length (Zz l0))),(11,(.agg [.nilf])),(13,(.sl 8 0 1 (.un 1)))]⟩
abbrev y5t (aA:List Int):=(Wz (Zc aA.length (cOf (Zz (Yh (Zc aA.length (cOf (Zz aA))))))))
abbrev y5s (aB:List R4) (l0:List R6) (v38:Int):=(aB++[(R4.mk (rd l0 (tn v38)).a (rd l0 (tn v38)).b (rd l0 (tn v38)).d (rd l0 (tn v38)).e)])
abbrev y5r (aD:List R6) (v72:List R4) (v74:Int) (v1:Int) (v2:Int):=(aD++[(R6.mk (rd v72 (tn v74)).a (rd v72 (tn v74)).b v1 (rd v72 (tn v74)).c (rd v72 (tn v74)).d v2)])
def v7j :=(y4p [(0,⟨.ready,none,65,Ya [(2,(.ptr 1 0)),(4,(.ptr 2 0)),(5,(.ptr 3 0)),(6,(.ptr 4 0))],[15],(Vy prog 95 [1,1,0,1,0,0]),(Vy prog 95 [1,1,0,1,0,1])⟩)])
def z0p (l0:List R6):AVal:=(.dat l0.length (Zz l0))
def v7i :AFr:=⟨⟨65,0,true⟩,none,(.inRangeFunc 0::(Zd prog 95 [1,1,0,1,0] 1)),none,(Zy prog 95),Ya [(4,(.ptr 2 0)),(5,(.ptr 3 0)),(6,(.ptr 4 0))]⟩
abbrev y5q (aA:List Int) (l0:List R6) (v16:Int):=(aA++[(rd l0 (tn v16)).c,(rd l0 (tn v16)).f])
def sckC (l0:List R6):sckS→Cfg
 | .h0 v8=>⟨⟨19,0,true⟩,none,(Zd prog 133 [1,0,1,0,0] 0),none,(Zy prog 5),⟨Ya [(0,(z0p l0)),(1,(.fn 98 [])),(7,(ii (l0.length:Int))),(8,(ii v8))],Uq [] 0,0,[],true⟩,[⟨⟨9,0,true⟩,(Up prog 89 [1,0] 2),(Zd prog 89 [1,0] 1),none,(Zy prog 5),Ya [(5,(z0p l0)),(6,(.fn 98 []))]⟩,⟨⟨25,0,true⟩,(Up prog 51 [1,1,0,0] 1),(Zd prog 51 [1,1,0,0] 1),none,(Zy prog 3),Ya [(0,(z0p l0)),(8,(z0p l0))]⟩],.leaf⟩
 | .h1 v16 aA=>⟨⟨36,0,true⟩,none,(Zd prog 136 [1,1,0,1,0,0,1,1,0,0,1,1,0,0] 0),none,(Zy prog 3),⟨Ya [(1,(.ptr 0 0)),(3,(.ptr 2 0)),(8,(.sl 1 0 1 (.un 1))),(9,(ii 1)),(10,(ii 0)),(14,(z0p l0)),(15,(ii (l0.length:Int))),(16,(ii v16))],Uq [⟨[(.sl 1 0 1 (.un 1))],166,none⟩,⟨[(z0p l0)],22,none⟩,⟨[(.sla 7 1 0 aA.length (.un 1))],93,none⟩,⟨[.nilf],117,none⟩,⟨[.nils],38,none⟩,⟨[(ii 0)],26,none⟩,⟨[.nils,.nils,(ii 0),(ii 0)],168,none⟩,⟨rows aA.length (Zz aA),3,some ⟨1,aA.length,(Zz aA)⟩⟩] 0,8,[],true⟩,[⟨⟨65,0,true⟩,(Up prog 95 [1,1,0,0] 1),(Zd prog 95 [1,1,0,0] 1),none,(Zy prog 95),Ya [(2,(.ptr 3 0)),(4,(.ptr 4 0)),(5,(.ptr 5 0)),(6,(.ptr 6 0)),(13,(.sl 1 0 1 (.un 1)))]⟩,⟨⟨25,0,true⟩,(Up prog 51 [1,1,1,0,0] 3),(Zd prog 51 [1,1,1,0,0] 1),none,(Zy prog 3),Ya [(0,(z0p l0)),(11,(.agg [.nilf])),(13,(.sl 1 0 1 (.un 1)))]⟩],.leaf⟩
 | .h2 v4 aF aQ aZ bA aE aH=>⟨⟨86,0,true⟩,none,(Zd prog 171 [1,0,0] 0),none,[],⟨Ya [(0,(.yld 0)),(1,(.ptr 5 0)),(2,(.ptr 7 0)),(4,(ii v4))],z9j [(1,⟨[.nilf],117,none⟩),(2,⟨[.nils],38,none⟩),(3,⟨[(ii 0)],26,none⟩),(4,⟨[(.sla 9 6 0 aF.length (.un 6)),(.dat aQ.length (Zz aQ)),(ii aZ),(ii bA)],168,none⟩),(5,⟨[(.sla 6 1 0 aE (.un 1))],93,none⟩),(6,⟨rows aH.length (Zz aH),3,some ⟨1,aH.length,(Zz aH)⟩⟩),(7,⟨[(.sl 8 0 1 (.un 1))],166,none⟩),(8,⟨[(z0p l0)],22,none⟩),(9,⟨rows aF.length (Zz aF),67,some ⟨6,aF.length,(Zz aF)⟩⟩)],10,[],true⟩,[v7i,(w5o l0)],v7j⟩
 | .h3 v4 v38 aF aQ aZ bA aE aH aO bC aB=>⟨⟨86,0,true⟩,none,(Zd prog 171 [1,0,0,1,0,0,1,0,1,0,0,1,1,0,0,1,1,0,0] 0),none,[],⟨Ya [(0,(.yld 0)),(1,(.ptr 5 0)),(2,(.ptr 7 0)),(4,(ii v4)),(5,(.ptr 9 0)),(6,(ii 0)),(29,(.sl 8 0 1 (.un 1))),(30,(ii 1)),(31,(ii 0)),(36,(z0p l0)),(37,(ii (l0.length:Int))),(38,(ii v38))],z9j [(1,⟨[.nilf],117,none⟩),(2,⟨[.nils],38,none⟩),(3,⟨[(ii 0)],26,none⟩),(4,⟨[(.sla 12 6 0 aF.length (.un 6)),(.dat aQ.length (Zz aQ)),(ii aZ),(ii bA)],168,none⟩),(5,⟨[(.sla 6 1 0 aE (.un 1))],93,none⟩),(6,⟨rows aH.length (Zz aH),3,some ⟨1,aH.length,(Zz aH)⟩⟩),(7,⟨[(.sl 8 0 1 (.un 1))],166,none⟩),(8,⟨[(z0p l0)],22,none⟩),(9,⟨[(ii aO),(ii bC),(.sl 10 0 1 (.ex 1))],173,none⟩),(10,⟨[(.sla 11 4 0 aB.length (.un 4))],99,none⟩),(11,⟨rows aB.length (Zz aB),88,some ⟨4,aB.length,(Zz aB)⟩⟩),(12,⟨rows aF.length (Zz aF),67,some ⟨6,aF.length,(Zz aF)⟩⟩)],13,[],true⟩,[v7i,(w5o l0)],v7j⟩
 | .h4 v1 v2 v72 v73 v74 bL aS aD bD bE aE aH aO=>⟨⟨101,0,true⟩,none,(Zd prog 137 [1,1,1,0,0] 0),none,[],⟨Ya [(0,(.ptr 0 0)),(1,(ii v1)),(2,(ii v2)),(72,(.dat v72.length (Zz v72))),(73,(ii v73)),(74,(ii v74))],z9j [(0,⟨[(.sla 10 6 0 aD.length (.un 6)),(.dat bD.length (Zz bD)),(ii bE),(ii v2)],168,none⟩),(2,⟨[.nilf],117,none⟩),(3,⟨[.nils],38,none⟩),(4,⟨[(ii 0)],26,none⟩),(5,⟨[(.sla 6 1 0 aE (.un 1))],93,none⟩),(6,⟨rows aH.length (Zz aH),3,some ⟨1,aH.length,(Zz aH)⟩⟩),(7,⟨[(.sl 8 0 1 (.un 1))],166,none⟩),(8,⟨[(z0p l0)],22,none⟩),(9,⟨[(.dat aO.length (Zz aO))],99,none⟩),(10,⟨rows aD.length (Zz aD),67,some ⟨6,aD.length,(Zz aD)⟩⟩)],11,[],true⟩,[⟨⟨65,0,true⟩,(Up prog 95 [1,1,0,1,0,1,0,1,1,1] 5),(Zd prog 95 [1,1,0,1,0,1,0,1,1,1] 1),(some 1),[],Ya [(6,(.ptr 0 0)),(54,(ii v1)),(56,(ii v2)),(57,(.dat bL.length (Zz bL)))]⟩,⟨⟨86,0,true⟩,(Up prog 171 [1,0,0,1,0,0,1,1,0] 2),(Zd prog 171 [1,0,0,1,0,0,1,1,0] 1),none,[],Ya [(0,(.yld 1)),(1,(.ptr 5 0)),(2,(.ptr 7 0)),(4,(ii aS)),(82,(.yld 1)),(83,(.agg [(ii v1),(ii v2),(.sl 9 0 1 (.ex 1))]))]⟩,⟨⟨65,0,true⟩,none,(.inRangeFunc 1::(Zd prog 95 [1,1,0,1,0] 1)),none,(Zy prog 95),Ya [(4,(.ptr 3 0)),(5,(.ptr 4 0)),(6,(.ptr 0 0))]⟩,(w5o l0)],(y4p [(1,⟨.busy,none,65,Ya [(2,(.ptr 2 0)),(4,(.ptr 3 0)),(5,(.ptr 4 0)),(6,(.ptr 0 0))],[15],(Vy prog 95 [1,1,0,1,0,0]),(Vy prog 95 [1,1,0,1,0,1])⟩)])⟩
 | .h5 v2 v8 bY bL aS aD bD bE bV bH bQ aB=>⟨⟨101,0,true⟩,none,(Zd prog 137 [0,1,0,0,1,0,0] 0),none,[],⟨Ya [(0,(.ptr 0 0)),(2,(ii v2)),(8,(ii v8))],z9j [(0,⟨[(.sla 1 6 0 aD.length (.un 6)),(.dat bD.length (Zz bD)),(ii bE),(ii bV)],168,none⟩),(1,⟨rows aD.length (Zz aD),67,some ⟨6,aD.length,(Zz aD)⟩⟩),(3,⟨[.nilf],117,none⟩),(4,⟨[.nils],38,none⟩),(5,⟨[(ii 0)],26,none⟩),(6,⟨[(.sla 7 1 0 bH (.un 1))],93,none⟩),(7,⟨rows bQ.length (Zz bQ),3,some ⟨1,bQ.length,(Zz bQ)⟩⟩),(8,⟨[(.sl 9 0 1 (.un 1))],166,none⟩),(9,⟨[(z0p l0)],22,none⟩),(10,⟨[(.dat aB.length (Zz aB))],99,none⟩)],11,[],true⟩,[⟨⟨65,0,true⟩,(Up prog 95 [1,1,0,1,0,1,0,1,1,1] 5),(Zd prog 95 [1,1,0,1,0,1,0,1,1,1] 1),(some 2),[],Ya [(6,(.ptr 0 0)),(54,(ii bY)),(56,(ii v2)),(57,(.dat bL.length (Zz bL)))]⟩,⟨⟨86,0,true⟩,(Up prog 171 [1,0,0,1,0,0,1,1,0] 2),(Zd prog 171 [1,0,0,1,0,0,1,1,0] 1),none,[],Ya [(0,(.yld 2)),(1,(.ptr 6 0)),(2,(.ptr 8 0)),(4,(ii aS)),(82,(.yld 2)),(83,(.agg [(ii bY),(ii v2),(.sl 10 0 1 (.ex 1))]))]⟩,⟨⟨65,0,true⟩,none,(.inRangeFunc 2::(Zd prog 95 [1,1,0,1,0] 1)),none,(Zy prog 95),Ya [(4,(.ptr 4 0)),(5,(.ptr 5 0)),(6,(.ptr 0 0))]⟩,⟨⟨25,0,true⟩,(Up prog 51 [1,1,1,0,0] 3),(Zd prog 51 [1,1,1,0,0] 1),none,(Zy prog 3),Ya [(0,(z0p l0)),(11,(.agg [.nilf])),(13,(.sl 9 0 1 (.un 1)))]⟩],(y4p [(2,⟨.busy,none,65,Ya [(2,(.ptr 3 0)),(4,(.ptr 4 0)),(5,(.ptr 5 0)),(6,(.ptr 0 0))],[15],(Vy prog 95 [1,1,0,1,0,0]),(Vy prog 95 [1,1,0,1,0,1])⟩)])⟩
def sckN0 :List (Option (List Nat)):=[some [0,1,7,8],some [5,6],some [0,8]]
def sckM0 :List (Option (List Nat)):=[]
def u1u :List (Option (List Nat)):=[some [1,3,8,9,10,14,15,16],some [2,4,5,6,13],some [0,11,13]]
def u1w :List (Option (List Nat)):=[]
def u1t :List (Option (List Nat)):=[some [0,1,2,4],some [4,5,6],some [0,11,13]]
def u1v :List (Option (List Nat)):=[some [2,4,5,6],none,none,none,none,none,none,none,none,none]
def v2b :List (Option (List Nat)):=[some [0,1,2,4,5,6,29,30,31,36,37,38],some [4,5,6],some [0,11,13]]
def v2d :List (Option (List Nat)):=[some [2,4,5,6],none,none,none,none,none,none,none,none,none,none,none,none]
def v2a :List (Option (List Nat)):=[some [0,1,2,72,73,74],some [6,54,56,57],some [0,1,2,4,82,83],some [4,5,6],some [0,11,13]]
def v2c :List (Option (List Nat)):=[none,some [2,4,5,6],none,none,none,none,none,none,none,none,none]
def sckN5 :List (Option (List Nat)):=[some [0,2,8],some [6,54,56,57],some [0,1,2,4,82,83],some [4,5,6],some [0,11,13]]
def sckM5 :List (Option (List Nat)):=[none,none,some [2,4,5,6],none,none,none,none,none,none,none,none]
def Xy (l0:List R6):sckS→Xf sckS
 | .h0 v8=>(bif (decide (v8<(l0.length:Int))) then (bif ((decide (0≤v8∧v8<(l0.length:Int)))&&true) then (bif (!(u0p (rd l0 v8.toNat).a (rd l0 v8.toNat).b (rd l0 v8.toNat).c (rd l0 v8.toNat).d (rd l0 v8.toNat).e (rd l0 v8.toNat).f)) then (bif (decide (v8≥0)) then (.ret [(.int .i64 8)]) else (.to (.h1 0 ([]:List Int)))) else (.to (.h0 (IntKind.wrap .i64 (v8+1))))) else .stuck) else (.to (.h1 0 ([]:List Int))))
 | .h1 v16 aA=>(bif (decide (v16<(l0.length:Int))) then (bif ((decide (0≤v16∧v16<(l0.length:Int)))&&true) then (bif (Nat.beq 1 1&&((decide (0+aA.length=aA.length))&&decide ((aA.length+2+1)*(8+1)≤Ur))) then (.to (.h1 (IntKind.wrap .i64 (v16+1)) (aA++[(rd l0 v16.toNat).c,(rd l0 v16.toNat).f]))) else .stuck) else .stuck) else (bif (decide (aA.length<4611686018427387904)) then (bif (decide (aA.length=aA.length)) then (.to (.h2 1 ([]:List R6) ([]:List R4) 0 0 (w4n (Zc aA.length (cOf (Zz (Yh (Zc aA.length (cOf (Zz aA)))))))) (Wz (Zc aA.length (cOf (Zz (Yh (Zc aA.length (cOf (Zz aA)))))))))) else .stuck) else .stuck))
 | .h2 v4 aF aQ aZ bA aE aH=>(bif (decide (v4<((aE:Nat):Int))) then (bif ((decide (0≤(IntKind.wrap .i64 (v4 - 1))∧(IntKind.wrap .i64 (v4 - 1))<((aE:Nat):Int)))&&true) then (bif (decide ((0+(Int.toNat (IntKind.wrap .i64 (v4 - 1))))<aH.length)) then (bif ((decide (0≤v4∧v4<((aE:Nat):Int)))&&true) then (bif (decide ((0+v4.toNat)<aH.length)) then (.to (.h3 v4 0 aF aQ aZ bA aE aH (rd aH (0+(Int.toNat (IntKind.wrap .i64 (v4 - 1))))) (rd aH (0+v4.toNat)) ([]:List R4))) else .stuck) else .stuck) else .stuck) else .stuck) else (bif (decide ((aF.length:Int)>400)) then (.ret [(.int .i64 8)]) else (bif (Nat.beq 6 6&&(decide (0+aF.length≤aF.length)&&Qa (Zz aF))) then (bif (Vq (lst R6 (aF.length) (fun k=>(Zz aF) (0+k))) (cvT l0)) then (bif (!(Jp (lst R6 (aF.length) (fun k=>(Zz aF) (0+k))) (cvT l0))) then (.ret [(.int .i64 8)]) else (.ret [(.int .i64 0)])) else .stuck) else .stuck)))
 | .h3 v4 v38 aF aQ aZ bA aE aH aO bC aB=>(bif (decide (v38<(l0.length:Int))) then (bif ((decide (0≤v38∧v38<(l0.length:Int)))&&true) then (bif (decide ((rd l0 v38.toNat).c ≤aO)) then (bif (decide (aO<(rd l0 v38.toNat).f)) then (bif (Nat.beq 4 4&&((decide (0+aB.length=aB.length))&&decide ((aB.length+1+1)*(32+1)≤Ur))) then (.to (.h3 v4 (IntKind.wrap .i64 (v38+1)) aF aQ aZ bA aE aH aO bC (aB++[(R4.mk (rd l0 v38.toNat).a (rd l0 v38.toNat).b (rd l0 v38.toNat).d (rd l0 v38.toNat).e)]))) else .stuck) else (.to (.h3 v4 (IntKind.wrap .i64 (v38+1)) aF aQ aZ bA aE aH aO bC aB))) else (.to (.h3 v4 (IntKind.wrap .i64 (v38+1)) aF aQ aZ bA aE aH aO bC aB))) else .stuck) else (bif (Vs (cvT aB)) then (bif ((Xp (cvT aB)) != 0) then (.ret [(.int .i64 8)]) else (bif (decide ((((Zg (cvT aB)).length :Nat):Int)>0)) then (bif (bA == aO) then (bif (Wm (cvT aQ) (cvT (Zg (cvT aB)))) then (bif (Um (cvT aQ) (cvT (Zg (cvT aB)))) then (.to (.h5 bC aZ aO (Zg (cvT aB)) v4 aF aQ aZ bA aE aH aB)) else (.to (.h4 aO bC (Zg (cvT aB)) (((Zg (cvT aB)).length :Nat):Int) 0 (Zg (cvT aB)) v4 aF (Zg (cvT aB)) (aF.length:Int) aE aH aB))) else .stuck) else (.to (.h4 aO bC (Zg (cvT aB)) (((Zg (cvT aB)).length :Nat):Int) 0 (Zg (cvT aB)) v4 aF (Zg (cvT aB)) (aF.length:Int) aE aH aB))) else (.to (.h4 aO bC (Zg (cvT aB)) (((Zg (cvT aB)).length :Nat):Int) 0 (Zg (cvT aB)) v4 aF (Zg (cvT aB)) (aF.length:Int) aE aH aB)))) else .stuck))
 | .h4 v1 v2 v72 v73 v74 bL aS aD bD bE aE aH aO=>(bif (decide (v74<v73)) then (bif ((decide (0≤v74∧v74<(v72.length:Int)))&&true) then (bif (Nat.beq 6 6&&((decide (0+aD.length=aD.length))&&decide ((aD.length+1+1)*(48+1)≤Ur))) then (.to (.h4 v1 v2 v72 v73 (IntKind.wrap .i64 (v74+1)) bL aS (aD++[(R6.mk (rd v72 v74.toNat).a (rd v72 v74.toNat).b v1 (rd v72 v74.toNat).c (rd v72 v74.toNat).d v2)]) bD bE aE aH aO)) else .stuck) else .stuck) else (.to (.h2 (IntKind.wrap .i64 (aS+1)) aD bD bE v2 aE aH)))
 | .h5 v2 v8 bY bL aS aD bD bE bV bH bQ aB=>(bif (decide (v8<(aD.length:Int))) then (bif ((decide (0≤v8∧v8<(aD.length:Int)))&&true) then (bif (decide ((0+v8.toNat)<aD.length)) then (.to (.h5 v2 (IntKind.wrap .i64 (v8+1)) bY bL aS (aD.set (0+v8.toNat) (R6.mk (rd aD (0+v8.toNat)).a (rd aD (0+v8.toNat)).b (rd aD (0+v8.toNat)).c (rd aD (0+v8.toNat)).d (rd aD (0+v8.toNat)).e v2)) bD bE bV bH bQ aB)) else .stuck) else .stuck) else (.to (.h2 (IntKind.wrap .i64 (aS+1)) aD bD bE v2 bH bQ)))
def y0l (l0:List R6):Xf sckS:=(bif (decide ((l0.length:Int)>400)) then (.ret [(.int .i64 4)]) else (.to (.h0 0)))
theorem w1k (l0:List R6): ∀s,Xj prog (Zy prog 51) (sckC l0) (sckC l0 s) (Xy l0 s)
 | .h0 v8=>(lb (fun k0=>(lo fun aG=>(lb (fun k1=>(lb (fun k2=>(lr 25 51 [1,1,0,1,0,0] 1 3 [(2,(ii 8))] (sl Vk 53 [] ⟨[],[],[some [2]],[]⟩ ⟨[],[],[]⟩ (trs 3 []) (tt k2 (tt k1 (ww aG (tt k0 nn))))))) (fun k2=>(sl Vk 113 [(3,1,Zz ([]:List Int))] ⟨[6,1,7,2,3,4,5,8],[],u1u,u1w⟩ ⟨[],[.keep,.keep,.cells [.grow 7 1],.keep,.keep,.keep,.keep,.keep],[]⟩ (bl 4 11) (pp (fl ([]:List Int) nn) (tt k2 (tt k1 (ww aG (tt k0 nn))))))))) (fun k1=>(sl Vk 44 [] ⟨[],[],sckN0,sckM0⟩ ⟨[],[],[]⟩ (bl 2 1) (tt k1 (ww aG (tt k0 nn)))))))) (fun k0=>(sl Vk 82 [(3,1,Zz ([]:List Int))] ⟨[5,0,6,1,2,3,4,7],[],u1u,u1w⟩ ⟨[],[.keep,.keep,.cells [.grow 7 1],.keep,.keep,.keep,.keep,.keep],[]⟩ (bl 3 4) (pp (fl ([]:List Int) nn) (tt k0 nn)))))
 | .h1 v16 aA=>(lb (fun k0=>(lo fun o0=>(lo fun o1=>(sl Vk 34 [] ⟨[0,1,2,3,4,5,6,10],[],u1u,u1w⟩ ⟨[],[.keep,.keep,.cells [.len (y5q aA l0 v16).length],.keep,.keep,.keep,.keep,.rowed 1 (y5q aA l0 v16).length (Zz (y5q aA l0 v16))],[]⟩ [true] (pp (xL (aA.length+2) (y5q aA l0 v16).length) (pp (xL (aA.length+2) (y5q aA l0 v16).length) (pp (xS (aA.length+2) (Zh (Zz aA) 0 aA.length 1 [(ii (rd l0 (tn v16)).c),(ii (rd l0 (tn v16)).f)]) (Zz (y5q aA l0 v16))) (pp (pp (xF (Zh (Zz aA) 0 aA.length 1 [(ii (rd l0 (tn v16)).c),(ii (rd l0 (tn v16)).f)])) nn) (ww o1 (ww o0 (tt k0 nn))))))))))) (fun k0=>(lo fun o0=>(lo fun o1=>(sl Vk 46 [(67,6,Zz ([]:List R6))] ⟨[8,3,4,5,6,2,7,0,1,9],[],u1t,u1v⟩ ⟨[],(kpB 4 [.cells [.grow 9 6,.list 0 (Zz ([]:List R4)),.keep,.keep],.keep,.rowed 1 (y5t aA).length (Zz (y5t aA)),.keep,.keep,.keep]),[]⟩ (bl 2 0) (pp (xL aA.length (y5t aA).length (by first | exact z0w _ _ | exact Wi rfl)) (pp (xS aA.length (Zz (y5t aA)) (Zz (y5t aA))) (pp (fl (y5t aA) (fl ([]:List R6) nn)) (pp (pp (xG (Nat.beq 1 1)) (pp (xG (Nat.beq 1 1)) (pp (xG (Nat.beq 0 0)) (pp (xG (decide (aA.length=aA.length))) (pp (xG (isI (Zz (Yh (Zc aA.length (cOf (Zz aA))))))) (xG (decide (aA.length<4611686018427387904)))))))) (pp (pp (xG (Nat.beq 1 1)) (pp (xG (Nat.beq 1 1)) (pp (xG (Nat.beq 0 0)) (pp (xG (decide (aA.length=aA.length))) (pp (xG (isI (Zz aA))) (xG (decide (aA.length<4611686018427387904)))))))) (tt k0 nn)))))))))))
 | .h2 v4 aF aQ aZ bA aE aH=>(lb (fun k0=>(lo fun o0=>(lo fun o1=>(lo fun o2=>(lo fun o3=>(sl Vk 48 [(88,4,Zz ([]:List R4))] ⟨[0,1,2,3,4,5,6,7,8,10,11,12,9],[],v2b,v2d⟩ ⟨[],(kpB 10 [.cells [.grow 11 4],.keep,.keep]),[]⟩ (trs 3 []) (pp (fl aH (fl ([]:List R4) (fl aF nn))) (ww o3 (ww o2 (ww o1 (ww o0 (tt k0 nn)))))))))))) (fun k0=>(lb (fun k1=>(lr 25 51 [1,1,1,0,1,1,0,0] 1 3 [(2,(ii 8))] (sl Vk 50 [] ⟨[],[],[some [2]],[]⟩ ⟨[],[],[]⟩ (bl 7 126) (tt k1 (tt k0 nn))))) (fun k1=>(lo fun cA=>(lo fun cT=>(lb (fun k2=>(lr 25 51 [1,1,1,0,1,1,0,0] 1 3 [(2,(ii 8))] (sl Vk 53 [] ⟨[],[],[some [2]],[]⟩ ⟨[],[],[]⟩ (bl 7 64) (tt k2 (pp (pp (pp (xw cA) (pp nn nn)) (pp (xI R6 (aF.length) (fun k=>(Zz aF) (0+k))) (pp (xr l0) (xw cT)))) (tt k1 (tt k0 nn))))))) (fun k2=>(lr 25 3 [1,1,1,1,1,1,1,0] 1 3 [(2,(ii 0))] (sl Vk 54 [] ⟨[],[],[some [2]],[]⟩ ⟨[],[],[]⟩ (bl 7 0) (tt k2 (pp (pp (pp (xw cA) (pp nn nn)) (pp (xI R6 (aF.length) (fun k=>(Zz aF) (0+k))) (pp (xr l0) (xw cT)))) (tt k1 (tt k0 nn))))))))))))))
 | .h3 v4 v38 aF aQ aZ bA aE aH aO bC aB=>(lb (fun k0=>(lo fun aG=>(lb (fun k1=>(lb (fun k2=>(lo fun o0=>(sl Vk 41 [] ⟨[0,1,2,3,4,5,6,7,8,9,10,15,12],[],v2b,v2d⟩ ⟨[],(kpB 10 [.cells [.len (y5s aB l0 v38).length],.rowed 4 (y5s aB l0 v38).length (Zz (y5s aB l0 v38)),.keep]),[]⟩ (trs 8 []) (pp (xL (aB.length+1) (y5s aB l0 v38).length) (pp (xL (aB.length+1) (y5s aB l0 v38).length) (pp (xS (aB.length+1) (Zh (Zz aB) 0 aB.length 4 [(ii (rd l0 (tn v38)).a),(ii (rd l0 (tn v38)).b),(ii (rd l0 (tn v38)).d),(ii (rd l0 (tn v38)).e)]) (Zz (y5s aB l0 v38))) (pp (fl aH (pp (xF (Zh (Zz aB) 0 aB.length 4 [(ii (rd l0 (tn v38)).a),(ii (rd l0 (tn v38)).b),(ii (rd l0 (tn v38)).d),(ii (rd l0 (tn v38)).e)])) (fl aF nn))) (ww o0 (tt k2 (tt k1 (ww aG (tt k0 nn)))))))))))) (fun k2=>(sl Vk 41 [] ⟨(List.range 13),[],v2b,v2d⟩ ⟨[],[],[]⟩ (trs 7 [false]) (pp (fl aH (fl aB (fl aF nn))) (tt k2 (tt k1 (ww aG (tt k0 nn))))))))) (fun k1=>(sl Vk 41 [] ⟨(List.range 13),[],v2b,v2d⟩ ⟨[],[],[]⟩ (bl 8 1) (pp (fl aH (fl aB (fl aF nn))) (tt k1 (ww aG (tt k0 nn))))))))) (fun k0=>(We (sl Vk (C':=⟨⟨65,0,true⟩,(Up prog 95 [1,1,0,1,0,1,0,0] 4),(Zd prog 95 [1,1,0,1,0,1,0,0] 1),(some 0),[],⟨Ya [(2,(.ptr 1 0)),(4,(.ptr 2 0)),(5,(.ptr 3 0)),(6,(.ptr 4 0)),(7,(.ptr 6 0)),(20,(.dat aB.length (Zz aB)))],z9j [(1,⟨[.nilf],117,none⟩),(2,⟨[.nils],38,none⟩),(3,⟨[(ii 0)],26,none⟩),(4,⟨[(.sla 5 6 0 aF.length (.un 6)),(.dat aQ.length (Zz aQ)),(ii aZ),(ii bA)],168,none⟩),(5,⟨rows aF.length (Zz aF),67,some ⟨6,aF.length,(Zz aF)⟩⟩),(6,⟨[(ii aO),(ii bC),(.sl 7 0 1 (.ex 1))],173,none⟩),(7,⟨[(.dat aB.length (Zz aB))],99,none⟩),(8,⟨[(.sla 9 1 0 aE (.un 1))],93,none⟩),(9,⟨rows aH.length (Zz aH),3,some ⟨1,aH.length,(Zz aH)⟩⟩),(10,⟨[(.sl 11 0 1 (.un 1))],166,none⟩),(11,⟨[(.dat l0.length (Zz l0))],22,none⟩)],12,[],true⟩,[⟨⟨86,0,true⟩,(Up prog 171 [1,0,0,1,0,0,1,1,0] 2),(Zd prog 171 [1,0,0,1,0,0,1,1,0] 1),none,[],Ya [(0,(.yld 0)),(1,(.ptr 8 0)),(2,(.ptr 10 0)),(4,(ii v4)),(82,(.yld 0)),(83,(.agg [(ii aO),(ii bC),(.sl 7 0 1 (.ex 1))]))]⟩,⟨⟨65,0,true⟩,none,(.inRangeFunc 0::(Zd prog 95 [1,1,0,1,0] 1)),none,(Zy prog 95),Ya [(4,(.ptr 2 0)),(5,(.ptr 3 0)),(6,(.ptr 4 0))]⟩,⟨⟨25,0,true⟩,(Up prog 51 [1,1,1,0,0] 3),(Zd prog 51 [1,1,1,0,0] 1),none,(Zy prog 3),Ya [(0,(.dat l0.length (Zz l0))),(11,(.agg [.nilf])),(13,(.sl 11 0 1 (.un 1)))]⟩],(y4p [(0,⟨.busy,none,65,Ya [(2,(.ptr 1 0)),(4,(.ptr 2 0)),(5,(.ptr 3 0)),(6,(.ptr 4 0))],[15],(Vy prog 95 [1,1,0,1,0,0]),(Vy prog 95 [1,1,0,1,0,1])⟩)])⟩) 37 [] ⟨[0,1,2,3,4,12,13,10,5,6,7,8],[11],[some [2,4,5,6,7,20],some [0,1,2,4,82,83],some [4,5,6],some [0,11,13]],[some [2,4,5,6],none,none,none,none,none,none,none,none,none,none,none]⟩ ⟨[(20,.frz aB.length aB.length (Zz aB) (Zz aB))],[.keep,.keep,.keep,.keep,.keep,.keep,.keep,.cells [.frz aB.length aB.length (Zz aB) (Zz aB)],.keep,.keep,.keep,.keep],[]⟩ (bl 2 0) (pp (xZ (z5d 4 4 0 aB.length aB.length (Zz aB)) aB.length (Zz aB)) (pp (xL aB.length aB.length) (pp (xS aB.length (Zz aB) (Zz aB)) (pp (xZ (z5d 4 4 0 aB.length aB.length (Zz aB)) aB.length (Zz aB)) (pp (xL aB.length aB.length) (pp (xS aB.length (Zz aB) (Zz aB)) (pp (fl aF (fl aH nn)) (pp (fl aB nn) (tt k0 nn)))))))))) (lo fun aG=>(lb (fun k1=>(lr 25 51 [1,1,1,0,1,1,0,0] 1 3 [(2,(ii 8))] (sl Vk 67 [] ⟨[],[],[some [2]],[]⟩ ⟨[],[],[]⟩ (bl 8 254) (tt k1 (tt k1 (pp (pp (xr aB) (xw aG)) nn)))))) (fun k1=>(lb (fun k2=>(lb (fun k3=>(lo fun bW=>(lb (fun k4=>(sl Vk 75 [] ⟨[4,5,0,1,2,3,8,9,10,11,7],[],sckN5,sckM5⟩ ⟨[],[],[]⟩ (bl 15 32764) (pp (fl aF (fl aH nn)) (tt k4 (pp (pp (xr aQ) (pp (xI R4 (Zg (cvT aB)).length (Zz (Zg (cvT aB)))) (xw bW))) (tt k3 (tt k2 (tt k1 (pp (pp (xr aB) (xw aG)) nn))))))))) (fun k4=>(sl Vk 95 [] ⟨[4,0,1,2,3,8,9,10,11,7,5],[],v2a,v2c⟩ ⟨[],[],[]⟩ (bl 15 16380) (pp (fl aH (fl aF nn)) (tt k4 (pp (pp (xr aQ) (pp (xI R4 (Zg (cvT aB)).length (Zz (Zg (cvT aB)))) (xw bW))) (tt k3 (tt k2 (tt k1 (pp (pp (xr aB) (xw aG)) nn)))))))))))) (fun k3=>(sl Vk 95 [] ⟨[4,0,1,2,3,8,9,10,11,7,5],[],v2a,v2c⟩ ⟨[],[],[]⟩ (bl 15 252) (pp (fl aH (fl aF nn)) (tt k3 (tt k2 (tt k1 (pp (pp (xr aB) (xw aG)) nn))))))))) (fun k2=>(sl Vk 95 [] ⟨[4,0,1,2,3,8,9,10,11,7,5],[],v2a,v2c⟩ ⟨[],[],[]⟩ (bl 15 0) (pp (fl aH (fl aF nn)) (tt k2 (tt k1 (pp (pp (xr aB) (xw aG)) nn)))))))))))))
 | .h4 v1 v2 v72 v73 v74 bL aS aD bD bE aE aH aO=>(lb (fun k0=>(lo fun o0=>(lo fun o1=>(sl Vk 23 [] ⟨[0,1,2,3,4,5,6,7,8,9,13],[],v2a,v2c⟩ ⟨[],[.cells [.len (y5r aD v72 v74 v1 v2).length,.keep,.keep,.keep],.keep,.keep,.keep,.keep,.keep,.keep,.keep,.keep,.keep,.rowed 6 (y5r aD v72 v74 v1 v2).length (Zz (y5r aD v72 v74 v1 v2))],[]⟩ [true] (pp (xL (aD.length+1) (y5r aD v72 v74 v1 v2).length) (pp (xL (aD.length+1) (y5r aD v72 v74 v1 v2).length) (pp (xS (aD.length+1) (Zh (Zz aD) 0 aD.length 6 [(ii (rd v72 (tn v74)).a),(ii (rd v72 (tn v74)).b),(ii v1),(ii (rd v72 (tn v74)).c),(ii (rd v72 (tn v74)).d),(ii v2)]) (Zz (y5r aD v72 v74 v1 v2))) (pp (fl aH (pp (xF (Zh (Zz aD) 0 aD.length 6 [(ii (rd v72 (tn v74)).a),(ii (rd v72 (tn v74)).b),(ii v1),(ii (rd v72 (tn v74)).c),(ii (rd v72 (tn v74)).d),(ii v2)])) nn)) (ww o1 (ww o0 (tt k0 nn))))))))))) (fun k0=>(sl Vk 22 [] ⟨[1,2,3,4,0,5,6,7,8,10],[],u1t,u1v⟩ ⟨[],[],[]⟩ (bl 2 0) (pp (fl aH (fl aD nn)) (tt k0 nn)))))
 | .h5 v2 v8 bY bL aS aD bD bE bV bH bQ aB=>(lb (fun k0=>(lo fun o0=>(lo fun o1=>(sl Vk 34 [] ⟨(List.range 11),[],sckN5,sckM5⟩ ⟨[],[.cells [.len (y5u aD v8 v2).length,.keep,.keep,.keep],.rowed 6 (y5u aD v8 v2).length (Zz (y5u aD v8 v2)),.keep,.keep,.keep,.keep,.keep,.keep,.keep,.keep,.keep],[]⟩ [true] (pp (xL aD.length (y5u aD v8 v2).length) (pp (xL aD.length (y5u aD v8 v2).length) (pp (xS aD.length (Xb (Zz aD) (0+(tn v8)) 5 [(ii v2)]) (Zz (y5u aD v8 v2))) (pp (pp (xF (Xb (Zz aD) (0+(tn v8)) 5 [(ii v2)])) (fl bQ nn)) (ww o1 (ww o0 (tt k0 nn))))))))))) (fun k0=>(sl Vk 36 [] ⟨[2,3,4,5,0,6,7,8,9,1],[],u1t,u1v⟩ ⟨[],[],[]⟩ (bl 2 0) (pp (fl bQ (fl aD nn)) (tt k0 nn)))))
theorem x4c (l0:List R6):Xj prog (Zy prog 51) (sckC l0) (Ze prog 51 [(.dat l0.length (Zz l0))] true []) (y0l l0):=(lb (fun k0=>(lr 25 51 [1,0,1,0,0] 1 3 [(2,(ii 4))] (sl Vk 16 [] ⟨[],[],[some [2]],[]⟩ ⟨[],[],[]⟩ [true] (tt k0 nn)))) (fun k0=>(sl Vk 40 [] ⟨[],[],sckN0,sckM0⟩ ⟨[],[],[]⟩ [false] (tt k0 nn))))
theorem v1z (l0:List R6) (n:Nat) (vs:List AVal) (h:Yv (Xy l0) n (y0l l0)=.ret vs):Ky prog (Zy prog 51) (Ze prog 51 [(.dat l0.length (Zz l0))] true []) vs:=by have:=Zr (w1k l0) n _ (x4c l0);rwa [h] at this
end Go.Am
namespace Go.Am
open Go.Proofs.Tryz
open Go.Proofs Go.Sort Go.Shelf Go.RowKit Go.Lib
theorem x4u (l:List R4):(Zg l).length ≤400:=by
 unfold Zg;by_cases h:400<l.length
 ·rw [decide_eq_true h];exact Nat.zero_le _
 ·rw [decide_eq_false h];cases l.all Vx
  ·exact Nat.zero_le _
  ·show (bif decide (((D4.out l).length :Int)>400) then [] else D4.out l).length ≤400;by_cases h2:((D4.out l).length :Int)>400
   ·rw [decide_eq_true h2];exact Nat.zero_le _
   ·rw [decide_eq_false h2];show (D4.out l).length ≤400;omega
def D6 :Dim R6 R4:=⟨R6.c,R6.f,fun r=>⟨r.a,r.b,r.d,r.e⟩,fun x x' s=>⟨s.a,s.b,x,s.c,s.d,x'⟩,fun x r=>⟨r.a,r.b,r.c,r.d,r.e,x⟩,Zg,Um⟩
theorem u0m (l:List R6) (x:Int):(D6.sec l x).length ≤1000:=Nat.le_trans (x4u _) (by omega)
def sckErr :List AVal:=[.int .i64 8]
def x0p (l out:List R6):List AVal:=bif decide ((out.length:Int)>400) then [.int .i64 8] else bif Jp out l then [.int .i64 0] else [.int .i64 8]
def v0q (l:List R6) (x:Int):Bool:=Xp (D6.inn l x) != 0
def okF (l:List R6):Nat→Nat→Bool
 | 0,_=>true
 | k+1,i=>bif v0q l (rd (D6.cuts l) i) then false else okF l k (i+1)
section
variable (l:List R6) (hl:l.length≤400)
include hl
theorem v7f (i:Nat) (out:List R6) (last:List R4) (first fin x x':Int): ∀(k j:Nat) (acc:List R4),j+k=l.length→acc.length≤j→
  ∃n,∀N,Yv (Xy l) (N+n) (.to (.h3 (i:Int) (j:Int) out last first fin ((D6.cuts l).length) (Wz (Yh (D6.ends l))) x x' acc))=Yv (Xy l) N (.to (.h3 (i:Int) (l.length:Int) out last first fin ((D6.cuts l).length) (Wz (Yh (D6.ends l))) x x' (acc++D6.inn (l.drop j) x)))
 | 0,j,acc,h,ha=>by refine ⟨0,fun N=> ?_⟩;rw [List.drop_eq_nil_of_le (by omega),show D6.inn ([]:List R6) x=[] from rfl,List.append_nil,Nat.add_zero,show j=l.length by omega]
 | k+1,j,acc,h,ha=>by
  have hj:j<l.length:=by omega
  obtain ⟨n,hn⟩:=v7f i out last first fin x x' k (j+1) (acc++D6.inn [rd l j] x) (by omega) (by have:=D6.inn_length [rd l j] x;simp only [List.length_append,List.length_singleton] at*;omega)
  refine ⟨n+1,fun N=> ?_⟩;have e:D6.inn (l.drop j) x=D6.inn [rd l j] x++D6.inn (l.drop (j+1)) x:=by rw [Yp hj,←D6.inn_append];rfl
  rw [e,←Nat.add_assoc,Zv,←List.append_assoc,←hn N];by_cases h1:D6.lo (rd l j)≤x
  ·by_cases h2:x<D6.hi (rd l j)
   ·rw [D6.inn_t _ _ h1 h2];simp only [D6] at h1 h2 ⊢;simp (disch:=omega) only [Xy,Xh,Za,Zq,Zt,Yz,Yg,Yu,Yk,Zi,Zk,Zx,Yq,Zj,Nat.zero_add,decide_true,Bool.and_true,Bool.true_and,cond_true,cond_false]
   ·rw [D6.inn_f2 _ _ h2,List.append_nil];simp only [D6] at h1 h2;simp (disch:=omega) only [Xy,Xh,Yw,Za,Zq,Zt,Yz,Yg,Yu,Yk,Zi,Zk,Zx,Yq,Zj,Nat.zero_add,decide_true,Bool.and_true,Bool.true_and,cond_true,cond_false]
  ·rw [D6.inn_f1 _ _ h1,List.append_nil];simp only [D6] at h1;simp (disch:=omega) only [Xy,x6y,Za,Zq,Zt,Yz,Yg,Yu,Yk,Zi,Zk,Zx,Yq,Zj,Nat.zero_add,decide_true,Bool.and_true,Bool.true_and,cond_true,cond_false]
theorem v7e (i:Nat) (hi:i≤1000) (x x':Int) (s last:List R4) (first:Int) (inn:List R4) (hs:s.length≤1000): ∀(k j:Nat) (out:List R6),j+k=s.length→out.length≤10000000+j→
  ∃n,∀N,Yv (Xy l) (N+n) (.to (.h4 x x' s (s.length:Int) (j:Int) s (i:Int) out last first ((D6.cuts l).length) (Wz (Yh (D6.ends l))) inn))=Yv (Xy l) N (.to (.h2 ((i+1:Nat):Int) (out++(s.drop j).map (D6.put x x')) last first x' ((D6.cuts l).length) (Wz (Yh (D6.ends l)))))
 | 0,j,out,h,ho=>by have _u:=hl;refine ⟨1,fun N=> ?_⟩;rw [List.drop_eq_nil_of_le (by omega),Zv];simp (disch:=omega) only [Xy,Yw,Zk,Zx,cond_false,List.map_nil,List.append_nil]
 | k+1,j,out,h,ho=>by
  obtain ⟨n,hn⟩:=v7e i hi x x' s last first inn hs k (j+1) (out++[D6.put x x' (rd s j)]) (by omega) (by simp;omega)
  refine ⟨n+1,fun N=> ?_⟩;have:=hn N;rw [Yp (show j<s.length by omega),List.map_cons,←Nat.add_assoc,Zv];simp (disch:=omega) only [Xy,Za,Zq,Zt,Yz,Yg,Yu,Yk,Zi,Zk,Zx,Yq,Zj,Nat.zero_add,decide_true,Bool.and_true,Bool.true_and,cond_true,cond_false];rw [List.append_assoc] at this;exact this
theorem v7d (i:Nat) (hi:i≤1000) (x x' fin:Int) (s last:List R4) (first:Int) (inn:List R4): ∀(k j:Nat) (out:List R6),j+k=out.length→out.length≤10000000→
  ∃n,∀N,Yv (Xy l) (N+n) (.to (.h5 x' (j:Int) x s (i:Int) out last first fin ((D6.cuts l).length) (Wz (Yh (D6.ends l))) inn))=Yv (Xy l) N (.to (.h2 ((i+1:Nat):Int) (D6.grow out j x') last first x' ((D6.cuts l).length) (Wz (Yh (D6.ends l)))))
 | 0,j,out,h,ho=>by have _u:=hl;refine ⟨1,fun N=> ?_⟩;rw [D6.grow_nil _ _ _ (by omega),Zv];simp (disch:=omega) only [Xy,Yw,Zk,Zx,cond_false]
 | k+1,j,out,h,ho=>by
  obtain ⟨n,hn⟩:=v7d i hi x x' fin s last first inn k (j+1) (out.set j (D6.ext x' (rd out j))) (by simp;omega) (by simpa using ho)
  refine ⟨n+1,fun N=> ?_⟩;have:=hn N;rw [D6.grow_set out j _ (by omega)] at this;rw [←Nat.add_assoc,Zv];simp (disch:=omega) only [Xy,Za,Zq,Zt,Yz,Yg,Yu,Yk,Zi,Zk,Zx,Yq,Zj,Nat.zero_add,decide_true,Bool.and_true,Bool.true_and,cond_true,cond_false];exact this
theorem w5n : ∀(k i:Nat) (s:Sw R6 R4),k=(D6.cuts l).length - 1 - i→i≤(D6.cuts l).length →s.out.length≤i*1000→s.last.length≤1000→s.first≤s.out.length→
  ∃n,Yv (Xy l) n (.to (.h2 ((i+1:Nat):Int) s.out s.last (s.first:Int) s.fin ((D6.cuts l).length) (Wz (Yh (D6.ends l)))))=.ret ((bif okF l k i then x0p l (D6.go l k i s).out else sckErr))
 | 0,i,s,h,hi,ho,hla,hf=>by
  have hc:=D6.cuts_length l;refine ⟨1,?_⟩;rw [Zv,show D6.go l 0 i s=s from rfl,show okF l 0 i=true from rfl,cond_true];unfold x0p;by_cases q:(s.out.length:Int)>400
  ·simp (disch:=omega) only [Xy,Yw,Ye,cond_true,cond_false,Zm]
  ·have e:lst R6 s.out.length (fun k=>(Zz s.out) k)=s.out:=Zq s.out;have w:Vq s.out l=true:=decide_eq_true (by omega);have f:Qa (Zz s.out)=true:=Xw _;rcases Yf (Jp s.out l) with q2 | q2 <;>
   simp (disch:=omega) only [Xy,Za,e,w,f,q2,Yw,Xv,Yg,Yq,Nat.zero_add,Bool.not_true,Bool.not_false,Bool.and_true,cond_true,cond_false,Zm]
 | k +1,i,s,h,hi,ho,hla,hf=>by
  have hc:=D6.cuts_length l;have hi1:i+1<(D6.cuts l).length :=by omega
  have hpl:(Wz (Yh (D6.ends l))).length =2*l.length:=by rw [Uy,Xs,D6.ends_length]
  have r0:rd (Wz (Yh (D6.ends l))) i=rd (D6.cuts l) i:=z2u _ _ (by show i<(D6.cuts l).length;omega);have r1:rd (Wz (Yh (D6.ends l))) (i+1)=rd (D6.cuts l) (i+1):=z2u _ _ (by show i+1<(D6.cuts l).length;omega);have hbig:i*1000≤1000*1000:=Nat.mul_le_mul_right _ (by omega);have hsl:=u0m l (rd (D6.cuts l) i);have hsd:D6.sec l (rd (D6.cuts l) i)=Zg (D6.inn l (rd (D6.cuts l) i)):=rfl;obtain ⟨n3,h3⟩:=v7f l hl (i+1) s.out s.last (s.first:Int) s.fin (rd (D6.cuts l) i) (rd (D6.cuts l) (i+1)) l.length 0 [] (Nat.zero_add _) (Nat.le_refl _);simp only [List.drop_zero,List.nil_append,z5l] at h3;have w1:Vs (D6.inn l (rd (D6.cuts l) i))=true:=rfl;have w2:Wm s.last (Zg (D6.inn l (rd (D6.cuts l) i)))=true:=decide_eq_true (by omega);have ol:=D6.one_length l (rd (D6.cuts l) i) (rd (D6.cuts l) (i+1)) s;have st0: ∀N,Yv (Xy l) (N+n3+1) (.to (.h2 ((i+1:Nat):Int) s.out s.last (s.first:Int) s.fin ((D6.cuts l).length) (Wz (Yh (D6.ends l)))))=Yv (Xy l) N (.to (.h3 ((i+1:Nat):Int) (l.length:Int) s.out s.last (s.first:Int) s.fin ((D6.cuts l).length) (Wz (Yh (D6.ends l))) (rd (D6.cuts l) i) (rd (D6.cuts l) (i+1)) (D6.inn l (rd (D6.cuts l) i)))):=fun N=>by
   rw [←h3 N,Zv];have e1:IntKind.wrap .i64 (((i+1:Nat):Int) - 1)=(i:Int):=by rw [Zs];exact Zk (by omega)
   simp (disch:=omega) only [Xy,e1,r0,r1,Za,Zq,Zt,Yz,Yg,Yu,Yk,Zi,Zk,Zx,Yq,Zj,Nat.zero_add,decide_true,Bool.and_true,Bool.true_and,cond_true,cond_false]
  rcases Yf (v0q l (rd (D6.cuts l) i)) with q0 | q0
  ·refine ⟨1+n3+1,?_⟩;rw [st0 1,Zv];simp only [okF,q0,cond_true,cond_false];have q0':(Xp (D6.inn l (rd (D6.cuts l) i)) != 0)=true:=q0;simp (disch:=omega) only [Xy,Za,Zq,Yw,q0',w1,cond_true,cond_false,Zm];rfl
  have q0':(Xp (D6.inn l (rd (D6.cuts l) i)) != 0)=false:=q0;rcases Yf (decide (0<(D6.sec l (rd (D6.cuts l) i)).length)&&((s.fin == rd (D6.cuts l) i)&&D6.same s.last (D6.sec l (rd (D6.cuts l) i)))) with q | q
  ·obtain ⟨n5,h5⟩:=v7d l hl (i+1) (by omega) (rd (D6.cuts l) i) (rd (D6.cuts l) (i+1)) s.fin (D6.sec l (rd (D6.cuts l) i)) s.last (s.first:Int) (D6.inn l (rd (D6.cuts l) i)) (s.out.length - s.first) s.first s.out (by omega) (by omega)
   have e:D6.one l (rd (D6.cuts l) i) (rd (D6.cuts l) (i+1)) s=⟨D6.grow s.out s.first (rd (D6.cuts l) (i+1)),s.last,s.first,rd (D6.cuts l) (i+1)⟩:=by unfold Dim.one;rw [q];rfl
   obtain ⟨n0,h0⟩:=w5n k (i+1) (D6.one l (rd (D6.cuts l) i) (rd (D6.cuts l) (i+1)) s) (by omega) (by omega) (by omega) (by rw [e];exact hla) (by rw [e];simpa [Dim.grow_length] using hf);refine ⟨n0+n5+1+n3+1,?_⟩;rw [st0 (n0+n5+1),Zv];simp only [Bool.and_eq_true,decide_eq_true_eq] at q;obtain ⟨q1,q2,q3⟩:=q;have q3':Um s.last (Zg (D6.inn l (rd (D6.cuts l) i)))=true:=q3;rw [hsd] at q1;simp (disch:=omega) only [Xy,Za,Zq,Yw,Ye,q0',q2,q3',w1,w2,cond_true,cond_false];rw [←hsd,h5 n0];simp only [okF,q0,cond_false];simp only [Dim.go];rw [e] at h0 ⊢;exact h0
  ·obtain ⟨n4,h4⟩:=v7e l hl (i+1) (by omega) (rd (D6.cuts l) i) (rd (D6.cuts l) (i+1)) (D6.sec l (rd (D6.cuts l) i)) (D6.sec l (rd (D6.cuts l) i)) (s.out.length:Int) (D6.inn l (rd (D6.cuts l) i)) hsl (D6.sec l (rd (D6.cuts l) i)).length 0 s.out (Nat.zero_add _) (by omega);simp only [List.drop_zero,z5l] at h4;have e:D6.one l (rd (D6.cuts l) i) (rd (D6.cuts l) (i+1)) s=⟨s.out++(D6.sec l (rd (D6.cuts l) i)).map (D6.put (rd (D6.cuts l) i) (rd (D6.cuts l) (i+1))),D6.sec l (rd (D6.cuts l) i),s.out.length,rd (D6.cuts l) (i+1)⟩:=by unfold Dim.one;rw [q];rfl
   obtain ⟨n0,h0⟩:=w5n k (i+1) (D6.one l (rd (D6.cuts l) i) (rd (D6.cuts l) (i+1)) s) (by omega) (by omega) (by omega) (by rw [e];exact hsl) (by rw [e];simp);have hg:Yv (Xy l) 1 (.to (.h3 ((i+1:Nat):Int) (l.length:Int) s.out s.last (s.first:Int) s.fin ((D6.cuts l).length) (Wz (Yh (D6.ends l))) (rd (D6.cuts l) i) (rd (D6.cuts l) (i+1)) (D6.inn l (rd (D6.cuts l) i))))=.to (.h4 (rd (D6.cuts l) i) (rd (D6.cuts l) (i+1)) (D6.sec l (rd (D6.cuts l) i)) ((D6.sec l (rd (D6.cuts l) i)).length :Int) 0 (D6.sec l (rd (D6.cuts l) i)) ((i+1:Nat):Int) s.out (D6.sec l (rd (D6.cuts l) i)) (s.out.length:Int) ((D6.cuts l).length) (Wz (Yh (D6.ends l))) (D6.inn l (rd (D6.cuts l) i))):=by
    rw [show (1:Nat)=0+1 from rfl,Zv];rw [hsd] at q ⊢;have e3:D6.same s.last (Zg (D6.inn l (rd (D6.cuts l) i)))=Um s.last (Zg (D6.inn l (rd (D6.cuts l) i))):=rfl;rw [e3] at q;by_cases q1:0<(Zg (D6.inn l (rd (D6.cuts l) i))).length
    ·rw [decide_eq_true q1,Bool.true_and] at q;rcases Yf (s.fin == rd (D6.cuts l) i) with q2 | q2
     ·rw [q2,Bool.true_and] at q;simp (disch:=omega) only [Xy,Za,Zq,Yw,Ye,q0',q2,q,w1,w2,cond_true,cond_false];rfl
     ·simp (disch:=omega) only [Xy,Za,Zq,Yw,Ye,q0',q2,w1,w2,cond_true,cond_false];rfl
    ·simp (disch:=omega) only [Xy,Za,Zq,Yw,Xv,q0',w1,w2,cond_true,cond_false];rfl
   refine ⟨n0+n4+1+n3+1,?_⟩;rw [st0 (n0+n4+1),z6q _ (n0+n4) 1,hg,h4 n0];simp only [okF,q0,cond_false];simp only [Dim.go];rw [e] at h0 ⊢;exact h0
theorem v7g : ∀(k i:Nat) (acc:List Int),i+k=l.length→acc=D6.ends (l.take i)→ ∃n,Yv (Xy l) n (.to (.h1 (i:Int) acc))=.ret ((bif okF l ((D6.cuts l).length - 1) 0 then x0p l (D6.go l ((D6.cuts l).length - 1) 0 ⟨[],[],0,0⟩).out else sckErr))
 | 0,i,acc,h,ha=>by
  have e:acc=D6.ends l:=by rw [ha,List.take_of_length_le (by omega)]
  subst e;have hle:=D6.ends_length l;obtain ⟨n,hn⟩:=w5n l hl ((D6.cuts l).length - 1) 0 ⟨[],[],0,0⟩ (by omega) (Nat.zero_le _) (Nat.zero_le _) (Nat.zero_le _) (Nat.zero_le _);refine ⟨n+1,?_⟩;rw [Zv];simp (disch:=omega) only [Xy,Wg,Qx,z8o,Yw,Yu,Yk,decide_true,cond_true,cond_false];exact hn
 | k+1,i,acc,h,ha=>by
  have hle:=D6.ends_length (l.take i);have fH:acc.length≤2*i:=by rw [ha,hle];simp;omega
  obtain ⟨n,hn⟩:=v7g k (i+1) (acc++D6.ends [rd l i]) (by omega) (by
   rw [ha,List.take_add_one];have:l[i]? =some (rd l i):=by rw [Xu (show i<l.length by omega)];exact List.getElem?_eq_getElem _
   rw [this,D6.ends_append];rfl)
  refine ⟨n+1,?_⟩;rw [Zv];simp (disch:=omega) only [Xy,Za,Zq,Zt,Yz,Yg,Yu,Yk,Zi,Zk,Zx,Yq,Zj,Nat.zero_add,decide_true,Bool.and_true,Bool.true_and,cond_true,cond_false];exact hn
theorem v7h : ∀(k i:Nat),i+k=l.length→(∀s∈l.take i,z0m s=true)→ ∃n,Yv (Xy l) n (.to (.h0 (i:Int)))=.ret (bif l.all z0m then (bif okF l ((D6.cuts l).length - 1) 0 then x0p l (D6.go l ((D6.cuts l).length - 1) 0 ⟨[],[],0,0⟩).out else sckErr) else sckErr)
 | 0,i,h,ht=>by have hv:l.all z0m=true:=List.all_eq_true.2 fun s hs=>ht s (by rw [List.take_of_length_le (by omega)];exact hs);obtain ⟨n,hn⟩:=v7g l hl l.length 0 [] (Nat.zero_add _) rfl;refine ⟨n+1,?_⟩;rw [Zv,hv,cond_true];simp (disch:=omega) only [Xy,Yw,cond_false];exact hn
 | k+1,i,h,ht=>by
  have hi:i<l.length:=by omega
  have hs:Xy l (.h0 (i:Int))=bif z0m (rd l i) then .to (.h0 ((i+1:Nat):Int)) else .ret sckErr:=by have e:u0p (rd l i).a (rd l i).b (rd l i).c (rd l i).d (rd l i).e (rd l i).f =z0m (rd l i):=rfl;simp (disch:=omega) only [Xy,e,z5m,x2l,x2m,Yz,Zk,Zx,Zj,Bool.and_true,cond_true,cond_false];rfl
  rcases Yf (z0m (rd l i)) with q | q
  ·obtain ⟨n,hn⟩:=v7h k (i+1) (by omega) (fun s hs=>by
    rw [List.take_add_one] at hs;have e:l[i]? =some (rd l i):=by rw [Xu hi];exact List.getElem?_eq_getElem _
    rw [e] at hs;simp only [Option.toList_some,List.mem_append,List.mem_singleton] at hs;rcases hs with hs | rfl
    ·exact ht s hs
    ·exact q)
   refine ⟨n+1,?_⟩;rw [Zv,hs,q,cond_true];exact hn
  ·have hv:l.all z0m=false:=Bool.eq_false_iff.2 fun e=>by have:=List.all_eq_true.1 e (rd l i) (by rw [Xu hi];exact List.getElem_mem hi);rw [this] at q;cases q
   refine ⟨1,?_⟩;rw [Zv,hv,cond_false,hs,q,cond_false,Zm]
end
def Wk (l:List R6):Int:=bif decide (400<l.length) then 4 else bif l.all z0m then (bif okF l ((D6.cuts l).length - 1) 0 then (bif decide (((D6.out l).length :Int)>400) then 8 else bif Jp (D6.out l) l then 0 else 8) else 8) else 8
def w5p (l:List R6):Bool:=true
theorem u1s (l:List R6): ∃n,Yv (Xy l) n (y0l l)=.ret [.int .i64 (Wk l)]:=by
 unfold y0l Wk;by_cases h:400<l.length
 ·refine ⟨0,?_⟩;rw [decide_eq_true h,Ye (show (l.length:Int)>400 by omega)];rfl
 ·obtain ⟨n,hn⟩:=v7h l (by omega) l.length 0 (Nat.zero_add _) (fun s hs=>by simp at hs);refine ⟨n,?_⟩;rw [decide_eq_false h,Xv (show¬(l.length:Int)>400 by omega),cond_false,cond_false];rw [z5l] at hn;rw [hn];unfold sckErr x0p;cases l.all z0m <;> simp only [cond_true,cond_false];cases okF l ((D6.cuts l).length - 1) 0 <;> simp only [cond_true,cond_false];show Xf.ret (bif decide (((D6.out l).length :Int)>400) then _ else bif Jp (D6.out l) l then _ else _)=_;cases decide (((D6.out l).length :Int)>400) <;> simp only [cond_true,cond_false];cases Jp (D6.out l) l <;> rfl
def fSck :List AVal→Option (AVal×Bool)
 | [a1]=>match asL R6 a1 with
  | some (L1,g1,n1)=>some (.int .i64 (Wk L1),isT R6 n1 g1&&w5p L1)
  | _=>none
 | _=>none
theorem u5f {S:Specs} (hS:Zu prog S):Zu prog (S.with x1p fSck):=by
 refine z3g hS (by kernel_rfl) fun args v h=> ?_;unfold fSck at h;split at h
 ·rename_i a1;split at h
  ·rename_i L1 g1 n1 e1;simp only [Option.some.injEq,Prod.mk.injEq,Bool.and_eq_true] at h;obtain ⟨rfl,ho1,hw⟩:=h;obtain ⟨N,hN⟩:=u1s L1;exact ⟨_,_,(.cons (asL_le e1 ho1) .nil),rfl,v1z L1 N _ hN,3,rfl⟩
  ·cases h
 ·cases h
def T8 :Specs:=T7v.with x1p fSck
theorem Qf :Zu prog T8:=u5f Vk
end Go.Am
namespace Go.Am
open Go.Proofs.Tryz
open Go.Proofs
inductive rchkS where
 | h0 (v3:Int)
def u2y (l0:List R6):rchkS→Cfg
 | .h0 v3=>⟨⟨34,0,true⟩,none,(Zd prog 53 [1,1,0,1,0,0] 0),none,(Zy prog 3),⟨Ya [(0,(.dat l0.length (Zz l0))),(3,(ii v3))],Uq [] 0,0,[],true⟩,[],.leaf⟩
def v8r :List (Option (List Nat)):=[some [0,3]]
def v8s :List (Option (List Nat)):=[]
def Qt (l0:List R6):rchkS→Xf rchkS
 | .h0 v3=>(bif (decide (v3<(l0.length:Int))) then (bif ((decide (0≤v3∧v3<(l0.length:Int)))&&true) then (bif (decide ((rd l0 v3.toNat).a ≥(-1000000))) then (bif (decide ((rd l0 v3.toNat).b ≥(-1000000))) then (bif (decide ((rd l0 v3.toNat).c ≥(-1000000))) then (bif (decide ((rd l0 v3.toNat).a ≤1000000)) then (bif (decide ((rd l0 v3.toNat).b ≤1000000)) then (bif (decide ((rd l0 v3.toNat).c ≤1000000)) then (bif (decide ((rd l0 v3.toNat).d ≥(-1000000))) then (bif (decide ((rd l0 v3.toNat).e ≥(-1000000))) then (bif (decide ((rd l0 v3.toNat).f ≥(-1000000))) then (bif (decide ((rd l0 v3.toNat).d ≤1000000)) then (bif (decide ((rd l0 v3.toNat).e ≤1000000)) then (bif (decide ((rd l0 v3.toNat).f ≤1000000)) then (bif (decide ((rd l0 v3.toNat).a <(rd l0 v3.toNat).d)) then (bif (decide ((rd l0 v3.toNat).b <(rd l0 v3.toNat).e)) then (bif (!(decide ((rd l0 v3.toNat).c <(rd l0 v3.toNat).f))) then (.ret [(.int .i64 8)]) else (.to (.h0 (IntKind.wrap .i64 (v3+1))))) else (.ret [(.int .i64 8)])) else (.ret [(.int .i64 8)])) else (.ret [(.int .i64 8)])) else (.ret [(.int .i64 8)])) else (.ret [(.int .i64 8)])) else (.ret [(.int .i64 8)])) else (.ret [(.int .i64 8)])) else (.ret [(.int .i64 8)])) else (.ret [(.int .i64 8)])) else (.ret [(.int .i64 8)])) else (.ret [(.int .i64 8)])) else (.ret [(.int .i64 8)])) else (.ret [(.int .i64 8)])) else (.ret [(.int .i64 8)])) else .stuck) else (bif (y1e 2 (cvT l0) ([]:List R6)) then (bif (!(x1z 2 (cvT l0) ([]:List R6))) then (.ret [(.int .i64 8)]) else (bif (Vq (cvT (z5b 2 (cvT l0) ([]:List R6))) (cvT l0)) then (bif (!(Jp (cvT (z5b 2 (cvT l0) ([]:List R6))) (cvT l0))) then (.ret [(.int .i64 8)]) else (.ret [(.int .i64 0)])) else .stuck)) else .stuck))
def z6e (l0:List R6):Xf rchkS:=(bif (decide ((l0.length:Int)>400)) then (.ret [(.int .i64 4)]) else (.to (.h0 0)))
theorem x5a (l0:List R6): ∀s,Xj prog (Zy prog 53) (u2y l0) (u2y l0 s) (Qt l0 s)
 | .h0 v3=>(lb (fun k0=>(lo fun aG=>(lb (fun k1=>(lb (fun k2=>(lb (fun k3=>(lb (fun k4=>(lb (fun k5=>(lb (fun k6=>(lb (fun k7=>(lb (fun k8=>(lb (fun k9=>(lb (fun k10=>(lb (fun k11=>(lb (fun k12=>(lb (fun k13=>(lb (fun k14=>(lb (fun k15=>(lr 34 53 [1,1,0,1,0,0,1,0,0,1,0,0] 1 3 [(2,(ii 8))] (sl Qf 158 [] ⟨[],[],[some [2]],[]⟩ ⟨[],[],[]⟩ (trs 60 []) (tt k15 (tt k14 (tt k13 (tt k12 (tt k11 (tt k10 (tt k9 (tt k8 (tt k7 (tt k6 (tt k5 (tt k4 (tt k3 (tt k2 (tt k1 (ww aG (tt k0 nn)))))))))))))))))))) (fun k15=>(sl Qf 162 [] ⟨[],[],v8r,v8s⟩ ⟨[],[],[]⟩ (trs 59 [false]) (tt k15 (tt k14 (tt k13 (tt k12 (tt k11 (tt k10 (tt k9 (tt k8 (tt k7 (tt k6 (tt k5 (tt k4 (tt k3 (tt k2 (tt k1 (ww aG (tt k0 nn))))))))))))))))))))) (fun k14=>(lr 34 53 [1,1,0,1,0,0,1,0,0,1,0,0] 1 3 [(2,(ii 8))] (sl Qf 158 [] ⟨[],[],[some [2]],[]⟩ ⟨[],[],[]⟩ (trs 52 (bl 8 128)) (tt k14 (tt k13 (tt k12 (tt k11 (tt k10 (tt k9 (tt k8 (tt k7 (tt k6 (tt k5 (tt k4 (tt k3 (tt k2 (tt k1 (ww aG (tt k0 nn))))))))))))))))))))) (fun k13=>(lr 34 53 [1,1,0,1,0,0,1,0,0,1,0,0] 1 3 [(2,(ii 8))] (sl Qf 158 [] ⟨[],[],[some [2]],[]⟩ ⟨[],[],[]⟩ (trs 45 (bl 15 16384)) (tt k13 (tt k12 (tt k11 (tt k10 (tt k9 (tt k8 (tt k7 (tt k6 (tt k5 (tt k4 (tt k3 (tt k2 (tt k1 (ww aG (tt k0 nn)))))))))))))))))))) (fun k12=>(lr 34 53 [1,1,0,1,0,0,1,0,0,1,0,0] 1 3 [(2,(ii 8))] (sl Qf 158 [] ⟨[],[],[some [2]],[]⟩ ⟨[],[],[]⟩ (trs 38 (bl 22 2097152)) (tt k12 (tt k11 (tt k10 (tt k9 (tt k8 (tt k7 (tt k6 (tt k5 (tt k4 (tt k3 (tt k2 (tt k1 (ww aG (tt k0 nn))))))))))))))))))) (fun k11=>(lr 34 53 [1,1,0,1,0,0,1,0,0,1,0,0] 1 3 [(2,(ii 8))] (sl Qf 158 [] ⟨[],[],[some [2]],[]⟩ ⟨[],[],[]⟩ (trs 35 (bl 25 16777216)) (tt k11 (tt k10 (tt k9 (tt k8 (tt k7 (tt k6 (tt k5 (tt k4 (tt k3 (tt k2 (tt k1 (ww aG (tt k0 nn)))))))))))))))))) (fun k10=>(lr 34 53 [1,1,0,1,0,0,1,0,0,1,0,0] 1 3 [(2,(ii 8))] (sl Qf 158 [] ⟨[],[],[some [2]],[]⟩ ⟨[],[],[]⟩ (trs 32 (bl 28 134217728)) (tt k10 (tt k9 (tt k8 (tt k7 (tt k6 (tt k5 (tt k4 (tt k3 (tt k2 (tt k1 (ww aG (tt k0 nn))))))))))))))))) (fun k9=>(lr 34 53 [1,1,0,1,0,0,1,0,0,1,0,0] 1 3 [(2,(ii 8))] (sl Qf 158 [] ⟨[],[],[some [2]],[]⟩ ⟨[],[],[]⟩ (trs 29 (bl 31 1073741824)) (tt k9 (tt k8 (tt k7 (tt k6 (tt k5 (tt k4 (tt k3 (tt k2 (tt k1 (ww aG (tt k0 nn)))))))))))))))) (fun k8=>(lr 34 53 [1,1,0,1,0,0,1,0,0,1,0,0] 1 3 [(2,(ii 8))] (sl Qf 158 [] ⟨[],[],[some [2]],[]⟩ ⟨[],[],[]⟩ (trs 25 (bl 35 17179869184)) (tt k8 (tt k7 (tt k6 (tt k5 (tt k4 (tt k3 (tt k2 (tt k1 (ww aG (tt k0 nn))))))))))))))) (fun k7=>(lr 34 53 [1,1,0,1,0,0,1,0,0,1,0,0] 1 3 [(2,(ii 8))] (sl Qf 158 [] ⟨[],[],[some [2]],[]⟩ ⟨[],[],[]⟩ (trs 21 (bl 39 274877906944)) (tt k7 (tt k6 (tt k5 (tt k4 (tt k3 (tt k2 (tt k1 (ww aG (tt k0 nn)))))))))))))) (fun k6=>(lr 34 53 [1,1,0,1,0,0,1,0,0,1,0,0] 1 3 [(2,(ii 8))] (sl Qf 117 [] ⟨[],[],[some [2]],[]⟩ ⟨[],[],[]⟩ (trs 18 (bl 25 16777216)) (tt k6 (tt k5 (tt k4 (tt k3 (tt k2 (tt k1 (ww aG (tt k0 nn))))))))))))) (fun k5=>(lr 34 53 [1,1,0,1,0,0,1,0,0,1,0,0] 1 3 [(2,(ii 8))] (sl Qf 117 [] ⟨[],[],[some [2]],[]⟩ ⟨[],[],[]⟩ (trs 15 (bl 28 134217728)) (tt k5 (tt k4 (tt k3 (tt k2 (tt k1 (ww aG (tt k0 nn)))))))))))) (fun k4=>(lr 34 53 [1,1,0,1,0,0,1,0,0,1,0,0] 1 3 [(2,(ii 8))] (sl Qf 117 [] ⟨[],[],[some [2]],[]⟩ ⟨[],[],[]⟩ (trs 12 (bl 31 1073741824)) (tt k4 (tt k3 (tt k2 (tt k1 (ww aG (tt k0 nn))))))))))) (fun k3=>(lr 34 53 [1,1,0,1,0,0,1,0,0,1,0,0] 1 3 [(2,(ii 8))] (sl Qf 117 [] ⟨[],[],[some [2]],[]⟩ ⟨[],[],[]⟩ (trs 9 (bl 34 8589934592)) (tt k3 (tt k2 (tt k1 (ww aG (tt k0 nn)))))))))) (fun k2=>(lr 34 53 [1,1,0,1,0,0,1,0,0,1,0,0] 1 3 [(2,(ii 8))] (sl Qf 117 [] ⟨[],[],[some [2]],[]⟩ ⟨[],[],[]⟩ (trs 5 (bl 38 137438953472)) (tt k2 (tt k1 (ww aG (tt k0 nn))))))))) (fun k1=>(lr 34 53 [1,1,0,1,0,0,1,0,0,1,0,0] 1 3 [(2,(ii 8))] (sl Qf 117 [] ⟨[],[],[some [2]],[]⟩ ⟨[],[],[]⟩ (bl 43 4398046511105) (tt k1 (ww aG (tt k0 nn))))))))) (fun k0=>(lo fun aG=>(lb (fun k1=>(lr 34 53 [1,1,1,1,0,1,0,0] 1 3 [(2,(ii 8))] (sl Qf 37 [] ⟨[],[],[some [2]],[]⟩ ⟨[],[],[]⟩ (bl 6 62) (tt k1 (pp (pp (xr l0) (pp (xI R6 0 (fun _=>[])) (xw aG))) (tt k0 nn)))))) (fun k1=>(lo fun cA=>(lb (fun k2=>(lr 34 53 [1,1,1,1,0,1,0,0] 1 3 [(2,(ii 8))] (sl Qf 37 [] ⟨[],[],[some [2]],[]⟩ ⟨[],[],[]⟩ (bl 6 32) (tt k2 (pp (pp (xI R6 (z5b 2 (cvT l0) ([]:List R6)).length (Zz (z5b 2 (cvT l0) ([]:List R6)))) (pp (xr l0) (xw cA))) (tt k1 (pp (pp (xr l0) (pp (xI R6 0 (fun _=>[])) (xw aG))) (tt k0 nn)))))))) (fun k2=>(lr 34 3 [1,1,1,1,1,1,1,0] 1 3 [(2,(ii 0))] (sl Qf 38 [] ⟨[],[],[some [2]],[]⟩ ⟨[],[],[]⟩ (bl 6 0) (tt k2 (pp (pp (xI R6 (z5b 2 (cvT l0) ([]:List R6)).length (Zz (z5b 2 (cvT l0) ([]:List R6)))) (pp (xr l0) (xw cA))) (tt k1 (pp (pp (xr l0) (pp (xI R6 0 (fun _=>[])) (xw aG))) (tt k0 nn)))))))))))))))
theorem x1d (l0:List R6):Xj prog (Zy prog 53) (u2y l0) (Ze prog 53 [(.dat l0.length (Zz l0))] true []) (z6e l0):=(lb (fun k0=>(lr 34 53 [1,0,1,0,0] 1 3 [(2,(ii 4))] (sl Qf 16 [] ⟨[],[],[some [2]],[]⟩ ⟨[],[],[]⟩ [true] (tt k0 nn)))) (fun k0=>(sl Qf 20 [] ⟨[],[],v8r,v8s⟩ ⟨[],[],[]⟩ [false] (tt k0 nn))))
theorem w6z (l0:List R6) (n:Nat) (vs:List AVal) (h:Yv (Qt l0) n (z6e l0)=.ret vs):Ky prog (Zy prog 53) (Ze prog 53 [(.dat l0.length (Zz l0))] true []) vs:=by have:=Zr (x5a l0) n _ (x1d l0);rwa [h] at this
end Go.Am
namespace Go.Am
open Go.Proofs.Tryz
open Go.Proofs
def w0t (r:R6):Bool:=decide (r.a≥ -1000000)&&(decide (r.b≥ -1000000)&&(decide (r.c≥ -1000000)&&(decide (r.a≤1000000)&&(decide (r.b≤1000000)&&(decide (r.c≤1000000)&&(decide (r.d≥ -1000000)&&(decide (r.e≥ -1000000)&&(decide (r.f≥ -1000000)&&(decide (r.d≤1000000)&&(decide (r.e≤1000000)&&(decide (r.f≤1000000)&&(decide (r.a<r.d)&&(decide (r.b<r.e)&&decide (r.c<r.f))))))))))))))
def rckF (l:List R6):Int:=bif x1z 2 l [] then (bif Jp (z5b 2 l []) l then 0 else 8) else 8
def z9h (l:List R6):Int:=bif decide (400<l.length) then 4 else bif l.all w0t then rckF l else 8
def w6x (l:List R6):Bool:=true
theorem w3a (k:Int) (l m:List R6):(z5b k l m).length ≤400∨x1z k l m=false:=by
 unfold z5b x1z;cases jsO k l m with
 | none=>exact .inl (Nat.zero_le _)
 | some out=>
  by_cases h:(out.length:Int)≤400
  ·left;show out.length≤400;omega
  ·right;exact decide_eq_false h
section
variable (l:List R6) (hl:l.length≤400)
include hl
theorem w6y : ∀(k i:Nat),i+k=l.length→(∀s∈l.take i,w0t s=true)→ ∃n,Yv (Qt l) n (.to (.h0 (i:Int)))=.ret [.int .i64 (bif l.all w0t then rckF l else 8)]
 | 0,i,h,ht=>by
  have hv:l.all w0t=true:=List.all_eq_true.2 fun s hs=>ht s (by rw [List.take_of_length_le (by omega)];exact hs);have w1:y1e 2 l []=true:=decide_eq_true ⟨by omega,by simp⟩;refine ⟨1,?_⟩;rw [Zv,hv,cond_true];unfold rckF;rcases Yf (x1z 2 l []) with q | q
  ·have w2:Vq (z5b 2 l []) l=true:=decide_eq_true (by
    rcases w3a 2 l [] with h | h
    ·omega
    ·rw [h] at q;cases q)
   rcases Yf (Jp (z5b 2 l []) l) with q2 | q2 <;>
   simp (disch:=omega) only [Qt,Za,Yw,q,q2,w1,w2,Bool.not_true,Bool.not_false,cond_true,cond_false,Zm]
  ·simp (disch:=omega) only [Qt,Za,Yw,q,w1,Bool.not_true,Bool.not_false,cond_true,cond_false,Zm]
 | k+1,i,h,ht=>by
  have hi:i<l.length:=by omega
  have hs:Qt l (.h0 (i:Int))=bif w0t (rd l i) then .to (.h0 ((i+1:Nat):Int)) else .ret [.int .i64 8]:=by simp (disch:=omega) only [Qt,w0t,y3y,z5m,x2l,Yz,Zk,Zx,Zj,Bool.and_true,cond_true,cond_false]
  rcases Yf (w0t (rd l i)) with q | q
  ·obtain ⟨n,hn⟩:=w6y k (i+1) (by omega) (fun s hs=>by
    rw [List.take_add_one] at hs;have e:l[i]? =some (rd l i):=by rw [Xu hi];exact List.getElem?_eq_getElem _
    rw [e] at hs;simp only [Option.toList_some,List.mem_append,List.mem_singleton] at hs;rcases hs with hs | rfl
    ·exact ht s hs
    ·exact q)
   refine ⟨n+1,?_⟩;rw [Zv,hs,q,cond_true];exact hn
  ·have hv:l.all w0t=false:=Bool.eq_false_iff.2 fun e=>by have:=List.all_eq_true.1 e (rd l i) (by rw [Xu hi];exact List.getElem_mem hi);rw [this] at q;cases q
   refine ⟨1,?_⟩;rw [Zv,hv,cond_false,hs,q,cond_false,Zm]
end
theorem v3h (l:List R6): ∃n,Yv (Qt l) n (z6e l)=.ret [.int .i64 (z9h l)]:=by
 unfold z6e z9h;by_cases h:400<l.length
 ·refine ⟨0,?_⟩;rw [decide_eq_true h,Ye (show (l.length:Int)>400 by omega)];rfl
 ·obtain ⟨n,hn⟩:=w6y l (by omega) l.length 0 (Nat.zero_add _) (fun s hs=>by simp at hs);refine ⟨n,?_⟩;rw [decide_eq_false h,Xv (show¬(l.length:Int)>400 by omega),cond_false,cond_false];exact hn
def fRck :List AVal→Option (AVal×Bool)
 | [a1]=>match asL R6 a1 with
  | some (L1,g1,n1)=>some (.int .i64 (z9h L1),isT R6 n1 g1&&w6x L1)
  | _=>none
 | _=>none
theorem u5j {S:Specs} (hS:Zu prog S):Zu prog (S.with w7p fRck):=by
 refine z3g hS (by kernel_rfl) fun args v h=> ?_;unfold fRck at h;split at h
 ·rename_i a1;split at h
  ·rename_i L1 g1 n1 e1;simp only [Option.some.injEq,Prod.mk.injEq,Bool.and_eq_true] at h;obtain ⟨rfl,ho1,hw⟩:=h;obtain ⟨N,hN⟩:=v3h L1;exact ⟨_,_,(.cons (asL_le e1 ho1) .nil),rfl,w6z L1 N _ hN,3,rfl⟩
  ·cases h
 ·cases h
def T9 :Specs:=T8.with w7p fRck
theorem z4g :Zu prog T9:=u5j Qf
end Go.Am
namespace Go.Am
open Go.Proofs Go.Sort Go.Shelf Go.RowKit Go.Lib
def pt (L:List R2) (y:Int):Prop:= ∃s∈L,s.a≤y∧y<s.b
structure Can (L:List R2):Prop where
 pos: ∀s∈L,s.a<s.b
 sep:L.Pairwise fun s t=>s.b<t.a
theorem Can.nil :Can []:=⟨by simp,.nil⟩
theorem Can.tail {s:R2} {L:List R2} (h:Can (s::L)):Can L:=⟨fun t ht=>h.pos t (List.mem_cons_of_mem _ ht),(List.pairwise_cons.1 h.sep).2⟩
theorem Can.head {s:R2} {L:List R2} (h:Can (s::L)): ∀t∈L,s.b<t.a:=(List.pairwise_cons.1 h.sep).1
theorem u0h {s:R2} {L:List R2} (h:Can (s::L)) {y:Int} (hy:pt (s::L) y):s.a≤y:=by
 obtain ⟨t,ht,h1,h2⟩:=hy;rcases List.mem_cons.1 ht with rfl | ht
 ·exact h1
 ·have:=h.head t ht;have:=h.pos s (by simp);omega
theorem v0n : ∀(L M:List R2),Can L→Can M→(∀y,pt L y↔pt M y)→L=M
 | [],[],_,_,_=>rfl
 | [],t::M,_,hM,h=>by have:=(h t.a).2 ⟨t,by simp,Int.le_refl _,hM.pos t (by simp)⟩;obtain ⟨s,hs,_⟩:=this;cases hs
 | s::L,[],hL,_,h=>by have:=(h s.a).1 ⟨s,by simp,Int.le_refl _,hL.pos s (by simp)⟩;obtain ⟨s,hs,_⟩:=this;cases hs
 | s::L,t::M,hL,hM,h=>by
  have p1:=hL.pos s (by simp);have p2:=hM.pos t (by simp);have a1:t.a≤s.a:=u0h hM ((h s.a).1 ⟨s,by simp,Int.le_refl _,p1⟩);have a2:s.a≤t.a:=u0h hL ((h t.a).2 ⟨t,by simp,Int.le_refl _,p2⟩);have b1: ¬s.b<t.b:=fun hb=>by
   obtain ⟨u,hu,h1,h2⟩:=(h s.b).2 ⟨t,by simp,by omega,hb⟩;rcases List.mem_cons.1 hu with rfl | hu
   ·omega
   ·have:=hL.head u hu;omega
  have b2: ¬t.b<s.b:=fun hb=>by
   obtain ⟨u,hu,h1,h2⟩:=(h t.b).1 ⟨s,by simp,by omega,hb⟩;rcases List.mem_cons.1 hu with rfl | hu
   ·omega
   ·have:=hM.head u hu;omega
  have e:s=t:=by
   obtain ⟨sa,sb⟩:=s;obtain ⟨ta,tb⟩:=t;simp only at a1 a2 b1 b2;have:sa=ta:=by omega
   have:sb=tb:=by omega
   subst_vars;rfl
  subst e
  congr 1
  refine v0n L M hL.tail hM.tail fun y=>⟨fun hy=> ?_,fun hy=> ?_⟩
  ·obtain ⟨u,hu,h1,h2⟩:=hy;have g:=hL.head u hu;obtain ⟨v,hv,h3,h4⟩:=(h y).1 ⟨u,by simp [hu],h1,h2⟩;rcases List.mem_cons.1 hv with rfl | hv
   ·omega
   ·exact ⟨v,hv,h3,h4⟩
  ·obtain ⟨u,hu,h1,h2⟩:=hy;have g:=hM.head u hu;obtain ⟨v,hv,h3,h4⟩:=(h y).2 ⟨u,by simp [hu],h1,h2⟩;rcases List.mem_cons.1 hv with rfl | hv
   ·omega
   ·exact ⟨v,hv,h3,h4⟩
def push (out:List R2) (x x':Int):List R2:=
 bif decide (0<out.length)&&((rd out (out.length - 1)).b == x) then out.set (out.length - 1) ⟨(rd out (out.length - 1)).a,x'⟩ else out++[⟨x,x'⟩]
theorem w7c (out:List R2) (s:R2) (x x':Int):push (out++[s]) x x'=bif s.b == x then out++[⟨s.a,x'⟩] else out++[s]++[⟨x,x'⟩]:=by
 have e:rd (out++[s]) ((out++[s]).length - 1)=s:=by rw [Vt (by simp)];simp [rd]
 unfold push;rw [e,decide_eq_true (by simp),Bool.true_and];cases (s.b == x)
 ·rfl
 ·simp
theorem x9b {out:List R2} {x x':Int} (hc:Can out) (hb: ∀s∈out,s.b≤x) (hx:x<x'):
  Can (push out x x')∧(∀s∈push out x x',s.b≤x')∧ ∀y,pt (push out x x') y↔pt out y∨(x≤y∧y<x'):=by
 rcases List.eq_nil_or_concat out with rfl | ⟨L,s,rfl⟩
 ·refine ⟨⟨?_,?_⟩,?_,fun y=> ?_⟩
  ·intro s hs;simp [push] at hs;subst hs;exact hx
  ·simp [push]
  ·intro s hs;simp [push] at hs;subst hs;exact Int.le_refl _
  ·simp [push,pt]
 ·rw [List.concat_eq_append] at*;rw [w7c];have hs:=hb s (by simp);have hp:=hc.pos s (by simp);have sep:=List.pairwise_append.1 hc.sep;rcases Yf (s.b == x) with q | q
  ·rw [q,cond_true];have q:s.b=x:=by simpa using q
   refine ⟨⟨?_,?_⟩,?_,fun y=> ?_⟩
   ·intro t ht;rcases List.mem_append.1 ht with ht | ht
    ·exact hc.pos t (by simp [ht])
    ·rw [List.mem_singleton.1 ht];show s.a<x';omega
   ·refine List.pairwise_append.2 ⟨sep.1,List.pairwise_singleton _ _,fun t ht u hu=> ?_⟩;rw [List.mem_singleton.1 hu];exact sep.2.2 t ht s (by simp)
   ·intro t ht;rcases List.mem_append.1 ht with ht | ht
    ·have:=hb t (by simp [ht]);omega
    ·rw [List.mem_singleton.1 ht];exact Int.le_refl _
   ·constructor
    ·rintro ⟨t,ht,h1,h2⟩;rcases List.mem_append.1 ht with ht | ht
     ·exact .inl ⟨t,by simp [ht],h1,h2⟩
     ·rw [List.mem_singleton.1 ht] at h1 h2;by_cases hy:y<s.b
      ·exact .inl ⟨s,by simp,h1,hy⟩
      ·exact .inr ⟨by omega,h2⟩
    ·rintro (⟨t,ht,h1,h2⟩ | ⟨h1,h2⟩)
     ·rcases List.mem_append.1 ht with ht | ht
      ·exact ⟨t,by simp [ht],h1,h2⟩
      ·rw [List.mem_singleton.1 ht] at h1 h2;exact ⟨⟨s.a,x'⟩,by simp,h1,by show y<x';omega⟩
     ·exact ⟨⟨s.a,x'⟩,by simp,by show s.a≤y;omega,h2⟩
  ·rw [q,cond_false];have q:s.b≠x:=by simpa using q
   refine ⟨⟨?_,?_⟩,?_,fun y=> ?_⟩
   ·intro t ht;rcases List.mem_append.1 ht with ht | ht
    ·exact hc.pos t ht
    ·rw [List.mem_singleton.1 ht];exact hx
   ·refine List.pairwise_append.2 ⟨hc.sep,List.pairwise_singleton _ _,fun t ht u hu=> ?_⟩;rw [List.mem_singleton.1 hu];show t.b<x;rcases List.mem_append.1 ht with h | h
    ·have h1:=sep.2.2 t h s (by simp);omega
    ·rw [List.mem_singleton.1 h];omega
   ·intro t ht;rcases List.mem_append.1 ht with ht | ht
    ·have:=hb t ht;omega
    ·rw [List.mem_singleton.1 ht];exact Int.le_refl _
   ·constructor
    ·rintro ⟨t,ht,h1,h2⟩;rcases List.mem_append.1 ht with ht | ht
     ·exact .inl ⟨t,ht,h1,h2⟩
     ·rw [List.mem_singleton.1 ht] at h1 h2;exact .inr ⟨h1,h2⟩
    ·rintro (⟨t,ht,h1,h2⟩ | ⟨h1,h2⟩)
     ·exact ⟨t,List.mem_append.2 (.inl ht),h1,h2⟩
     ·exact ⟨⟨x,x'⟩,by simp,h1,h2⟩
theorem y4y {l:List Int} (h:l.Pairwise (· < ·)) {i j:Nat} (hij:i<j) (hj:j<l.length):rd l i<rd l j:=by rw [Xu (by omega),Xu hj];exact List.pairwise_iff_getElem.1 h i j (by omega) hj hij
theorem y9p (cuts:List Int) (ins:List Bool) (hc:cuts.Pairwise (· < ·)): ∀(k i:Nat) (out:List R2),i+k<cuts.length∨k=0→Can out→(∀s∈out,s.b≤rd cuts i)→
  Can (w4o cuts ins k i out)∧ ∀y,pt (w4o cuts ins k i out) y↔pt out y∨ ∃j,i≤j∧j<i+k∧rd ins j=true∧rd cuts j≤y∧y<rd cuts (j+1)
 | 0,i,out,h,ho,hb=>⟨ho,fun y=>⟨.inl,fun hy=>hy.elim id fun ⟨j,h1,h2,_⟩=>by omega⟩⟩
 | k +1,i,out,h,ho,hb=>by
  have hlt:rd cuts i<rd cuts (i+1):=y4y hc (Nat.lt_succ_self _) (by omega);obtain ⟨p1,p2,p3⟩:=x9b ho hb hlt;have e:w4o cuts ins (k+1) i out=w4o cuts ins k (i+1) (bif rd ins i then push out (rd cuts i) (rd cuts (i+1)) else out):=rfl;rw [e];rcases Yf (rd ins i) with q | q
  ·rw [q,cond_true];obtain ⟨r1,r2⟩:=y9p cuts ins hc k (i+1) (push out (rd cuts i) (rd cuts (i+1))) (by omega) p1 p2;refine ⟨r1,fun y=> ?_⟩;rw [r2,p3];constructor
   ·rintro ((h | h) | ⟨j,h1,h2,h3⟩)
    ·exact .inl h
    ·exact .inr ⟨i,Nat.le_refl _,by omega,q,h⟩
    ·exact .inr ⟨j,by omega,by omega,h3⟩
   ·rintro (h | ⟨j,h1,h2,h3⟩)
    ·exact .inl (.inl h)
    ·rcases Nat.eq_or_lt_of_le h1 with rfl | h1
     ·exact .inl (.inr h3.2)
     ·exact .inr ⟨j,h1,by omega,h3⟩
  ·rw [q,cond_false];obtain ⟨r1,r2⟩:=y9p cuts ins hc k (i+1) out (by omega) ho (fun s hs=>by have:=hb s hs;omega);refine ⟨r1,fun y=> ?_⟩;rw [r2];constructor
   ·rintro (h | ⟨j,h1,h2,h3⟩)
    ·exact .inl h
    ·exact .inr ⟨j,by omega,by omega,h3⟩
   ·rintro (h | ⟨j,h1,h2,h3⟩)
    ·exact .inl h
    ·rcases Nat.eq_or_lt_of_le h1 with rfl | h1
     ·rw [q] at h3;cases h3.1
     ·exact .inr ⟨j,h1,by omega,h3⟩
theorem x7k {cuts:List Int}: ∀(k:Nat),k<cuts.length→ ∀y,rd cuts 0≤y→y<rd cuts k→ ∃j,j<k∧rd cuts j≤y∧y<rd cuts (j+1)
 | 0,_,y,h1,h2=>by omega
 | k+1,hk,y,h1,h2=>by
  by_cases h:rd cuts k≤y
  ·exact ⟨k,Nat.lt_succ_self _,h,h2⟩
  ·obtain ⟨j,h3,h4⟩:=x7k k (by omega) y h1 (by omega);exact ⟨j,by omega,h4⟩
theorem v6b (cuts:List Int) (hc:cuts.Pairwise (· < ·)) (P:Int→Bool) (S:List R2) (hS: ∀s∈S,s.a∈cuts∧s.b∈cuts) (hP: ∀y,P y=true↔pt S y):
  Can (z9v cuts (cuts.map P))∧ ∀y,pt (z9v cuts (cuts.map P)) y↔pt S y:=by
 obtain ⟨r1,r2⟩:=y9p cuts (cuts.map P) hc (cuts.length - 1) 0 [] (by omega) .nil (by simp);refine ⟨r1,fun y=> ?_⟩;unfold z9v;rw [r2];have hin: ∀x,x∈cuts→ ∃i,i<cuts.length∧rd cuts i=x:=fun x hx=>by obtain ⟨i,hi,h⟩:=List.getElem_of_mem hx;exact ⟨i,hi,by rw [Xu hi];exact h⟩
 have hmap: ∀j,j<cuts.length→rd (cuts.map P) j=P (rd cuts j):=fun j hj=>by rw [Xu (by simpa using hj),Xu hj,List.getElem_map]
 have le_of: ∀i j,i<cuts.length→j<cuts.length→i≤j→rd cuts i≤rd cuts j:=fun i j hi hj hij=>by
  rcases Nat.eq_or_lt_of_le hij with rfl | h
  ·exact Int.le_refl _
  ·exact Int.le_of_lt (y4y hc h hj)
 constructor
 ·rintro (⟨s,hs,_⟩ | ⟨j,h1,h2,h3,h4,h5⟩)
  ·cases hs
  ·have hj:j+1<cuts.length:=by omega
   rw [hmap j (by omega)] at h3;obtain ⟨s,hs,a1,a2⟩:=(hP _).1 h3;obtain ⟨ca,cb⟩:=hS s hs;obtain ⟨m,hm,em⟩:=hin s.b cb;refine ⟨s,hs,by omega,?_⟩;have:j<m:=by
    rcases Nat.lt_or_ge j m with h | h
    ·exact h
    ·have:=le_of m j hm (by omega) h;omega
   have:=le_of (j+1) m hj hm this;omega
 ·rintro ⟨s,hs,a1,a2⟩;right;obtain ⟨ca,cb⟩:=hS s hs;obtain ⟨n,hn,en⟩:=hin s.a ca;obtain ⟨m,hm,em⟩:=hin s.b cb;have h0:=le_of 0 n (by omega) hn (Nat.zero_le _);obtain ⟨j,h1,h2,h3⟩:=x7k m hm y (by omega) (by omega);refine ⟨j,Nat.zero_le _,by omega,?_,h2,h3⟩;rw [hmap j (by omega),hP];refine ⟨s,hs,?_,?_⟩
  ·have:n≤j:=by
    rcases Nat.lt_or_ge j n with h | h
    ·have:=le_of (j+1) n (by omega) hn h;omega
    ·exact h
   have:=le_of n j hn (by omega) this;omega
  ·omega
end Go.Am
namespace Go.Am
open Go.Proofs Go.Sort Go.Shelf Go.RowKit Go.Lib
def net (E:List R3) (y:Int):Int:=(E.map fun e=>if e.a≤y then e.c else 0).sum
theorem Ko (e:R3) (E:List R3) (y:Int):net (e::E) y=(if e.a≤y then e.c else 0)+net E y:=by simp [net]
theorem v3s {E F:List R3} (h:E.Perm F) (y:Int):net E y=net F y:=by
 induction h with
 | nil=>rfl
 | cons e _ ih=>rw [Ko,Ko,ih]
 | swap a b l=>simp only [Ko];omega
 | trans _ _ i1 i2=>rw [i1,i2]
theorem x9e (E:List R3) (y:Int) (h: ∀e∈E,y<e.a):net E y=0:=by
 induction E with
 | nil=>rfl
 | cons e E ih=>rw [Ko,if_neg (by have:=h e (by simp);omega),ih fun f hf=>h f (by simp [hf])];rfl
theorem v0i (out:List R2) (last:Int) (inn:Bool) (x:Int):Vj out last inn x=bif inn&& !(last == x) then push out last x else out:=by
 unfold Vj push;cases inn
 ·rfl
 ·cases (last == x) <;> rfl
theorem y7k {out:List R2} {last x:Int} (inn:Bool) (hc:Can out) (hb: ∀s∈out,s.b≤last) (hx:last≤x):
  Can (Vj out last inn x)∧(∀s∈Vj out last inn x,s.b≤x)∧ ∀y,pt (Vj out last inn x) y↔pt out y∨(inn=true∧last≤y∧y<x):=by
 rw [v0i];rcases Yf (inn&& !(last == x)) with q | q
 ·rw [q,cond_true];simp only [Bool.and_eq_true,Bool.not_eq_true',beq_eq_false_iff_ne,ne_eq] at q;obtain ⟨p1,p2,p3⟩:=x9b hc hb (show last<x by omega);refine ⟨p1,p2,fun y=> ?_⟩;rw [p3];simp [q.1]
 ·rw [q,cond_false];refine ⟨hc,fun s hs=>by have:=hb s hs;omega,fun y=>⟨.inl,fun h=>h.elim id fun ⟨h1,h2,h3⟩=> ?_⟩⟩;rw [h1,Bool.true_and] at q;have:last=x:=by simpa using q
  omega
def Asc (E:List R3):Prop:=E.Pairwise fun e f=>e.a≤f.a
theorem w4x : ∀(E:List R3) (o last:Int) (out:List R2),Asc E→(∀e∈E,last≤e.a)→Can out→(∀s∈out,s.b≤last)→
  Can (swF E o last (decide (o>0)) out)∧ ∀y,pt (swF E o last (decide (o>0)) out) y↔pt out y∨(last≤y∧0<o+net E y∧ ∃e∈E,y<e.a)
 | [],o,last,out,_,_,hc,_=>⟨hc,fun y=>⟨.inl,fun h=>h.elim id fun ⟨_,_,e,he,_⟩=>by cases he⟩⟩
 | e ::r,o,last,out,hE,hl,hc,hb=>by
  have he:=hl e (by simp);have hr:=List.pairwise_cons.1 hE;obtain ⟨p1,p2,p3⟩:=y7k (decide (o>0)) hc hb he;obtain ⟨q1,q2⟩:=w4x r (o+e.c) e.a (Vj out last (decide (o>0)) e.a) hr.2 hr.1 p1 p2;rw [y0h];refine ⟨q1,fun y=> ?_⟩;rw [q2,p3,Ko];constructor
  ·rintro ((h | ⟨h1,h2,h3⟩) | ⟨h1,h2,f,hf,h3⟩)
   ·exact .inl h
   ·right;have h1:=of_decide_eq_true h1;refine ⟨h2,?_,e,by simp,h3⟩;rw [if_neg (by omega),x9e r y fun f hf=>by have:=hr.1 f hf;omega];omega
   ·right;refine ⟨by omega,?_,f,by simp [hf],h3⟩;rw [if_pos h1];omega
  ·rintro (h | ⟨h1,h2,f,hf,h3⟩)
   ·exact .inl (.inl h)
   ·by_cases hy:e.a≤y
    ·right;rw [if_pos hy] at h2;refine ⟨hy,by omega,f,?_,h3⟩;rcases List.mem_cons.1 hf with rfl | hf
     ·omega
     ·exact hf
    ·left;right;rw [if_neg hy,x9e r y fun f hf=>by have:=hr.1 f hf;omega] at h2;exact ⟨decide_eq_true (by omega),h1,by omega⟩
theorem v3t (l:List R2) (hv: ∀s∈l,s.a<s.b) (y:Int):0≤net (Je l) y∧(0<net (Je l) y↔pt l y):=by
 induction l with
 | nil=>exact ⟨Int.le_refl _,by simp [net,Je,pt]⟩
 | cons s l ih=>
  obtain ⟨i1,i2⟩:=ih fun t ht=>hv t (by simp [ht]);have hs:=hv s (by simp);have e:net (Je (s::l)) y=(if s.a≤y∧y<s.b then 1 else 0)+net (Je l) y:=by
   show net (⟨s.a,0,1⟩::⟨s.b,0,-1⟩::Je l) y=_;rw [Ko,Ko];show (if s.a≤y then (1:Int) else 0)+((if s.b≤y then (-1:Int) else 0)+net (Je l) y)=_;by_cases h1:s.a≤y
   ·by_cases h2:s.b≤y
    ·rw [if_pos h1,if_pos h2,if_neg (show¬(s.a≤y∧y<s.b) by omega)];omega
    ·rw [if_pos h1,if_neg h2,if_pos (show s.a≤y∧y<s.b by omega)];omega
   ·rw [if_neg h1,if_neg (show¬s.b≤y by omega),if_neg (show¬(s.a≤y∧y<s.b) by omega)];omega
  rw [e];by_cases h:s.a≤y∧y<s.b
  ·rw [if_pos h];exact ⟨by omega,⟨fun _=>⟨s,by simp,h⟩,fun _=>by omega⟩⟩
  ·rw [if_neg h];refine ⟨by omega,?_⟩;rw [Int.zero_add,i2];constructor
   ·rintro ⟨t,ht,h2⟩;exact ⟨t,by simp [ht],h2⟩
   ·rintro ⟨t,ht,h2⟩;rcases List.mem_cons.1 ht with rfl | ht
    ·exact absurd h2 h
    ·exact ⟨t,ht,h2⟩
theorem y3n {l:List R2} {s:R2} (h:s∈l):(⟨s.b,0,-1⟩:R3)∈Je l∧(⟨s.a,0,1⟩:R3)∈Je l:=
 ⟨List.mem_flatMap.2 ⟨s,h,by simp⟩,List.mem_flatMap.2 ⟨s,h,by simp⟩⟩
theorem x8h (l:List R3) (h:z9w l=true):Asc (Qs l):=by refine List.pairwise_iff_getElem.2 fun i j hi hj hij=> ?_;have:=(Kv l h).2 i j hij hj;rwa [Xu hi,Xu hj] at this
theorem x3r (l:List R2) (hv:l.all Qr=true):Can (swV l)∧ ∀y,pt (swV l) y↔pt l y:=by
 have hb:z9w (Je l)=true:=List.all_eq_true.2 fun e he=>by obtain ⟨s,hs,h1⟩:=List.mem_flatMap.1 he;have hv:=List.all_eq_true.1 hv s hs;simp only [Qr,Bool.and_eq_true,decide_eq_true_eq] at hv;simp only [List.mem_cons,List.not_mem_nil,or_false] at h1;rcases h1 with rfl | rfl <;> exact decide_eq_true (by simp only;omega)
 have hpos: ∀s∈l,s.a<s.b:=fun s hs=>by have:=List.all_eq_true.1 hv s hs;simp only [Qr,Bool.and_eq_true,decide_eq_true_eq] at this;exact this.1
 obtain ⟨hp,_⟩:=Kv (Je l) hb;have ha:=x8h (Je l) hb;have hn: ∀y,net (Qs (Je l)) y=net (Je l) y:=fun y=>v3s hp y;unfold swV;generalize Qs (Je l)=E at hp ha hn;cases E with
 | nil=>refine ⟨.nil,fun y=>⟨fun ⟨s,hs,_⟩=>(by cases hs),fun ⟨s,hs,_⟩=> ?_⟩⟩;have:=hp.mem_iff.2 (y3n hs).1;cases this
 | cons e r=>
  have hr:=List.pairwise_cons.1 ha;rw [y0h,Int.zero_add];have e0:Vj [] 0 false e.a=[]:=rfl;rw [e0];obtain ⟨q1,q2⟩:=w4x r e.c e.a [] hr.2 hr.1 .nil (by simp);refine ⟨q1,fun y=> ?_⟩;rw [q2];obtain ⟨n1,n2⟩:=v3t l hpos y;rw [←n2,←hn,Ko];constructor
  ·rintro (⟨s,hs,_⟩ | ⟨h1,h2,_⟩)
   ·cases hs
   ·rw [if_pos h1];omega
  ·intro h;have hpt:=n2.1 (by rw [←hn,Ko];exact h);obtain ⟨s,hs,s1,s2⟩:=hpt;have m1:=hp.mem_iff.2 (y3n hs).1;have m2:=hp.mem_iff.2 (y3n hs).2;have hea:e.a≤y:=by
    rcases List.mem_cons.1 m2 with h' | h'
    ·rw [←h'];exact s1
    ·have h'':e.a≤s.a:=hr.1 _ h';omega
   right;rw [if_pos hea] at h;refine ⟨hea,h,⟨s.b,0,-1⟩,?_,s2⟩;rcases List.mem_cons.1 m1 with h' | h'
   ·have h'':e.a=s.b:=(by rw [←h']);omega
   ·exact h'
theorem x1i (out:List Int) (hs:out.Pairwise (· < ·)) (x:Int): ∀k,k≤out.length→x5f out x k≤k∧(∀i,x5f out x k≤i→i<k→x<rd out i)∧(0<x5f out x k→rd out (x5f out x k - 1)≤x)
 | 0,_=>⟨Nat.le_refl _,fun i h1 h2=>by omega,fun h=>by simp [x5f] at h⟩
 | k+1,hk=>by
  unfold x5f;rcases Yf (decide (rd out k>x)) with q | q
  ·rw [q,cond_true];obtain ⟨h1,h2,h3⟩:=x1i out hs x k (by omega);refine ⟨by omega,fun i a b=> ?_,h3⟩;rcases Nat.eq_or_lt_of_le (Nat.le_of_lt_succ b) with rfl | b
   ·exact of_decide_eq_true q
   ·exact h2 i a b
  ·rw [q,cond_false];exact ⟨Nat.le_refl _,fun i a b=>by omega,fun _=>by have:=of_decide_eq_false q;simp only [Nat.add_sub_cancel];omega⟩
theorem w8r (out:List Int) (hs:out.Pairwise (· < ·)) (x:Int):(y3d out x).Pairwise (· < ·)∧ ∀y,y∈y3d out x↔y∈out∨y=x:=by
 obtain ⟨h1,h2,h3⟩:=x1i out hs x out.length (Nat.le_refl _);unfold y3d;split
 ·rename_i h0;rw [h0] at h2;refine ⟨List.pairwise_cons.2 ⟨fun y hy=> ?_,hs⟩,fun y=>by simp [or_comm]⟩;obtain ⟨i,hi,rfl⟩:=List.getElem_of_mem hy;have:=h2 i (Nat.zero_le _) hi;rwa [Xu hi] at this
 ·rename_i k hk;rw [hk] at h1 h2 h3;have h3:rd out k≤x:=h3 (Nat.succ_pos _);have hkl:k<out.length:=by omega
  rcases Yf (rd out k == x) with q | q
  ·rw [q,cond_true];have q:rd out k=x:=by simpa using q
   refine ⟨hs,fun y=>⟨.inl,fun h=>h.elim id fun e=> ?_⟩⟩;rw [e,←q,Xu hkl];exact List.getElem_mem hkl
  ·rw [q,cond_false];have q:rd out k≠x:=by simpa using q
   refine ⟨?_,fun y=> ?_⟩
   ·have st:(out.take (k+1)).Pairwise (· < ·):=hs.sublist (List.take_sublist _ _);have sd:(out.drop (k+1)).Pairwise (· < ·):=hs.sublist (List.drop_sublist _ _);have ht: ∀y∈out.take (k+1),y<x:=fun y hy=>by
     obtain ⟨i,hi,rfl⟩:=List.getElem_of_mem hy;have hi':i<k+1:=by simp at hi;omega
     rw [List.getElem_take];have:rd out i≤rd out k:=by
      rcases Nat.eq_or_lt_of_le (Nat.le_of_lt_succ hi') with rfl | h
      ·exact Int.le_refl _
      ·exact Int.le_of_lt (y4y hs h hkl)
     rw [Xu (show i<out.length by omega)] at this;omega
    have hd: ∀y∈out.drop (k+1),x<y:=fun y hy=>by
     obtain ⟨i,hi,rfl⟩:=List.getElem_of_mem hy;have hi':k+1+i<out.length:=by simp at hi;omega
     rw [List.getElem_drop,←Xu hi'];exact h2 _ (by omega) hi'
    refine List.pairwise_append.2 ⟨st,List.pairwise_cons.2 ⟨hd,sd⟩,fun a ha b hb=> ?_⟩;rcases List.mem_cons.1 hb with rfl | hb
    ·exact ht a ha
    ·exact Int.lt_trans (ht a ha) (hd b hb)
   ·rw [List.mem_append,List.mem_cons];constructor
    ·rintro (h | h | h)
     ·exact .inl (List.mem_of_mem_take h)
     ·exact .inr h
     ·exact .inl (List.mem_of_mem_drop h)
    ·rintro (h | h)
     ·rw [←List.take_append_drop (k+1) out,List.mem_append] at h;exact h.elim .inl fun h=>.inr (.inr h)
     ·exact .inr (.inl h)
theorem Xc (l:List Int):(z2g l).Pairwise (· < ·)∧ ∀y,y∈z2g l↔y∈l:=by
 have: ∀(l out:List Int),out.Pairwise (· < ·)→(l.foldl y3d out).Pairwise (· < ·)∧ ∀y,y∈l.foldl y3d out↔y∈out∨y∈l:=by
  intro l
  induction l with
  | nil=>intro out h;exact ⟨h,fun y=>by simp⟩
  | cons x l ih=>intro out h;obtain ⟨a,b⟩:=w8r out h x;obtain ⟨c,d⟩:=ih (y3d out x) a;refine ⟨c,fun y=> ?_⟩;show y∈l.foldl y3d (y3d out x)↔_;rw [d,b,List.mem_cons,or_assoc]
 obtain ⟨a,b⟩:=this l [] .nil;exact ⟨a,fun y=>by rw [z2g,b];simp⟩
theorem z9n : ∀(l m:List Int),l.Pairwise (· < ·)→m.Pairwise (· < ·)→(∀x,x∈l↔x∈m)→l=m
 | [],[],_,_,_=>rfl
 | [],b::m,_,_,h=>by have:=(h b).2 (by simp);cases this
 | a::l,[],_,_,h=>by have:=(h a).1 (by simp);cases this
 | a::l,b::m,hl,hm,h=>by
  obtain ⟨a1,a2⟩:=List.pairwise_cons.1 hl;obtain ⟨b1,b2⟩:=List.pairwise_cons.1 hm;have e:a=b:=by
   have x1:=(h a).1 (by simp);have x2:=(h b).2 (by simp);rcases List.mem_cons.1 x1 with x1 | x1
   ·exact x1
   rcases List.mem_cons.1 x2 with x2 | x2
   ·exact x2.symm
   have:=b1 a x1;have:=a1 b x2;omega
  subst e
  congr 1
  refine z9n l m a2 b2 fun x=>⟨fun hx=> ?_,fun hx=> ?_⟩
  ·rcases List.mem_cons.1 ((h x).1 (by simp [hx])) with e | e
   ·have:=a1 x hx;omega
   ·exact e
  ·rcases List.mem_cons.1 ((h x).2 (by simp [hx])) with e | e
   ·have:=b1 x hx;omega
   ·exact e
theorem z9p (zs:List Int) (hs:zs.Pairwise (· ≤ ·)): ∀m,m≤zs.length→(compactUpTo zs.toArray m).Pairwise (· < ·)∧ ∀x,x∈compactUpTo zs.toArray m↔x∈zs.take m
 | 0,_=>by simp [compactUpTo]
 | m +1,h=>by
  obtain ⟨h1,h2⟩:=z9p zs hs m (by omega);have hg: ∀j (hj:j<zs.length),zs.toArray[j]! =zs[j]:=fun j hj=>by simp [hj]
  have hle: ∀i j (hi:i<zs.length) (hj:j<zs.length),i<j→zs[i]≤zs[j]:=fun i j hi hj hij=>List.pairwise_iff_getElem.1 hs i j hi hj hij;have hm:m<zs.length:=by omega
  rw [compactUpTo_succ,hg m hm,List.take_succ_eq_append_getElem hm];by_cases hk:keeps zs.toArray m=true
  ·rw [if_pos hk];refine ⟨List.pairwise_append.2 ⟨h1,List.pairwise_singleton _ _,fun x hx y hy=> ?_⟩,fun x=>by rw [List.mem_append,List.mem_append,h2 x]⟩;rw [List.mem_singleton.1 hy];obtain ⟨i,hi,rfl⟩:=List.getElem_of_mem ((h2 x).1 hx);have hi':i<m:=by simp at hi;omega
   rw [List.getElem_take];simp only [keeps,decide_eq_true_eq] at hk;rcases hk with hk | hk
   ·omega
   ·rw [hg m hm,hg (m - 1) (by omega)] at hk;have k1:zs[i]≤zs[m - 1]:=by
     rcases Nat.lt_or_ge i (m - 1) with q | q
     ·exact hle i (m - 1) _ _ q
     ·have e:i=m - 1:=(by omega);subst e;exact Int.le_refl _
    have k2:=hle (m - 1) m (by omega) hm (by omega);omega
  ·rw [if_neg hk,List.append_nil];refine ⟨h1,fun x=> ?_⟩;rw [h2 x,List.mem_append,List.mem_singleton];refine ⟨.inl,fun hx=>hx.elim id fun e=> ?_⟩;simp only [keeps,decide_eq_true_eq,not_or,Decidable.not_not] at hk;rw [hg m hm,hg (m - 1) (by omega)] at hk;rw [e,hk.2];have:m - 1<(zs.take m).length :=by simp;omega
   have e2:(zs.take m)[m - 1]=zs[m - 1]:=List.getElem_take;rw [←e2];exact List.getElem_mem this
theorem srt_le (zs:List Int):(Yh zs).Pairwise (· ≤ ·):=by have:=List.pairwise_mergeSort (le:=fun x y:Int=>decide (x≤y)) (fun a b c h1 h2=>by simp at*;omega) (fun a b=>by simp;omega) zs;exact this.imp fun h=>by simpa using h
theorem u0y (zs:List Int) (x:Int):x∈Yh zs↔x∈zs:=List.mem_mergeSort
theorem Uv (zs:List Int):Ug zs=z2g zs:=by obtain ⟨h1,h2⟩:=z9p (Yh zs) (srt_le zs) (Yh zs).length (Nat.le_refl _);obtain ⟨s1,s2⟩:=Xc zs;refine z9n _ _ h1 s1 fun x=> ?_;rw [show Ug zs=compactUpTo (Yh zs).toArray (Yh zs).length from rfl,h2 x,List.take_length,u0y,s2]
end Go.Am
namespace Go.Am
open Go.Proofs Go.Sort Go.Shelf Go.RowKit Go.Lib
namespace Dim
variable {α β:Type} (D:Dim α β)
def ref (sec:Int→List β) (cs:List Int):Nat→Nat→List α→List β→Nat→List α
 | 0,_,out,_,_=>out
 | k+1,i,out,last,first=>
  bif decide (0<i)&&D.same (sec (rd cs i)) last then ref sec cs k (i+1) (D.grow out first (rd cs (i+1))) last first
  else ref sec cs k (i+1) (out++(sec (rd cs i)).map (D.put (rd cs i) (rd cs (i+1)))) (sec (rd cs i)) out.length
theorem ref_eq (hs: ∀a b,D.same a b=true↔a=b) (l:List α): ∀(k i:Nat) (s:Sw α β) (out:List α) (last:List β) (first:Nat),
  s.out=out→s.last=last→(last≠ []→s.first=first)→(last=[]→out.length≤first)→(0<i→s.fin=rd (D.cuts l) i)→(i=0→last=[])→
  (D.go l k i s).out =D.ref (D.sec l) (D.cuts l) k i out last first
 | 0,i,s,out,last,first,h1,h2,h3,h4,h5,h6=>h1
 | k +1,i,s,out,last,first,h1,h2,h3,h4,h5,h6=>by
  subst h1 h2;have e1:D.go l (k+1) i s=D.go l k (i+1) (D.one l (rd (D.cuts l) i) (rd (D.cuts l) (i+1)) s):=rfl;rw [e1];unfold ref;rcases Yf (decide (0<(D.sec l (rd (D.cuts l) i)).length)&&((s.fin == rd (D.cuts l) i)&&D.same s.last (D.sec l (rd (D.cuts l) i)))) with q | q
  ·have e:D.one l (rd (D.cuts l) i) (rd (D.cuts l) (i+1)) s=⟨D.grow s.out s.first (rd (D.cuts l) (i+1)),s.last,s.first,rd (D.cuts l) (i+1)⟩:=by unfold one;rw [q];rfl
   simp only [Bool.and_eq_true,decide_eq_true_eq] at q;obtain ⟨q1,q2,q3⟩:=q;have q3:=(hs _ _).1 q3;have hne:s.last≠ []:=fun h=>by rw [h] at q3;rw [←q3] at q1;exact Nat.lt_irrefl _ q1
   have hi:0<i:=Nat.pos_of_ne_zero fun h=>hne (h6 h);have e2:(decide (0<i)&&D.same (D.sec l (rd (D.cuts l) i)) s.last)=true:=by rw [decide_eq_true hi,Bool.true_and,hs,q3]
   rw [e2,cond_true,e];refine ref_eq hs l k (i+1) _ _ _ _ ?_ rfl h3 (fun h=>absurd h hne) (fun _=>rfl) (fun h=>by omega);rw [h3 hne]
  ·have e:D.one l (rd (D.cuts l) i) (rd (D.cuts l) (i+1)) s=⟨s.out++(D.sec l (rd (D.cuts l) i)).map (D.put (rd (D.cuts l) i) (rd (D.cuts l) (i+1))),D.sec l (rd (D.cuts l) i),s.out.length,rd (D.cuts l) (i+1)⟩:=by unfold one;rw [q];rfl
   rcases Yf (decide (0<i)&&D.same (D.sec l (rd (D.cuts l) i)) s.last) with q2 | q2
   ·rw [q2,cond_true,e];simp only [Bool.and_eq_true,decide_eq_true_eq] at q2;obtain ⟨hi,q3⟩:=q2;have q3:=(hs _ _).1 q3;rw [(hs s.last (D.sec l (rd (D.cuts l) i))).2 q3.symm,Bool.and_true,h5 hi] at q;have hz:D.sec l (rd (D.cuts l) i)=[]:=by
     cases h:D.sec l (rd (D.cuts l) i) with
     | nil=>rfl
     | cons a b=>rw [h] at q;simp at q
    have hl:s.last=[]:=(by rw [←q3,hz]);have hf:=h4 hl;rw [hz,List.map_nil,List.append_nil];refine ref_eq hs l k (i+1) _ _ _ _ ?_ hl.symm (fun h=>absurd hl h) (fun _=> ?_) (fun _=>rfl) (fun h=>by omega)
    ·exact (D.grow_nil _ _ _ hf).symm
    ·rw [D.grow_length];exact hf
   ·rw [q2,cond_false,e];exact ref_eq hs l k (i+1) _ _ _ _ rfl rfl (fun _=>rfl) (fun h=>by rw [h];simp) (fun _=>rfl) (fun h=>by omega)
theorem out_eq (hs: ∀a b,D.same a b=true↔a=b) (l:List α):D.out l=D.ref (D.sec l) (D.cuts l) ((D.cuts l).length - 1) 0 [] [] 0:=
 D.ref_eq hs l _ 0 _ [] [] 0 rfl rfl (fun _=>rfl) (fun _=>Nat.le_refl _) (fun h=>absurd h (Nat.lt_irrefl _)) (fun _=>rfl)
end Dim
theorem u7b (l:List R4):D4.cuts l=xsV l []:=by unfold Dim.cuts xsV;rw [Uv,show z2j ([]:List R4)=[] from rfl,List.append_nil];rfl
theorem u6n (l:List R4) (x y:Int):v5y 2 l [] x y=has4V l x y:=by unfold v5y y3f;show (has4V l x y||has4V [] x y)=_;rw [show has4V [] x y=false from rfl,Bool.or_false]
theorem y9h {l:List R4} {x:Int} {s:R2} (h:s∈D4.inn l x): ∃r∈l,r.a≤x∧x<r.c∧s=⟨r.b,r.d⟩:=by obtain ⟨r,hr,e⟩:=List.mem_map.1 h;obtain ⟨h1,h2⟩:=List.mem_filter.1 hr;simp only [Bool.and_eq_true,decide_eq_true_eq] at h2;exact ⟨r,h1,h2.1,h2.2,e.symm⟩
theorem u3z {l:List R4} {x:Int} {r:R4} (h:r∈l) (h1:r.a≤x) (h2:x<r.c):(⟨r.b,r.d⟩:R2)∈D4.inn l x:=by refine List.mem_map.2 ⟨r,List.mem_filter.2 ⟨h,?_⟩,rfl⟩;simp only [Bool.and_eq_true,decide_eq_true_eq];exact ⟨h1,h2⟩
theorem sec_eq (l:List R4) (hv:l.all Vx=true) (hl:l.length≤400) (x:Int):D4.sec l x=x8k 2 l [] x:=by
 have hin:=D4.inn_length l x;have hvi:(D4.inn l x).all Qr=true:=List.all_eq_true.2 fun s hs=>by obtain ⟨r,hr,_,_,rfl⟩:=y9h hs;have:=List.all_eq_true.1 hv r hr;simp only [Vx,Qr,Bool.and_eq_true,decide_eq_true_eq] at this ⊢;omega
 have e1:D4.sec l x=swV (D4.inn l x):=by show Xm (D4.inn l x)=_;unfold Xm;rw [decide_eq_false (by omega),hvi];rfl
 obtain ⟨c1,c2⟩:=x3r _ hvi;obtain ⟨y1,y2⟩:=Xc (z1e l++z1e []);have e2:x8k 2 l [] x=z9v (ysV l []) ((ysV l []).map fun y=>has4V l x y):=by
  unfold x8k
  congr 1
  exact List.map_congr_left fun y _=>u6n l x y
 obtain ⟨d1,d2⟩:=v6b (ysV l []) y1 (fun y=>has4V l x y) (D4.inn l x) (fun s hs=>by
  obtain ⟨r,hr,_,_,rfl⟩:=y9h hs;unfold ysV;exact ⟨(y2 _).2 (List.mem_append.2 (.inl (List.mem_flatMap.2 ⟨r,hr,by simp⟩))),(y2 _).2 (List.mem_append.2 (.inl (List.mem_flatMap.2 ⟨r,hr,by simp⟩)))⟩) (fun y=>by
  unfold has4V;rw [List.any_eq_true];constructor
  ·rintro ⟨r,hr,h⟩;simp only [in4,Bool.and_eq_true,decide_eq_true_eq] at h;exact ⟨_,u3z hr h.1 h.2.1,h.2.2.1,h.2.2.2⟩
  ·rintro ⟨s,hs,h1,h2⟩;obtain ⟨r,hr,r1,r2,rfl⟩:=y9h hs;refine ⟨r,hr,?_⟩;simp only [in4,Bool.and_eq_true,decide_eq_true_eq];exact ⟨r1,r2,h1,h2⟩)
 rw [e1,e2];exact v0n _ _ c1 d1 fun y=>by rw [c2,d2]
theorem w8m (l:List R4): ∀(k i:Nat) (out:List R4) (last:List R2) (first:Nat),jF 2 l [] k i out last first=D4.ref (x8k 2 l []) (xsV l []) k i out last first
 | 0,_,_,_,_=>rfl
 | k+1,i,out,last,first=>by unfold jF Dim.ref;rw [w8m l k,w8m l k];rfl
theorem joV_eq (l:List R4) (hv:l.all Vx=true) (hl:l.length≤400):D4.out l=joV 2 l []:=by
 rw [D4.out_eq (fun a b=>decide_eq_true_iff) l,joV,w8m,←u7b]
 congr 1
 funext x
 exact sec_eq l hv hl x
theorem v1g (l:List R6):D6.cuts l=Ws l []:=by unfold Dim.cuts Ws;rw [Uv,show z2i ([]:List R6)=[] from rfl,List.append_nil];rfl
theorem u0n (l:List R6) (z:Int):D6.inn l z=atV l z:=rfl
theorem w4t (r:R6):z0m r=w0t r:=by
 unfold z0m w0t;simp only [u4l,u4m];rw [Bool.eq_iff_iff];simp only [Bool.and_eq_true,decide_eq_true_eq];have m1: ∀x y z:Int,x≤min y z↔x≤y∧x≤z:=fun x y z=>by omega
 have m2: ∀x y z:Int,max y z≤x↔y≤x∧z≤x:=fun x y z=>by omega
 simp only [ge_iff_le,m1,m2];constructor <;> intro h <;> (repeat' apply And.intro) <;> omega
theorem v0r (l:List R6) (hv:l.all z0m=true) (z:Int):(atV l z).all Vx=true:=List.all_eq_true.2 fun s hs=>by
 obtain ⟨r,hr,rfl⟩:=List.mem_map.1 hs;have:=List.all_eq_true.1 hv r (List.mem_filter.1 hr).1;rw [w4t] at this;simp only [w0t,Bool.and_eq_true,decide_eq_true_eq] at this;show Vx ⟨r.a,r.b,r.d,r.e⟩=true;simp only [Vx,Bool.and_eq_true,decide_eq_true_eq]
 (repeat' apply And.intro) <;> omega
section
variable (l:List R6) (hv:l.all z0m=true) (hl:l.length≤400)
include hv hl
theorem u0k (z:Int):D4.out (atV l z)=joV 2 (atV l z) []:=joV_eq _ (v0r l hv z) (Nat.le_trans (z1a l z) hl)
theorem u0j (z:Int):v0q l z=z9u 2 l [] z:=by
 have h1:=u0k l hv hl z;have h2:=z1a l z;have e:joV 2 (atV [] z) []=[]:=rfl;unfold v0q z9u x0f;rw [e,show atV ([]:List R6) z=[] from rfl,u0n];unfold Xp;rw [decide_eq_false (by omega),v0r l hv z,h1,cond_false,cond_true];by_cases h:400<(joV 2 (atV l z) []).length
 ·rw [decide_eq_true (show ((joV 2 (atV l z) []).length :Int)>400 by omega),decide_eq_true h];rfl
 ·rw [decide_eq_false (show¬((joV 2 (atV l z) []).length :Int)>400 by omega),decide_eq_false h];rfl
theorem u1q (z:Int) (h:v0q l z=false):D6.sec l z=x0f 2 l [] z:=by
 have h1:=u0k l hv hl z;have h2:=z1a l z;rw [u0j l hv hl] at h;show Zg (D6.inn l z)=joV 2 (atV l z) (atV [] z);rw [u0n];unfold Zg;have h3: ¬400<(joV 2 (atV l z) []).length :=fun hh=>by unfold z9u x0f at h;rw [show atV ([]:List R6) z=[] from rfl,decide_eq_true hh] at h;cases h
 rw [decide_eq_false (by omega),v0r l hv z,h1,cond_false,cond_true,decide_eq_false (by omega)];rfl
theorem x6d : ∀(k i:Nat) (out:List R6) (last:List R4) (first:Nat),jsF 2 l [] k i out last first=bif okF l k i then some (D6.ref (D6.sec l) (D6.cuts l) k i out last first) else none
 | 0,_,_,_,_=>rfl
 | k+1,i,out,last,first=>by
  unfold jsF okF Dim.ref;rw [←v1g,←u0j l hv hl];rcases Yf (v0q l (rd (D6.cuts l) i)) with q | q
  ·rw [q];rfl
  ·have:=u1q l hv hl _ q;rw [q,cond_false,cond_false,this,x6d k,x6d k];have e:D6.same (x0f 2 l [] (rd (D6.cuts l) i)) last=Um (x0f 2 l [] (rd (D6.cuts l) i)) last:=rfl;rw [e];cases (decide (0<i)&&Um (x0f 2 l [] (rd (D6.cuts l) i)) last) <;> rfl
theorem jsO_eq :jsO 2 l []=bif okF l ((D6.cuts l).length - 1) 0 then some (D6.out l) else none:=by unfold jsO;rw [x6d l hv hl,←v1g,D6.out_eq (fun a b=>decide_eq_true_iff) l]
end
theorem v5z (l:List R6):Wk l=z9h l:=by
 unfold Wk z9h;by_cases h:400<l.length
 ·rw [decide_eq_true h];rfl
 ·rw [decide_eq_false h,cond_false,cond_false,show l.all w0t=l.all z0m from by congr 1;funext r;exact (w4t r).symm];rcases Yf (l.all z0m) with hv | hv
  ·rw [hv,cond_true,cond_true];unfold rckF x1z z5b;rw [jsO_eq l hv (by omega)];rcases Yf (okF l ((D6.cuts l).length - 1) 0) with q | q
   ·rw [q,cond_true,cond_true];show _=bif decide (((D6.out l).length :Int)≤400) then (bif Jp (D6.out l) l then 0 else 8) else 8;by_cases h2:((D6.out l).length :Int)>400
    ·rw [decide_eq_true h2,decide_eq_false (by omega)];rfl
    ·rw [decide_eq_false h2,decide_eq_true (by omega)];rfl
   ·rw [q];rfl
  ·rw [hv];rfl
end Go.Am
namespace Go.Am
def Cg (x y:Int):Prop:=(18446744073709551616:Int)∣x - y
theorem Cg.refl (x:Int):Cg x x:=by unfold Cg;rw [Int.sub_self];exact Int.dvd_zero _
theorem Cg.trans {x y z:Int} (h:Cg x y) (k:Cg y z):Cg x z:=by unfold Cg at*;omega
theorem Cg.wrap (x:Int):Cg (IntKind.wrap .i64 x) x:=by rw [w64];unfold Cg;omega
theorem Cg.eq {x y:Int} (h:Cg x y):IntKind.wrap .i64 x=IntKind.wrap .i64 y:=by rw [w64,w64];unfold Cg at h;omega
theorem Cg.w {x y:Int} (h:Cg x y):Cg (IntKind.wrap .i64 x) y:=(Cg.wrap x).trans h
theorem Cg.is {x y:Int} (h:Cg x y) (hx: -9223372036854775808≤x∧x≤9223372036854775807) (hy: -9223372036854775808≤y∧y≤9223372036854775807):x=y:=by unfold Cg at h;omega
def ovl (a b c d:Int):Int:=max 0 (min b d - max a c)
def ov (r s:R6):Int:=ovl r.a r.d s.a s.d*ovl r.b r.e s.b s.e*ovl r.c r.f s.c s.f
def nx (d:Int) (r:R6):R6:=
 let t:=1 - 2*Int.tmod d 2
 bif Int.tdiv d 2 == 0 then ⟨r.a+t,r.b,r.c,r.d+t,r.e,r.f⟩ else bif Int.tdiv d 2 == 1 then ⟨r.a,r.b+t,r.c,r.d,r.e+t,r.f⟩ else ⟨r.a,r.b,r.c+t,r.d,r.e,r.f+t⟩
def sm {α:Type} (l:List α) (f:α→Int):Int:=(l.map f).sum
theorem u1g {α:Type} (x:α) (l:List α) (f:α→Int):sm (x::l) f=f x+sm l f:=by simp [sm]
theorem v1r {α:Type} {l:List α} {f g:α→Int} (h: ∀x∈l,f x=g x):sm l f=sm l g:=by unfold sm;rw [List.map_congr_left h]
theorem u1f {α:Type} (l:List α):sm l (fun _=>0)=0:=by
 induction l with
 | nil=>rfl
 | cons x l ih=>rw [u1g,ih];rfl
def E2 (d:Int) (X Y:List R6):Int:=sm X fun x=>sm Y fun y=>ov (nx d x) y
def Eqv (B B':List R6):Prop:= ∀f,sm B f=sm B' f
theorem Eqv.refl (X:List R6):Eqv X X:=fun _=>rfl
def c1 (d:Int) (X Y B:List R6):Int:=(E2 d X Y - E2 d B Y) - (E2 d X B - E2 d B B)
end Go.Am
namespace Go.Am
open Go.Proofs Go.Sort Go.Shelf Go.RowKit Go.Lib
namespace Dim
variable {α β:Type} (D:Dim α β)
structure Fair :Prop where
 lo_put: ∀x x' b,D.lo (D.put x x' b)=x
 hi_put: ∀x x' b,D.hi (D.put x x' b)=x'
 pr_put: ∀x x' b,D.pr (D.put x x' b)=b
 ext_put: ∀x x' x'' b,D.ext x'' (D.put x x' b)=D.put x x'' b
def Ap (R:β→β→Prop) (a b:α):Prop:=D.hi a≤D.lo b∨D.hi b≤D.lo a∨R (D.pr a) (D.pr b)
theorem w6s {D:Dim α β} (hD:D.Fair) (R:β→β→Prop) (sec:Int→List β) (cs:List Int) (hc:cs.Pairwise (· < ·)) (eA: ∀x,(sec x).Pairwise R):
  ∀(k i:Nat) (pre:List α) (last:List β) (x0:Int),(i+k<cs.length∨k=0)→pre.Pairwise (D.Ap R)→(∀a∈pre,D.hi a≤x0)→(last≠ []→x0≤rd cs i)→(last=[]→x0≤rd cs i)→last.Pairwise R→
  (D.ref sec cs k i (pre++last.map (D.put x0 (rd cs i))) last pre.length).Pairwise (D.Ap R):=by
 have fin: ∀(pre:List α) (last:List β) (x0 x':Int),pre.Pairwise (D.Ap R)→(∀a∈pre,D.hi a≤x0)→last.Pairwise R→(pre++last.map (D.put x0 x')).Pairwise (D.Ap R):=fun pre last x0 x' h1 h2 h3=>by
  refine List.pairwise_append.2 ⟨h1,?_,fun a ha b hb=> ?_⟩
  ·refine List.pairwise_map.2 (h3.imp fun {a b} h=>.inr (.inr ?_));rw [hD.pr_put,hD.pr_put];exact h
  ·obtain ⟨c,_,rfl⟩:=List.mem_map.1 hb;exact .inl (by rw [hD.lo_put];exact h2 a ha)
 intro k
 induction k with
 | zero=>intro i pre last x0 _ h1 h2 _ _ h3;exact fin pre last x0 _ h1 h2 h3
 | succ k ih=>
  intro i pre last x0 hk h1 h2 h4 h5 h3;have hlt:rd cs i<rd cs (i+1):=y4y hc (Nat.lt_succ_self _) (by omega);unfold ref;cases hq:(decide (0<i)&&D.same (sec (rd cs i)) last) with
  | true=>
   rw [cond_true];have e:D.grow (pre++last.map (D.put x0 (rd cs i))) pre.length (rd cs (i+1))=pre++last.map (D.put x0 (rd cs (i+1))):=by
    unfold grow;rw [List.take_left,List.drop_left,List.map_map]
    congr 1
    exact List.map_congr_left fun b _=>hD.ext_put _ _ _ _
   rw [e];exact ih (i+1) pre last x0 (by omega) h1 h2 (fun h=>by have:=h4 h;omega) (fun h=>by have:=h5 h;omega) h3
  | false=>
   rw [cond_false];refine ih (i+1) (pre++last.map (D.put x0 (rd cs i))) (sec (rd cs i)) (rd cs i) (by omega) (fin pre last x0 _ h1 h2 h3) (fun a ha=> ?_) (fun _=>by omega) (fun _=>by omega) (eA _);rcases List.mem_append.1 ha with ha | ha
   ·have:=h2 a ha;by_cases e:last=[]
    ·have:=h5 e;omega
    ·have:=h4 e;omega
   ·obtain ⟨c,_,rfl⟩:=List.mem_map.1 ha;rw [hD.hi_put];exact Int.le_refl _
theorem out_apart {D:Dim α β} (hD:D.Fair) (R:β→β→Prop) (hs: ∀a b,D.same a b=true↔a=b) (l:List α) (eA: ∀x,(D.sec l x).Pairwise R):(D.out l).Pairwise (D.Ap R):=by
 rw [D.out_eq hs l];have hc:(D.cuts l).Pairwise (· < ·):=by show (Ug (D.ends l)).Pairwise (· < ·);rw [Uv];exact (Xc _).1
 have:=w6s hD R (D.sec l) (D.cuts l) hc eA ((D.cuts l).length - 1) 0 [] [] (rd (D.cuts l) 0) (by omega) .nil (by simp) (fun _=>Int.le_refl _) (fun _=>Int.le_refl _) .nil;exact this
end Dim
theorem y4n :D4.Fair:=⟨fun _ _ _=>rfl,fun _ _ _=>rfl,fun _ _ _=>rfl,fun _ _ _ _=>rfl⟩
theorem z2f :D6.Fair:=⟨fun _ _ _=>rfl,fun _ _ _=>rfl,fun _ _ _=>rfl,fun _ _ _ _=>rfl⟩
def Ap2 (s t:R2):Prop:=s.b≤t.a∨t.b≤s.a
def Ap4 (s t:R4):Prop:=s.c≤t.a∨t.c≤s.a∨s.d≤t.b∨t.d≤s.b
def Ap6 (s t:R6):Prop:=s.d≤t.a∨t.d≤s.a∨s.e≤t.b∨t.e≤s.b∨s.f≤t.c∨t.f≤s.c
theorem w5e (l:List R2):(Xm l).Pairwise Ap2:=by
 unfold Xm;by_cases h:400<l.length
 ·rw [decide_eq_true h];exact .nil
 ·rw [decide_eq_false h,cond_false];cases hv:l.all Qr with
  | false=>exact .nil
  | true=>rw [cond_true];exact (x3r l hv).1.sep.imp fun {s t} h=>.inl (by omega)
theorem w6l (l:List R4):(Zg l).Pairwise Ap4:=by
 have key:(D4.out l).Pairwise Ap4:=(Dim.out_apart y4n Ap2 (fun a b=>decide_eq_true_iff) l fun x=>w5e _).imp fun {s t} h=>by
  rcases h with h | h | h | h
  ·exact .inl h
  ·exact .inr (.inl h)
  ·exact .inr (.inr (.inl h))
  ·exact .inr (.inr (.inr h))
 unfold Zg;by_cases h:400<l.length
 ·rw [decide_eq_true h];exact .nil
 ·rw [decide_eq_false h,cond_false];cases l.all Vx with
  | false=>exact .nil
  | true=>
   rw [cond_true];cases decide (((D4.out l).length :Int)>400) with
   | true=>exact .nil
   | false=>exact key
theorem Xo {l:List R6} (h:Wk l=0):l.length≤400∧(∀r∈l,z0m r=true)∧l=D6.out l∧l.Pairwise Ap6:=by
 unfold Wk at h;by_cases h1:400<l.length
 ·rw [decide_eq_true h1] at h;cases h
 ·rw [decide_eq_false h1,cond_false] at h;cases hv:l.all z0m with
  | false=>rw [hv] at h;cases h
  | true=>
   rw [hv,cond_true] at h;cases ho:okF l ((D6.cuts l).length - 1) 0 with
   | false=>rw [ho] at h;cases h
   | true=>
    rw [ho,cond_true] at h;cases h2:decide (((D6.out l).length :Int)>400) with
    | true=>rw [h2] at h;cases h
    | false=>
     rw [h2,cond_false] at h;cases h3:Jp (D6.out l) l with
     | false=>rw [h3] at h;cases h
     | true=>
      have e:D6.out l=l:=of_decide_eq_true h3;refine ⟨by omega,fun r hr=>List.all_eq_true.1 hv r hr,e.symm,?_⟩;have:=(Dim.out_apart z2f Ap4 (fun a b=>decide_eq_true_iff) l fun x=>w6l _).imp (S:=Ap6) fun {s t} h=>by
       rcases h with h | h | h | h | h | h
       ·exact .inr (.inr (.inr (.inr (.inl h))))
       ·exact .inr (.inr (.inr (.inr (.inr h))))
       ·exact .inl h
       ·exact .inr (.inl h)
       ·exact .inr (.inr (.inl h))
       ·exact .inr (.inr (.inr (.inl h)))
      rwa [e] at this
theorem z5q {r:R6} (h:z0m r=true):r.a<r.d∧r.b<r.e∧r.c<r.f∧ -1000000≤r.a∧ -1000000≤r.b∧ -1000000≤r.c∧r.d≤1000000∧r.e≤1000000∧r.f≤1000000:=by rw [w4t] at h;simp only [w0t,Bool.and_eq_true,decide_eq_true_eq] at h;omega
end Go.Am
namespace Go.Am
open Go.Proofs Go.Sort Go.Shelf Go.RowKit Go.Lib
structure Qv (β:Type) where
 a:Int
 b:Int
 s:List β
def ptL {β γ:Type} (inB:β→γ→Prop) (s:List β) (q:γ):Prop:= ∃r∈s,inB r q
theorem z2v {β γ:Type} (inB:β→γ→Prop) (q:γ): ¬ptL inB [] q:=fun ⟨_,h,_⟩=>by cases h
structure Sem (β γ:Type) where
 can:List β→Prop
 inB:β→γ→Prop
 uniq: ∀s t,can s→can t→(∀q,ptL inB s q↔ptL inB t q)→s=t
 some: ∀s,can s→s≠ []→ ∃q,ptL inB s q
 nil:can []
section
variable {β γ:Type} (M:Sem β γ)
def OkS (g:Qv β):Prop:=g.a<g.b∧M.can g.s∧g.s≠ []
def Nxt (g h:Qv β):Prop:=g.b≤h.a∧(g.b=h.a→g.s≠h.s)
inductive z1d :List (Qv β)→Prop
 | nil:z1d []
 | one (g:Qv β) (h:OkS M g):z1d [g]
 | cons (g h:Qv β) (r:List (Qv β)) (ok:OkS M g) (nx:Nxt g h) (k:z1d (h::r)):z1d (g::h::r)
def ptG (G:List (Qv β)) (x:Int) (q:γ):Prop:= ∃g∈G,g.a≤x∧x<g.b∧ptL M.inB g.s q
variable {M}
theorem z1d.head {g:Qv β} {r:List (Qv β)} (h:z1d M (g::r)):OkS M g:=by cases h <;> assumption
theorem z1d.tail {g:Qv β} {r:List (Qv β)} (h:z1d M (g::r)):z1d M r:=by
 cases h with
 | one=>exact .nil
 | cons _ _ _ _ _ k=>exact k
theorem z1d.later {g:Qv β} {r:List (Qv β)} (h:z1d M (g::r)): ∀k∈r,g.b≤k.a:=by
 induction r generalizing g with
 | nil=>intro k hk;cases hk
 | cons k r ih=>
  cases h with
  | cons _ _ _ ok nx kk=>
   intro m hm;rcases List.mem_cons.1 hm with rfl | hm
   ·exact nx.1
   ·have h1:=ih kk m hm;have h2:=kk.head.1;have h3:=nx.1;omega
theorem z1d.all {G:List (Qv β)} (h:z1d M G): ∀g∈G,OkS M g:=by
 induction G with
 | nil=>intro g hg;cases hg
 | cons k r ih=>
  intro g hg;rcases List.mem_cons.1 hg with rfl | hg
  ·exact h.head
  ·exact ih h.tail g hg
theorem z1d.before {G:List (Qv β)} {g:Qv β} (k:z1d M (G++[g])): ∀m∈G,m.b≤g.a:=by
 induction G with
 | nil=>intro m hm;cases hm
 | cons m r ih=>
  intro n hn;rcases List.mem_cons.1 hn with rfl | hn
  ·exact k.later g (by simp)
  ·exact ih k.tail n hn
theorem z1d.snoc {G:List (Qv β)} {g h:Qv β} (k:z1d M (G++[g])) (ok:OkS M h) (nx:Nxt g h):z1d M (G++[g]++[h]):=by
 induction G with
 | nil=>exact .cons g h [] k.head nx (.one h ok)
 | cons m r ih=>
  have i:=ih k.tail;cases r with
  | nil=>
   cases k with
   | cons _ _ _ ok1 nx1 k1=>exact .cons m g [h] ok1 nx1 i
  | cons m2 r=>
   cases k with
   | cons _ _ _ ok1 nx1 k1=>exact .cons m m2 _ ok1 nx1 i
theorem z1d.stretch {G:List (Qv β)} {g:Qv β} {x:Int} (k:z1d M (G++[g])) (hx:g.b≤x):z1d M (G++[⟨g.a,x,g.s⟩]):=by
 induction G with
 | nil=>have:=k.head;exact .one _ ⟨by have:=this.1;show g.a<x;omega,this.2⟩
 | cons m r ih=>
  have i:=ih k.tail;cases r with
  | nil=>
   cases k with
   | cons _ _ _ ok1 nx1 k1=>exact .cons m _ [] ok1 nx1 i
  | cons m2 r=>
   cases k with
   | cons _ _ _ ok1 nx1 k1=>exact .cons m m2 _ ok1 nx1 i
theorem z6g (g:Qv β) (G:List (Qv β)) (x:Int) (q:γ):ptG M (g::G) x q↔(g.a≤x∧x<g.b∧ptL M.inB g.s q)∨ptG M G x q:=by
 constructor
 ·rintro ⟨k,hk,h⟩;rcases List.mem_cons.1 hk with rfl | hk
  ·exact .inl h
  ·exact .inr ⟨k,hk,h⟩
 ·rintro (h | ⟨k,hk,h⟩)
  ·exact ⟨g,by simp,h⟩
  ·exact ⟨k,by simp [hk],h⟩
theorem y6i (G H:List (Qv β)) (x:Int) (q:γ):ptG M (G++H) x q↔ptG M G x q∨ptG M H x q:=by
 constructor
 ·rintro ⟨k,hk,h⟩;rcases List.mem_append.1 hk with hk | hk
  ·exact .inl ⟨k,hk,h⟩
  ·exact .inr ⟨k,hk,h⟩
 ·rintro (⟨k,hk,h⟩ | ⟨k,hk,h⟩)
  ·exact ⟨k,List.mem_append.2 (.inl hk),h⟩
  ·exact ⟨k,List.mem_append.2 (.inr hk),h⟩
theorem z1d.low {g:Qv β} {r:List (Qv β)} (h:z1d M (g::r)) {x:Int} {q:γ} (hp:ptG M (g::r) x q):g.a≤x:=by
 rcases (z6g g r x q).1 hp with hp | ⟨k,hk,h1,_⟩
 ·exact hp.1
 ·have:=h.later k hk;have:=h.head.1;omega
theorem z1d.rest {g:Qv β} {r:List (Qv β)} (h:z1d M (g::r)) (x:Int) (q:γ):ptG M r x q↔g.b≤x∧ptG M (g::r) x q:=by
 constructor
 ·rintro ⟨k,hk,h1,h2⟩;have:=h.later k hk;exact ⟨by omega,k,by simp [hk],h1,h2⟩
 ·rintro ⟨hx,hp⟩;rcases (z6g g r x q).1 hp with hp | hp
  ·omega
  ·exact hp
theorem z1d.sec0 {g:Qv β} {r:List (Qv β)} (h:z1d M (g::r)) {x:Int} (hx:g.a≤x∧x<g.b) (q:γ):ptG M (g::r) x q↔ptL M.inB g.s q:=by
 rw [z6g];constructor
 ·rintro (h1 | ⟨k,hk,h1,_⟩)
  ·exact h1.2.2
  ·have:=h.later k hk;omega
 ·exact fun h1=>.inl ⟨hx.1,hx.2,h1⟩
theorem x2p : ∀(G H:List (Qv β)),z1d M G→z1d M H→(∀x q,ptG M G x q↔ptG M H x q)→G=H
 | [],[],_,_,_=>rfl
 | [],h::H,_,hH,e=>by obtain ⟨q,hq⟩:=M.some _ hH.head.2.1 hH.head.2.2;have:=(e h.a q).2 ((hH.sec0 ⟨Int.le_refl _,hH.head.1⟩ q).2 hq);obtain ⟨k,hk,_⟩:=this;cases hk
 | g::G,[],hG,_,e=>by obtain ⟨q,hq⟩:=M.some _ hG.head.2.1 hG.head.2.2;have:=(e g.a q).1 ((hG.sec0 ⟨Int.le_refl _,hG.head.1⟩ q).2 hq);obtain ⟨k,hk,_⟩:=this;cases hk
 | g::G,h::H,hG,hH,e=>by
  have og:=hG.head;have oh:=hH.head;obtain ⟨q,hq⟩:=M.some _ og.2.1 og.2.2;obtain ⟨p,hp⟩:=M.some _ oh.2.1 oh.2.2;have a1:h.a≤g.a:=hH.low ((e g.a q).1 ((hG.sec0 ⟨Int.le_refl _,og.1⟩ q).2 hq));have a2:g.a≤h.a:=hG.low ((e h.a p).2 ((hH.sec0 ⟨Int.le_refl _,oh.1⟩ p).2 hp));have a3:g.a=h.a:=by omega
  have s1:g.s=h.s:=M.uniq _ _ og.2.1 oh.2.1 fun q=>by rw [←hG.sec0 (x:=g.a) ⟨Int.le_refl _,og.1⟩,e,hH.sec0 (x:=g.a) ⟨by omega,by have:=oh.1;omega⟩]
  have key: ∀(g h:Qv β) (G H:List (Qv β)),z1d M (g::G)→z1d M (h::H)→(∀x q,ptG M (g::G) x q↔ptG M (h::H) x q)→g.a=h.a→g.s=h.s→ ¬g.b<h.b:=fun g h G H hG hH e ea es hlt=>by
   have og:=hG.head;have oh:=hH.head;have at_: ∀q,ptG M (g::G) g.b q↔ptL M.inB h.s q:=fun q=>by rw [e,hH.sec0 ⟨by have:=og.1;omega,hlt⟩]
   obtain ⟨q,hq⟩:=M.some _ oh.2.1 oh.2.2;have:=(hG.rest g.b q).2 ⟨Int.le_refl _,(at_ q).2 hq⟩;cases hG with
   | one=>obtain ⟨k,hk,_⟩:=this;cases hk
   | cons _ k r ok nx kk=>
    have hk:k.a≤g.b:=kk.low this;have hk2:g.b=k.a:=by have:=nx.1;omega
    refine nx.2 hk2 ?_;rw [es];refine M.uniq _ _ oh.2.1 kk.head.2.1 fun p=> ?_;rw [←at_,←kk.sec0 (x:=g.b) ⟨by omega,by have:=kk.head.1;omega⟩];constructor
    ·exact fun hp=>((z1d.cons g k r ok nx kk).rest g.b p).2 ⟨Int.le_refl _,hp⟩
    ·exact fun hp=>(((z1d.cons g k r ok nx kk).rest g.b p).1 hp).2
  have b1:=key g h G H hG hH e a3 s1;have b2:=key h g H G hH hG (fun x q=>(e x q).symm) a3.symm s1.symm;have b3:g.b=h.b:=by omega
  have eg:g=h:=by
   obtain ⟨ga,gb,gs⟩:=g;obtain ⟨ha,hb,hs⟩:=h;simp only at a3 b3 s1
   subst_vars;rfl
  subst eg
  congr 1
  exact x2p G H hG.tail hH.tail fun x q=>by rw [hG.rest,hH.rest,e]
end
namespace Dim
variable {α β:Type} (D:Dim α β)
def flat (G:List (Qv β)):List α:=G.flatMap fun g=>g.s.map (D.put g.a g.b)
theorem flat_append (G H:List (Qv β)):D.flat (G++H)=D.flat G++D.flat H:=by simp [flat]
theorem flat_one (g:Qv β):D.flat [g]=g.s.map (D.put g.a g.b):=by simp [flat]
def inA {γ:Type} (inB:β→γ→Prop) (r:α) (p:Int×γ):Prop:=D.lo r≤p.1∧p.1<D.hi r∧inB (D.pr r) p.2
variable {D}
theorem flat_pt (hD:D.Fair) {γ:Type} (M:Sem β γ) (G:List (Qv β)) (x:Int) (q:γ):ptL (D.inA M.inB) (D.flat G) (x,q)↔ptG M G x q:=by
 constructor
 ·rintro ⟨r,hr,h⟩;obtain ⟨g,hg,hr⟩:=List.mem_flatMap.1 hr;obtain ⟨b,hb,rfl⟩:=List.mem_map.1 hr;unfold inA at h;rw [hD.lo_put,hD.hi_put,hD.pr_put] at h;exact ⟨g,hg,h.1,h.2.1,b,hb,h.2.2⟩
 ·rintro ⟨g,hg,h1,h2,b,hb,h3⟩;refine ⟨D.put g.a g.b b,List.mem_flatMap.2 ⟨g,hg,List.mem_map.2 ⟨b,hb,rfl⟩⟩,?_⟩;unfold inA;rw [hD.lo_put,hD.hi_put,hD.pr_put];exact ⟨h1,h2,h3⟩
def can {γ:Type} (M:Sem β γ) (l:List α):Prop:= ∃G,z1d M G∧l=D.flat G
def sem (hD:D.Fair) {γ:Type} (M:Sem β γ):Sem α (Int×γ) where
 can:=D.can M
 inB:=D.inA M.inB
 uniq:=fun s t ⟨G,hG,e1⟩ ⟨H,hH,e2⟩ h=>by subst e1 e2;rw [x2p G H hG hH fun x q=>by rw [←flat_pt hD,←flat_pt hD];exact h (x,q)]
 some:=fun s ⟨G,hG,e1⟩ hs=>by
  subst e1;cases G with
  | nil=>exact absurd rfl hs
  | cons g G=>obtain ⟨q,hq⟩:=M.some _ hG.head.2.1 hG.head.2.2;exact ⟨(g.a,q),(flat_pt hD M _ _ _).2 ((hG.sec0 ⟨Int.le_refl _,hG.head.1⟩ q).2 hq)⟩
 nil:=⟨[],.nil,rfl⟩
variable (D)
def oneS (sec:List β) (x x':Int) (s:Sw α β):Sw α β:=
 bif decide (0<sec.length)&&((s.fin == x)&&D.same s.last sec) then ⟨D.grow s.out s.first x',s.last,s.first,x'⟩
 else ⟨s.out++sec.map (D.put x x'),sec,s.out.length,x'⟩
def goS (sec:Int→List β) (cs:List Int):Nat→Nat→Sw α β→Sw α β
 | 0,_,s=>s
 | k+1,i,s=>goS sec cs k (i+1) (D.oneS (sec (rd cs i)) (rd cs i) (rd cs (i+1)) s)
theorem go_goS (l:List α): ∀(k i:Nat) (s:Sw α β),D.go l k i s=D.goS (D.sec l) (D.cuts l) k i s
 | 0,_,_=>rfl
 | k+1,i,s=>go_goS l k (i+1) _
variable {D}
structure Inv {γ:Type} (M:Sem β γ) (sec:Int→List β) (cs:List Int) (i:Nat) (s:Sw α β) (G:List (Qv β)):Prop where
 can:z1d M G
 out:s.out=D.flat G
 gap:s.last=[]→ ∀g∈G,g.b<rd cs i
 end_ : s.last ≠ [] → ∃ Gp g, G = Gp ++ [g] ∧ g.s = s.last ∧ g.b = rd cs i ∧ s.fin = rd cs i ∧ s.first = (D.flat Gp).length
 pts: ∀x q,ptG M G x q↔ ∃j,j<i∧rd cs j≤x∧x<rd cs (j+1)∧ptL M.inB (sec (rd cs j)) q
theorem v5a (hD:D.Fair) (hs: ∀a b,D.same a b=true↔a=b) {γ:Type} (M:Sem β γ) {sec:Int→List β} {cs:List Int} (hc:cs.Pairwise (· < ·)) (eA: ∀x,M.can (sec x)) {i:Nat} (hi:i+1<cs.length) {s:Sw α β} {G:List (Qv β)} (h:Inv (D:=D) M sec cs i s G):
  ∃G',Inv (D:=D) M sec cs (i+1) (D.oneS (sec (rd cs i)) (rd cs i) (rd cs (i+1)) s) G':=by
 have hlt:rd cs i<rd cs (i+1):=y4y hc (Nat.lt_succ_self _) hi;unfold oneS;rcases Yf (decide (0<(sec (rd cs i)).length)&&((s.fin == rd cs i)&&D.same s.last (sec (rd cs i)))) with q | q
 ·rw [q,cond_true];simp only [Bool.and_eq_true,decide_eq_true_eq] at q;obtain ⟨q1,q2,q3⟩:=q;have q3:=(hs _ _).1 q3;have hne:s.last≠ []:=fun e=>by rw [e] at q3;rw [←q3] at q1;exact Nat.lt_irrefl _ q1
  obtain ⟨Gp,g,e1,e2,e3,e4,e5⟩:=h.end_ hne;subst e1;refine ⟨Gp++[⟨g.a,rd cs (i+1),g.s⟩],h.can.stretch (by omega),?_,fun e=>absurd e hne,fun _=>⟨Gp,_,rfl,e2,rfl,rfl,e5⟩,fun x p=> ?_⟩
  ·show D.grow s.out s.first (rd cs (i+1))=_
   rw [h.out,e5];unfold grow;rw [D.flat_append,D.flat_append,D.flat_one,D.flat_one,List.take_left,List.drop_left,List.map_map]
   congr 1
   exact List.map_congr_left fun b _=>hD.ext_put _ _ _ _
  ·have hp:=h.pts x p;rw [y6i,z6g] at hp ⊢;have z: ¬ptG M ([]:List (Qv β)) x p:=fun ⟨_,hk,_⟩=>by cases hk
   constructor
   ·rintro (h1 | h1 | h1)
    ·obtain ⟨j,j1,j2⟩:=hp.1 (.inl h1);exact ⟨j,by omega,j2⟩
    ·simp only at h1;by_cases hx:x<g.b
     ·obtain ⟨j,j1,j2⟩:=hp.1 (.inr (.inl ⟨h1.1,hx,h1.2.2⟩));exact ⟨j,by omega,j2⟩
     ·exact ⟨i,Nat.lt_succ_self _,by omega,h1.2.1,by rw [←q3,←e2];exact h1.2.2⟩
    ·exact absurd h1 z
   ·rintro ⟨j,j1,j2,j3,j4⟩;rcases Nat.eq_or_lt_of_le (Nat.le_of_lt_succ j1) with rfl | j1
    ·refine .inr (.inl ⟨?_,j3,?_⟩)
     ·have:=(h.can.all g (by simp)).1;show g.a≤x;omega
     ·show ptL M.inB g.s p;rw [e2,q3];exact j4
    ·rcases hp.2 ⟨j,j1,j2,j3,j4⟩ with h1 | h1 | h1
     ·exact .inl h1
     ·exact .inr (.inl ⟨h1.1,by show x<rd cs (i+1);omega,h1.2.2⟩)
     ·exact absurd h1 z
 ·rw [q,cond_false];by_cases he:sec (rd cs i)=[]
  ·rw [he];refine ⟨G,h.can,?_,fun _ g hg=> ?_,fun e=>absurd rfl e,fun x p=> ?_⟩
   ·show s.out++[].map _=_;rw [List.map_nil,List.append_nil,h.out]
   ·by_cases hl:s.last=[]
    ·have:=h.gap hl g hg;omega
    ·obtain ⟨Gp,g',e1,e2,e3,_⟩:=h.end_ hl;subst e1;rcases List.mem_append.1 hg with hg | hg
     ·have:=h.can.before g hg;have:=(h.can.all g' (by simp)).1;omega
     ·rw [List.mem_singleton.1 hg];omega
   ·rw [h.pts];constructor
    ·rintro ⟨j,j1,j2⟩;exact ⟨j,by omega,j2⟩
    ·rintro ⟨j,j1,j2,j3,j4⟩;rcases Nat.eq_or_lt_of_le (Nat.le_of_lt_succ j1) with rfl | j1
     ·rw [he] at j4;exact absurd j4 (z2v _ _)
     ·exact ⟨j,j1,j2,j3,j4⟩
  ·have ok:OkS M (⟨rd cs i,rd cs (i+1),sec (rd cs i)⟩:Qv β):=⟨hlt,eA _,he⟩
   have hcan:z1d M (G++[⟨rd cs i,rd cs (i+1),sec (rd cs i)⟩]):=by
    rcases List.eq_nil_or_concat G with rfl | ⟨Gp,g,rfl⟩
    ·exact .one _ ok
    ·rw [List.concat_eq_append] at*;refine h.can.snoc ok ?_;by_cases hl:s.last=[]
     ·have:=h.gap hl g (by simp);exact ⟨by show g.b≤rd cs i;omega,fun e=>by simp only at e;omega⟩
     ·obtain ⟨Gp',g',e1,e2,e3,e4,_⟩:=h.end_ hl;obtain ⟨rfl,e⟩:=List.append_inj' e1 rfl;obtain rfl:g=g':=by simpa using e
      refine ⟨by show g.b≤rd cs i;omega,fun _ e=> ?_⟩;rw [decide_eq_true (show 0<(sec (rd cs i)).length from List.length_pos_iff.2 he),e4,(hs _ _).2 (e2.symm.trans e)] at q;simp at q
   refine ⟨_,hcan,?_,fun e=>absurd e he,fun _=>⟨G,_,rfl,rfl,rfl,rfl,by show s.out.length=_;rw [h.out]⟩,fun x p=> ?_⟩
   ·show s.out++_=_;rw [D.flat_append,D.flat_one,h.out]
   ·rw [y6i,z6g,h.pts];have z: ¬ptG M ([]:List (Qv β)) x p:=fun ⟨_,hk,_⟩=>by cases hk
    constructor
    ·rintro (⟨j,j1,j2⟩ | h1 | h1)
     ·exact ⟨j,by omega,j2⟩
     ·exact ⟨i,Nat.lt_succ_self _,h1⟩
     ·exact absurd h1 z
    ·rintro ⟨j,j1,j2,j3,j4⟩;rcases Nat.eq_or_lt_of_le (Nat.le_of_lt_succ j1) with rfl | j1
     ·exact .inr (.inl ⟨j2,j3,j4⟩)
     ·exact .inl ⟨j,j1,j2,j3,j4⟩
theorem v9z (hD:D.Fair) (hs: ∀a b,D.same a b=true↔a=b) {γ:Type} (M:Sem β γ) {sec:Int→List β} {cs:List Int} (hc:cs.Pairwise (· < ·)) (eA: ∀x,M.can (sec x)): ∀(k i:Nat) (s:Sw α β) (G:List (Qv β)),i+k<cs.length∨k=0→Inv (D:=D) M sec cs i s G→
  ∃G',Inv (D:=D) M sec cs (i+k) (D.goS sec cs k i s) G'
 | 0,i,s,G,_,h=>⟨G,h⟩
 | k+1,i,s,G,hk,h=>by obtain ⟨G1,h1⟩:=v5a hD hs M hc eA (show i+1<cs.length by omega) h;obtain ⟨G2,h2⟩:=v9z hD hs M hc eA k (i+1) _ G1 (by omega) h1;exact ⟨G2,by rw [show i+(k+1)=i+1+k by omega];exact h2⟩
theorem goS_can (hD:D.Fair) (hs: ∀a b,D.same a b=true↔a=b) {γ:Type} (M:Sem β γ) {sec:Int→List β} {cs:List Int} (hc:cs.Pairwise (· < ·)) (eA: ∀x,M.can (sec x)):
  (D.sem hD M).can (D.goS sec cs (cs.length - 1) 0 ⟨[],[],0,0⟩).out ∧ ∀x q,ptL (D.sem hD M).inB (D.goS sec cs (cs.length - 1) 0 ⟨[],[],0,0⟩).out (x,q)↔ ∃j,j+1<cs.length∧rd cs j≤x∧x<rd cs (j+1)∧ptL M.inB (sec (rd cs j)) q:=by
 obtain ⟨G,h⟩:=v9z hD hs M hc eA (cs.length - 1) 0 ⟨[],[],0,0⟩ [] (by omega) ⟨.nil,rfl,fun _ g hg=>by (cases hg),fun e=>absurd rfl e,fun x q=>⟨fun ⟨_,hg,_⟩=>(by cases hg),fun ⟨j,hj,_⟩=>absurd hj (Nat.not_lt_zero _)⟩⟩;refine ⟨⟨G,h.can,h.out⟩,fun x q=> ?_⟩;rw [h.out];rw [show ptL (D.sem hD M).inB (D.flat G) (x,q)↔ptG M G x q from flat_pt hD M G x q,h.pts];constructor
 ·rintro ⟨j,h1,h2⟩;exact ⟨j,by omega,h2⟩
 ·rintro ⟨j,h1,h2⟩;exact ⟨j,by omega,h2⟩
end Dim
end Go.Am
namespace Go.Am
open Go.Proofs Go.Sort Go.Shelf Go.RowKit Go.Lib
def y5p :Sem R2 Int where
 can:=Can
 inB s y:=s.a≤y∧y<s.b
 uniq:=v0n
 some s hs hn:=by
  cases s with
  | nil=>exact absurd rfl hn
  | cons r l=>exact ⟨r.a,r,by simp,Int.le_refl _,hs.pos r (by simp)⟩
 nil:=.nil
def Wx :Sem R4 (Int×Int):=Dim.sem y4n y5p
def x8j :Sem R6 (Int×Int×Int):=Dim.sem z2f Wx
namespace Dim
variable {α β:Type} {D:Dim α β}
theorem inn_slab (l m:List α) (hl: ∀r∈m,r∈l) {j:Nat} (hj:j+1<(D.cuts l).length) {x:Int} (h1:rd (D.cuts l) j≤x) (h2:x<rd (D.cuts l) (j+1)):D.inn m (rd (D.cuts l) j)=D.inn m x:=by
 have hc:(D.cuts l).Pairwise (· < ·):=by show (Ug (D.ends l)).Pairwise (· < ·);rw [Uv];exact (Xc _).1
 have fD: ∀r∈m,D.lo r∈D.cuts l∧D.hi r∈D.cuts l:=fun r hr=>by show D.lo r∈Ug (D.ends l)∧D.hi r∈Ug (D.ends l);rw [Uv,(Xc _).2,(Xc _).2];exact ⟨List.mem_flatMap.2 ⟨r,hl r hr,by simp⟩,List.mem_flatMap.2 ⟨r,hl r hr,by simp⟩⟩
 have side: ∀c,c∈D.cuts l→(c≤rd (D.cuts l) j↔c≤x):=fun c hcm=>by
  obtain ⟨i,hi,rfl⟩:=List.getElem_of_mem hcm;rw [←Xu hi];rcases Nat.lt_or_ge j i with h | h
  ·have:rd (D.cuts l) (j+1)≤rd (D.cuts l) i:=by
    rcases Nat.eq_or_lt_of_le (show j+1≤i from h) with e | e
    ·rw [e];exact Int.le_refl _
    ·exact Int.le_of_lt (y4y hc e hi)
   have:=y4y hc (Nat.lt_succ_self j) hj;constructor <;> intro <;> omega
  ·have:rd (D.cuts l) i≤rd (D.cuts l) j:=by
    rcases Nat.eq_or_lt_of_le h with e | e
    ·rw [e];exact Int.le_refl _
    ·exact Int.le_of_lt (y4y hc e (by omega))
   constructor <;> intro <;> omega
 unfold inn
 congr 1
 refine List.filter_congr fun r hr=> ?_;obtain ⟨m1,m2⟩:=fD r hr;have s1:=side _ m1;have s2:=side _ m2;have e1:decide (D.lo r≤rd (D.cuts l) j)=decide (D.lo r≤x):=decide_eq_decide.2 s1;have e2:decide (rd (D.cuts l) j<D.hi r)=decide (x<D.hi r):=decide_eq_decide.2 (by constructor <;> intro <;> omega);rw [e1,e2]
theorem inn_out (l m:List α) (hl: ∀r∈m,r∈l) {x:Int} (h: ∀j,j+1<(D.cuts l).length → ¬(rd (D.cuts l) j≤x∧x<rd (D.cuts l) (j+1))):D.inn m x=[]:=by
 unfold inn;rw [List.map_eq_nil_iff,List.filter_eq_nil_iff];intro r hr hb;simp only [Bool.and_eq_true,decide_eq_true_eq] at hb;have fD:D.lo r∈D.cuts l∧D.hi r∈D.cuts l:=by show D.lo r∈Ug (D.ends l)∧D.hi r∈Ug (D.ends l);rw [Uv,(Xc _).2,(Xc _).2];exact ⟨List.mem_flatMap.2 ⟨r,hl r hr,by simp⟩,List.mem_flatMap.2 ⟨r,hl r hr,by simp⟩⟩
 have hc:(D.cuts l).Pairwise (· < ·):=by show (Ug (D.ends l)).Pairwise (· < ·);rw [Uv];exact (Xc _).1
 obtain ⟨i,hi,e1⟩:=List.getElem_of_mem fD.1;obtain ⟨k,hk,e2⟩:=List.getElem_of_mem fD.2;rw [←Xu hi] at e1;rw [←Xu hk] at e2;have h0:rd (D.cuts l) 0≤rd (D.cuts l) i:=by
  rcases Nat.eq_or_lt_of_le (Nat.zero_le i) with e | e
  ·rw [←e];exact Int.le_refl _
  ·exact Int.le_of_lt (y4y hc e hi)
 obtain ⟨j,j1,j2,j3⟩:=x7k k hk x (by omega) (by omega);exact h j (by omega) ⟨j2,j3⟩
theorem goJ_can (hD:D.Fair) (hs: ∀a b,D.same a b=true↔a=b) {γ:Type} (M:Sem β γ) (a b:List α) (J:List β→List β→List β) (hJ: ∀x,M.can (J (D.inn a x) (D.inn b x))) (h0:J [] []=[]):
  (D.sem hD M).can (D.goS (fun x=>J (D.inn a x) (D.inn b x)) (D.cuts (a++b)) ((D.cuts (a++b)).length - 1) 0 ⟨[],[],0,0⟩).out ∧
  ∀x q,ptL (D.sem hD M).inB (D.goS (fun x=>J (D.inn a x) (D.inn b x)) (D.cuts (a++b)) ((D.cuts (a++b)).length - 1) 0 ⟨[],[],0,0⟩).out (x,q)↔ptL M.inB (J (D.inn a x) (D.inn b x)) q:=by
 have hc:(D.cuts (a++b)).Pairwise (· < ·):=by show (Ug (D.ends (a++b))).Pairwise (· < ·);rw [Uv];exact (Xc _).1
 obtain ⟨h1,h2⟩:=goS_can hD hs M (cs:=D.cuts (a++b)) hc hJ;refine ⟨h1,fun x q=> ?_⟩;rw [h2];constructor
 ·rintro ⟨j,j1,j2,j3,j4⟩;rwa [inn_slab (a++b) a (fun r hr=>List.mem_append.2 (.inl hr)) j1 j2 j3,inn_slab (a++b) b (fun r hr=>List.mem_append.2 (.inr hr)) j1 j2 j3] at j4
 ·intro hp;by_cases hx: ∃j,j+1<(D.cuts (a++b)).length ∧rd (D.cuts (a++b)) j≤x∧x<rd (D.cuts (a++b)) (j+1)
  ·obtain ⟨j,j1,j2,j3⟩:=hx;refine ⟨j,j1,j2,j3,?_⟩;rwa [inn_slab (a++b) a (fun r hr=>List.mem_append.2 (.inl hr)) j1 j2 j3,inn_slab (a++b) b (fun r hr=>List.mem_append.2 (.inr hr)) j1 j2 j3]
  ·have hx': ∀j,j+1<(D.cuts (a++b)).length → ¬(rd (D.cuts (a++b)) j≤x∧x<rd (D.cuts (a++b)) (j+1)):=fun j j1 j2=>hx ⟨j,j1,j2⟩;rw [inn_out (a++b) a (fun r hr=>List.mem_append.2 (.inl hr)) hx',inn_out (a++b) b (fun r hr=>List.mem_append.2 (.inr hr)) hx',h0] at hp;exact absurd hp (z2v _ _)
theorem pt_inn {γ:Type} (inB:β→γ→Prop) (l:List α) (x:Int) (q:γ):ptL inB (D.inn l x) q↔ptL (D.inA inB) l (x,q):=by
 constructor
 ·rintro ⟨b,hb,h⟩;obtain ⟨r,hr,rfl⟩:=List.mem_map.1 hb;obtain ⟨h1,h2⟩:=List.mem_filter.1 hr;simp only [Bool.and_eq_true,decide_eq_true_eq] at h2;exact ⟨r,h1,h2.1,h2.2,h⟩
 ·rintro ⟨r,hr,h1,h2,h3⟩;refine ⟨D.pr r,List.mem_map.2 ⟨r,List.mem_filter.2 ⟨hr,?_⟩,rfl⟩,h3⟩;simp only [Bool.and_eq_true,decide_eq_true_eq];exact ⟨h1,h2⟩
theorem out_goJ (l:List α):D.out l=(D.goS (fun x=>D.mak (D.inn l x)) (D.cuts (l++[])) ((D.cuts (l++[])).length - 1) 0 ⟨[],[],0,0⟩).out :=by rw [List.append_nil];unfold out;rw [go_goS];rfl
end Dim
theorem x0q (a b:List R4):D6.same a b=true↔a=b:=decide_eq_true_iff
theorem x0r (a b:List R2):D4.same a b=true↔a=b:=decide_eq_true_iff
theorem Vw {l:List R4} (h: ∀r∈l,Vx r=true) (x:Int):(D4.inn l x).all Qr=true:=List.all_eq_true.2 fun s hs=>by obtain ⟨r,hr,_,_,rfl⟩:=y9h hs;have:=h r hr;simp only [Vx,Qr,Bool.and_eq_true,decide_eq_true_eq] at this ⊢;omega
theorem w5d {l:List R2} (hv:l.all Qr=true) (hl:l.length≤400):y5p.can (Xm l)∧ ∀y,ptL y5p.inB (Xm l) y↔ptL y5p.inB l y:=by
 obtain ⟨c1,c2⟩:=x3r l hv;have e:Xm l=swV l:=by unfold Xm;rw [decide_eq_false (by omega),hv];rfl
 rw [e];exact ⟨c1,c2⟩
theorem z0t {β γ:Type} (M:Sem β γ) {l:List β} (h:M.can l) (hp: ∀q,¬ptL M.inB l q):l=[]:=Classical.byContradiction fun hn=>by obtain ⟨q,hq⟩:=M.some l h hn;exact hp q hq
theorem u1b :Xm []=[]:=by obtain ⟨h1,h2⟩:=w5d (l:=[]) rfl (Nat.zero_le _);exact z0t y5p h1 fun q hq=>z2v _ _ ((h2 q).1 hq)
theorem Dim.out_nil {α β:Type} (D:Dim α β):D.out []=[]:=by
 have h:(D.cuts []).length ≤2*0:=D.cuts_length [];have e:(D.cuts []).length - 1=0:=by omega
 unfold Dim.out;rw [e];rfl
theorem u2s :Zg []=[]:=by unfold Zg;rw [Dim.out_nil];cases decide (400<([]:List R4).length) <;> cases ([]:List R4).all Vx <;> rfl
theorem Qk {l:List R4} (hv: ∀r∈l,Vx r=true) (hl:l.length≤400):Wx.can (D4.out l)∧ ∀p,ptL Wx.inB (D4.out l) p↔ptL Wx.inB l p:=by rw [Dim.out_goJ];have hs: ∀x,y5p.can (D4.mak (D4.inn l x))∧ ∀y,ptL y5p.inB (D4.mak (D4.inn l x)) y↔ptL y5p.inB (D4.inn l x) y:=fun x=>w5d (Vw hv x) (Nat.le_trans (D4.inn_length l x) hl);obtain ⟨h1,h2⟩:=Dim.goJ_can y4n x0r y5p l [] (fun s _=>D4.mak s) (fun x=>(hs x).1) u1b;refine ⟨h1,fun ⟨x,y⟩=> ?_⟩;rw [show ptL Wx.inB _ (x,y)↔_ from h2 x y,(hs x).2,Dim.pt_inn];rfl
theorem y3z {l:List R6} (hv: ∀r∈l,z0m r=true) (z:Int): ∀r∈D6.inn l z,Vx r=true:=fun r hr=>by
 obtain ⟨s,hs,rfl⟩:=List.mem_map.1 hr;have:=z5q (hv s (List.mem_filter.1 hs).1);show Vx ⟨s.a,s.b,s.d,s.e⟩=true;simp only [Vx,Bool.and_eq_true,decide_eq_true_eq]
 (repeat' apply And.intro) <;> omega
def Secs (l:List R6):Prop:= ∀z,(D4.out (D6.inn l z)).length ≤400
theorem z6a {l:List R4} (hv: ∀r∈l,Vx r=true) (hl:l.length≤400) (h:(D4.out l).length ≤400):Zg l=D4.out l∧Xp l=0:=by have hv':l.all Vx=true:=List.all_eq_true.2 hv;unfold Zg Xp;rw [decide_eq_false (by omega),hv',decide_eq_false (by omega)];exact ⟨rfl,rfl⟩
theorem u1e {l:List R6} (hv: ∀r∈l,z0m r=true) (hl:l.length≤400) (hs:Secs l):x8j.can (D6.out l)∧ ∀p,ptL x8j.inB (D6.out l) p↔ptL x8j.inB l p:=by
 rw [Dim.out_goJ];have hq: ∀z,Wx.can (D6.mak (D6.inn l z))∧ ∀p,ptL Wx.inB (D6.mak (D6.inn l z)) p↔ptL Wx.inB (D6.inn l z) p:=fun z=>by show Wx.can (Zg (D6.inn l z))∧ ∀p,ptL Wx.inB (Zg (D6.inn l z)) p↔_;rw [(z6a (y3z hv z) (Nat.le_trans (D6.inn_length l z) hl) (hs z)).1];exact Qk (y3z hv z) (Nat.le_trans (D6.inn_length l z) hl)
 obtain ⟨h1,h2⟩:=Dim.goJ_can z2f x0q Wx l [] (fun s _=>D6.mak s) (fun x=>(hq x).1) u2s;refine ⟨h1,fun ⟨z,p⟩=> ?_⟩;rw [show ptL x8j.inB _ (z,p)↔_ from h2 z p,(hq z).2,Dim.pt_inn];rfl
end Go.Am
namespace Go.Am
open Go.Proofs Go.Sort Go.Shelf Go.RowKit Go.Lib
def opB (k:Nat) (a b:Bool):Bool:=match k with
 | 0=>a||b
 | 1=>a&&b
 | _=>a&& !b
theorem opB_ff (k:Nat):opB k false false=false:=by
 match k with
 | 0=>rfl
 | 1=>rfl
 | _+2=>rfl
def Wj (i:Int) (l:List R2):List R3:=l.flatMap fun s=>[⟨s.a,i,1⟩,⟨s.b,i,-1⟩]
def z3w (i:Int) (E:List R3) (y:Int):Int:=(E.map fun e=>if e.b=i∧e.a≤y then e.c else 0).sum
theorem Vb (i:Int) (e:R3) (E:List R3) (y:Int):z3w i (e::E) y=(if e.b=i∧e.a≤y then e.c else 0)+z3w i E y:=by simp [z3w]
theorem y2n (i:Int) (E F:List R3) (y:Int):z3w i (E++F) y=z3w i E y+z3w i F y:=by simp [z3w]
theorem x1l (i:Int) {E F:List R3} (h:E.Perm F) (y:Int):z3w i E y=z3w i F y:=by
 induction h with
 | nil=>rfl
 | cons e _ ih=>rw [Vb,Vb,ih]
 | swap a b l=>simp only [Vb];omega
 | trans _ _ i1 i2=>rw [i1,i2]
theorem w7k (i:Int) (E:List R3) (y:Int) (h: ∀e∈E,y<e.a):z3w i E y=0:=by
 induction E with
 | nil=>rfl
 | cons e E ih=>rw [Vb,if_neg (by have:=h e (by simp);omega),ih fun f hf=>h f (by simp [hf])];rfl
theorem x1m (i:Int) (l:List R2) (hv: ∀s∈l,s.a<s.b) (y:Int):0≤z3w i (Wj i l) y∧(0<z3w i (Wj i l) y↔pt l y):=by
 induction l with
 | nil=>exact ⟨Int.le_refl _,by simp [z3w,Wj,pt]⟩
 | cons s l ih=>
  obtain ⟨i1,i2⟩:=ih fun t ht=>hv t (by simp [ht]);have hs:=hv s (by simp);have e:z3w i (Wj i (s::l)) y=(if s.a≤y∧y<s.b then 1 else 0)+z3w i (Wj i l) y:=by
   show z3w i (⟨s.a,i,1⟩::⟨s.b,i,-1⟩::Wj i l) y=_;rw [Vb,Vb];show (if i=i∧s.a≤y then (1:Int) else 0)+((if i=i∧s.b≤y then (-1:Int) else 0)+z3w i (Wj i l) y)=_;by_cases h1:s.a≤y
   ·by_cases h2:s.b≤y
    ·rw [if_pos ⟨rfl,h1⟩,if_pos ⟨rfl,h2⟩,if_neg (show¬(s.a≤y∧y<s.b) by omega)];omega
    ·rw [if_pos ⟨rfl,h1⟩,if_neg (fun h=>h2 h.2),if_pos (show s.a≤y∧y<s.b by omega)];omega
   ·rw [if_neg (fun h=>h1 h.2),if_neg (fun h=>by have:=h.2;omega),if_neg (show¬(s.a≤y∧y<s.b) by omega)];omega
  rw [e];by_cases h:s.a≤y∧y<s.b
  ·rw [if_pos h];exact ⟨by omega,⟨fun _=>⟨s,by simp,h⟩,fun _=>by omega⟩⟩
  ·rw [if_neg h];refine ⟨by omega,?_⟩;rw [Int.zero_add,i2];constructor
   ·rintro ⟨t,ht,h2⟩;exact ⟨t,by simp [ht],h2⟩
   ·rintro ⟨t,ht,h2⟩;rcases List.mem_cons.1 ht with rfl | ht
    ·exact absurd h2 h
    ·exact ⟨t,ht,h2⟩
theorem y6n (i j:Int) (hij:i≠j) (l:List R2) (y:Int):z3w i (Wj j l) y=0:=by
 induction l with
 | nil=>rfl
 | cons s l ih=>show z3w i (⟨s.a,j,1⟩::⟨s.b,j,-1⟩::Wj j l) y=0;rw [Vb,Vb,if_neg (fun h=>hij h.1.symm),if_neg (fun h=>hij h.1.symm),ih];rfl
def sw2 (f:Bool→Bool→Bool):List R3→Int→Int→Int→Bool→List R2→List R2
 | [],_,_,_,_,out=>out
 | e::r,o,p,last,inn,out=>
  sw2 f r (bif e.b == 0 then o+e.c else o) (bif e.b == 0 then p else p+e.c) e.a (f (decide ((bif e.b == 0 then o+e.c else o)>0)) (decide ((bif e.b == 0 then p else p+e.c)>0))) (Vj out last inn e.a)
def Two (E:List R3):Prop:= ∀e∈E,e.b=0∨e.b=1
theorem w4y (f:Bool→Bool→Bool): ∀(E:List R3) (o p last:Int) (out:List R2),Asc E→Two E→(∀e∈E,last≤e.a)→Can out→(∀s∈out,s.b≤last)→
  Can (sw2 f E o p last (f (decide (o>0)) (decide (p>0))) out)∧ ∀y,pt (sw2 f E o p last (f (decide (o>0)) (decide (p>0))) out) y↔pt out y∨(last≤y∧f (decide (o+z3w 0 E y>0)) (decide (p+z3w 1 E y>0))=true∧ ∃e∈E,y<e.a)
 | [],o,p,last,out,_,_,_,hc,_=>⟨hc,fun y=>⟨.inl,fun h=>h.elim id fun ⟨_,_,e,he,_⟩=>by cases he⟩⟩
 | e ::r,o,p,last,out,hE,ht,hl,hc,hb=>by
  have he:=hl e (by simp);have hr:=List.pairwise_cons.1 hE;obtain ⟨p1,p2,p3⟩:=y7k (f (decide (o>0)) (decide (p>0))) hc hb he;have hz: ∀y,y<e.a→ ∀i,z3w i (e::r) y=0:=fun y hy i=>w7k i _ _ fun g hg=>by
   rcases List.mem_cons.1 hg with rfl | hg
   ·exact hy
   ·have:=hr.1 g hg;omega
  have main: ∀(o' p':Int),(∀y,e.a≤y→o'+z3w 0 r y=o+z3w 0 (e::r) y∧p'+z3w 1 r y=p+z3w 1 (e::r) y)→
    Can (sw2 f r o' p' e.a (f (decide (o'>0)) (decide (p'>0))) (Vj out last (f (decide (o>0)) (decide (p>0))) e.a))∧
    ∀y,pt (sw2 f r o' p' e.a (f (decide (o'>0)) (decide (p'>0))) (Vj out last (f (decide (o>0)) (decide (p>0))) e.a)) y↔pt out y∨(last≤y∧f (decide (o+z3w 0 (e::r) y>0)) (decide (p+z3w 1 (e::r) y>0))=true∧ ∃g∈e::r,y<g.a):=fun o' p' hop=>by
   obtain ⟨q1,q2⟩:=w4y f r o' p' e.a (Vj out last (f (decide (o>0)) (decide (p>0))) e.a) hr.2 (fun g hg=>ht g (by simp [hg])) hr.1 p1 p2;refine ⟨q1,fun y=> ?_⟩;rw [q2,p3];constructor
   ·rintro ((h | ⟨h1,h2,h3⟩) | ⟨h1,h2,g,hg,h3⟩)
    ·exact .inl h
    ·refine .inr ⟨h2,?_,e,by simp,h3⟩;rw [hz y h3,hz y h3,Int.add_zero,Int.add_zero];exact h1
    ·refine .inr ⟨by omega,?_,g,by simp [hg],h3⟩;obtain ⟨e1,e2⟩:=hop y h1;rw [←e1,←e2];exact h2
   ·rintro (h | ⟨h1,h2,g,hg,h3⟩)
    ·exact .inl (.inl h)
    ·by_cases hy:e.a≤y
     ·right;obtain ⟨e1,e2⟩:=hop y hy;refine ⟨hy,by rw [e1,e2];exact h2,g,?_,h3⟩;rcases List.mem_cons.1 hg with rfl | hg
      ·omega
      ·exact hg
     ·left;right;rw [hz y (by omega),hz y (by omega),Int.add_zero,Int.add_zero] at h2;exact ⟨h2,h1,by omega⟩
  show Can (sw2 f r _ _ _ _ _)∧ ∀y,pt (sw2 f r _ _ _ _ _) y↔_;rcases ht e (by simp) with h0 | h0
  ·have hb0:(e.b == 0)=true:=by rw [h0];rfl
   rw [hb0,cond_true,cond_true];refine main _ _ fun y hy=>⟨?_,?_⟩
   ·rw [Vb,if_pos ⟨h0,hy⟩];omega
   ·rw [Vb,if_neg (fun h=>by have:=h.1;omega)];omega
  ·have hb0:(e.b == 0)=false:=by rw [h0];rfl
   rw [hb0,cond_false,cond_false];refine main _ _ fun y hy=>⟨?_,?_⟩
   ·rw [Vb,if_neg (fun h=>by have:=h.1;omega)];omega
   ·rw [Vb,if_pos ⟨h0,hy⟩];omega
instance ptDec (l:List R2) (y:Int):Decidable (pt l y):=Classical.propDecidable _
theorem u0x (f:Bool→Bool→Bool) (hf:f false false=false) (a b:List R2) (ha: ∀s∈a,s.a<s.b) (hb: ∀s∈b,s.a<s.b) (E:List R3) (hp:E.Perm (Wj 0 a++Wj 1 b)) (hE:Asc E):
  Can (sw2 f E 0 0 0 false [])∧ ∀y,pt (sw2 f E 0 0 0 false []) y↔f (decide (pt a y)) (decide (pt b y))=true:=by
 have hn: ∀y,z3w 0 E y=z3w 0 (Wj 0 a) y∧z3w 1 E y=z3w 1 (Wj 1 b) y:=fun y=>by rw [x1l 0 hp,x1l 1 hp,y2n,y2n,y6n 0 1 (by decide),y6n 1 0 (by decide)];omega
 have hd: ∀y,decide (z3w 0 E y>0)=decide (pt a y)∧decide (z3w 1 E y>0)=decide (pt b y):=fun y=>by obtain ⟨e1,e2⟩:=hn y;exact ⟨decide_eq_decide.2 (by rw [e1];exact (x1m 0 a ha y).2),decide_eq_decide.2 (by rw [e2];exact (x1m 1 b hb y).2)⟩
 have ht:Two E:=fun e he=>by
  rcases List.mem_append.1 (hp.mem_iff.1 he) with h | h
  ·obtain ⟨s,_,h⟩:=List.mem_flatMap.1 h;simp only [List.mem_cons,List.not_mem_nil,or_false] at h;rcases h with rfl | rfl <;> exact .inl rfl
  ·obtain ⟨s,_,h⟩:=List.mem_flatMap.1 h;simp only [List.mem_cons,List.not_mem_nil,or_false] at h;rcases h with rfl | rfl <;> exact .inr rfl
 have cover: ∀y,f (decide (pt a y)) (decide (pt b y))=true→ ∃e∈E,y<e.a∧ ∃g∈E,g.a≤y:=fun y hy=>by
  by_cases h1:pt a y
  ·obtain ⟨s,hs,s1,s2⟩:=h1;exact ⟨⟨s.b,0,-1⟩,hp.mem_iff.2 (List.mem_append.2 (.inl (List.mem_flatMap.2 ⟨s,hs,by simp⟩))),s2,⟨s.a,0,1⟩,hp.mem_iff.2 (List.mem_append.2 (.inl (List.mem_flatMap.2 ⟨s,hs,by simp⟩))),s1⟩
  ·by_cases h2:pt b y
   ·obtain ⟨s,hs,s1,s2⟩:=h2;exact ⟨⟨s.b,1,-1⟩,hp.mem_iff.2 (List.mem_append.2 (.inr (List.mem_flatMap.2 ⟨s,hs,by simp⟩))),s2,⟨s.a,1,1⟩,hp.mem_iff.2 (List.mem_append.2 (.inr (List.mem_flatMap.2 ⟨s,hs,by simp⟩))),s1⟩
   ·rw [decide_eq_false h1,decide_eq_false h2,hf] at hy;cases hy
 cases E with
 | nil=>refine ⟨.nil,fun y=>⟨fun ⟨s,hs,_⟩=>(by cases hs),fun hy=> ?_⟩⟩;obtain ⟨e,he,_⟩:=cover y hy;cases he
 | cons e r=>
  have hr:=List.pairwise_cons.1 hE;have hz0:f (decide ((0:Int)>0)) (decide ((0:Int)>0))=false:=hf;have e0:sw2 f (e::r) 0 0 0 false []=sw2 f (e::r) 0 0 e.a (f (decide ((0:Int)>0)) (decide ((0:Int)>0))) []:=by rw [hz0];show sw2 f r _ _ _ _ (Vj [] 0 false e.a)=sw2 f r _ _ _ _ (Vj [] e.a false e.a);rfl
  rw [e0];obtain ⟨q1,q2⟩:=w4y f (e::r) 0 0 e.a [] hE ht (fun g hg=>by
   rcases List.mem_cons.1 hg with rfl | hg
   ·exact Int.le_refl _
   ·exact hr.1 g hg) .nil (by simp)
  refine ⟨q1,fun y=> ?_⟩;rw [q2,Int.zero_add,Int.zero_add,(hd y).1,(hd y).2];constructor
  ·rintro (⟨s,hs,_⟩ | ⟨_,h2,_⟩)
   ·cases hs
   ·exact h2
  ·intro hy;obtain ⟨g,hg,h1,k,hk,h2⟩:=cover y hy;refine .inr ⟨?_,hy,g,hg,h1⟩;rcases List.mem_cons.1 hk with rfl | hk
   ·exact h2
   ·have h3:e.a≤k.a:=hr.1 k hk;omega
end Go.Am
namespace Go.Am
open Go.Proofs Go.Sort Go.Shelf Go.RowKit Go.Lib
def tri :Nat→Nat
 | 0=>0
 | k+1=>tri k+k
theorem w4w : ∀n,tri (n+1)+tri n=n*n
 | 0=>rfl
 | n+1=>by have:=w4w n;show tri (n+1)+(n+1)+(tri n+n)=(n+1)*(n+1);rw [Nat.add_mul,Nat.mul_add];omega
def hat (n:Nat):Nat→Nat
 | 0=>0
 | v+1=>hat n v+min v (2*n - v)
theorem w8w (n:Nat): ∀v,v≤n+1→hat n v=tri v
 | 0,_=>rfl
 | v+1,h=>by show hat n v+min v (2*n - v)=tri v+v;rw [w8w n v (by omega)];omega
theorem y1i (n:Nat): ∀j,j≤n→hat n (n+1+j)+tri (n - j)=n*n
 | 0,_=>by rw [Nat.add_zero,w8w n _ (Nat.le_refl _)];exact w4w n
 | j+1,h=>by
  have:=y1i n j (by omega);show hat n (n+1+j)+min (n+1+j) (2*n - (n+1+j))+tri (n - (j+1))=_;have e:tri (n - j)=tri (n - (j+1))+(n - (j+1)):=by rw [show n - j=(n - (j+1))+1 by omega];rfl
  omega
theorem hat_le (n v:Nat):hat n v≤n*n:=by
 by_cases h1:v≤2*n+1
 ·by_cases h2:v≤n+1
  ·have h3:=y1i n 0 (Nat.zero_le _);have mono: ∀k v,hat n v≤hat n (v+k):=fun k v=>by
    induction k with
    | zero=>exact Nat.le_refl _
    | succ k ih=>exact Nat.le_trans ih (Nat.le_add_right _ _)
   have:=mono (n+1 - v) v;rw [show v+(n+1 - v)=n+1+0 by omega] at this;omega
  ·have:=y1i n (v - (n+1)) (by omega);rw [show n+1+(v - (n+1))=v by omega] at this;omega
 ·have h3:hat n (2*n+1)≤n*n:=by have:=y1i n n (Nat.le_refl _);rw [show n+1+n=2*n+1 by omega] at this;omega
  have: ∀k,hat n (2*n+1+k)=hat n (2*n+1):=fun k=>by
   induction k with
   | zero=>rfl
   | succ k ih=>show hat n (2*n+1+k)+min (2*n+1+k) (2*n - (2*n+1+k))=_;rw [ih];omega
  have h4:=this (v - (2*n+1));rw [show 2*n+1+(v - (2*n+1))=v by omega] at h4;omega
theorem x9y (n:Nat) (E:Nat→Nat): ∀k,(∀i,i+1<k→E i<E (i+1))→((List.range k).map fun i=>min (E i) (2*n - E i)).sum ≤(match k with | 0=>0 | k+1=>hat n (E k+1))
 | 0,_=>Nat.le_refl _
 | k+1,h=>by
  rw [List.range_succ,List.map_append,List.sum_append];have ih:=x9y n E k fun i hi=>h i (by omega);have mono: ∀k v,hat n v≤hat n (v+k):=fun k v=>by
   induction k with
   | zero=>exact Nat.le_refl _
   | succ k ih=>exact Nat.le_trans ih (Nat.le_add_right _ _)
  simp only [List.map_cons,List.map_nil,List.sum_cons,List.sum_nil,Nat.add_zero];show _≤hat n (E k)+min (E k) (2*n - E k);cases k with
  | zero=>simp only [List.range_zero,List.map_nil,List.sum_nil];omega
  | succ k=>have h1:=h k (by omega);have h2:=mono (E (k+1) - (E k+1)) (E k+1);rw [show E k+1+(E (k+1) - (E k+1))=E (k+1) by omega] at h2;simp only at ih;omega
def x3i (p:Int→Bool) (l:List Int):Nat:=(l.filter p).length
theorem z0z (p:Int→Bool) (x:Int) (l:List Int):x3i p (x::l)=(if p x=true then 1 else 0)+x3i p l:=by
 unfold x3i;rw [List.filter_cons];split
 ·simp;omega
 ·simp
theorem u6p (p:Int→Bool) (l:List Int):x3i p l≤l.length:=List.length_filter_le _ _
theorem v0h {p q:Int→Bool} (h: ∀x,p x=true→q x=true) (l:List Int):x3i p l≤x3i q l:=by
 induction l with
 | nil=>exact Nat.le_refl _
 | cons x l ih=>
  rw [z0z,z0z];by_cases h1:p x=true
  ·rw [if_pos h1,if_pos (h x h1)];omega
  ·rw [if_neg h1];omega
theorem u6o {p q:Int→Bool} (h: ∀x,p x=true→q x=true) {l:List Int} {y:Int} (hy:y∈l) (hq:q y=true) (hp:p y=false):x3i p l<x3i q l:=by
 induction l with
 | nil=>cases hy
 | cons x l ih=>
  rw [z0z,z0z];rcases List.mem_cons.1 hy with rfl | hy
  ·have:=v0h h l;rw [hp,hq];simp;omega
  ·have:=ih hy;by_cases h1:p x=true
   ·rw [if_pos h1,if_pos (h x h1)];omega
   ·rw [if_neg h1];omega
namespace Dim
variable {α β:Type} {D:Dim α β}
theorem inn_min (l:List α) (x:Int) (hv: ∀r∈l,D.lo r<D.hi r):(D.inn l x).length ≤min (x3i (fun y=>decide (y≤x)) (D.ends l)) (2*l.length - x3i (fun y=>decide (y≤x)) (D.ends l)):=by
 induction l with
 | nil=>exact Nat.zero_le _
 | cons r l ih=>
  have ih:=ih fun s hs=>hv s (by simp [hs]);have hr:=hv r (by simp);have hc:=u6p (fun y=>decide (y≤x)) (D.ends l);rw [D.ends_length] at hc;have e:x3i (fun y=>decide (y≤x)) (D.ends (r::l))=(if D.lo r≤x then 1 else 0)+((if D.hi r≤x then 1 else 0)+x3i (fun y=>decide (y≤x)) (D.ends l)):=by show x3i _ (D.lo r::D.hi r::D.ends l)=_;rw [z0z,z0z];simp only [decide_eq_true_eq]
  have e2:(D.inn (r::l) x).length =(if D.lo r≤x∧x<D.hi r then 1 else 0)+(D.inn l x).length :=by
   unfold inn;rw [List.filter_cons];by_cases h:D.lo r≤x∧x<D.hi r
   ·rw [if_pos (by simp [h.1,h.2]),if_pos h];simp;omega
   ·rw [if_neg (by simp;intro h1;exact Int.not_lt.1 fun h2=>h ⟨h1,h2⟩),if_neg h,Nat.zero_add]
  rw [e,e2,List.length_cons];by_cases h1:D.lo r≤x <;> by_cases h2:D.hi r≤x
  ·rw [if_pos h1,if_pos h2,if_neg (by omega)];omega
  ·rw [if_pos h1,if_neg h2,if_pos (by omega)];omega
  ·omega
  ·rw [if_neg h1,if_neg h2,if_neg (by omega)];omega
theorem open_sum (l:List α) (hv: ∀r∈l,D.lo r<D.hi r): ∀k,k≤(D.cuts l).length →((List.range k).map fun i=>(D.inn l (rd (D.cuts l) i)).length).sum ≤l.length*l.length:=fun k hk=>by
 have hc:(D.cuts l).Pairwise (· < ·):=by show (Ug (D.ends l)).Pairwise (· < ·);rw [Uv];exact (Xc _).1
 have hm: ∀i,i<(D.cuts l).length →rd (D.cuts l) i∈D.ends l:=fun i hi=>by
  have:rd (D.cuts l) i∈Ug (D.ends l):=by rw [Xu hi];exact List.getElem_mem hi
  rw [Uv,(Xc _).2] at this;exact this
 have h1:((List.range k).map fun i=>(D.inn l (rd (D.cuts l) i)).length).sum ≤((List.range k).map fun i=>min (x3i (fun y=>decide (y≤rd (D.cuts l) i)) (D.ends l)) (2*l.length - x3i (fun y=>decide (y≤rd (D.cuts l) i)) (D.ends l))).sum :=by
  induction k with
  | zero=>exact Nat.le_refl _
  | succ k ih=>rw [List.range_succ,List.map_append,List.map_append,List.sum_append,List.sum_append];have:=ih (by omega);have h2:=D.inn_min l (rd (D.cuts l) k) hv;simp only [List.map_cons,List.map_nil,List.sum_cons,List.sum_nil];omega
 refine Nat.le_trans h1 ?_;have h2:=x9y l.length (fun i=>x3i (fun y=>decide (y≤rd (D.cuts l) i)) (D.ends l)) k fun i hi=>by have hlt:=y4y hc (show i<i+1 by omega) (show i+1<_ by omega);refine u6o (fun x hx=> ?_) (hm (i+1) (by omega)) (decide_eq_true (Int.le_refl _)) (decide_eq_false (by omega));have:=of_decide_eq_true hx;exact decide_eq_true (by omega)
 refine Nat.le_trans h2 ?_;cases k with
 | zero=>exact Nat.zero_le _
 | succ k=>exact hat_le _ _
theorem goS_length (sec:Int→List β) (cs:List Int): ∀(k i:Nat) (s:Sw α β),(D.goS sec cs k i s).out.length ≤s.out.length+((List.range k).map fun j=>(sec (rd cs (i+j))).length).sum
 | 0,i,s=>Nat.le_refl _
 | k+1,i,s=>by
  have h1:=goS_length sec cs k (i+1) (D.oneS (sec (rd cs i)) (rd cs i) (rd cs (i+1)) s);have h2:(D.oneS (sec (rd cs i)) (rd cs i) (rd cs (i+1)) s).out.length ≤s.out.length+(sec (rd cs i)).length :=by
   unfold oneS;cases (decide (0<(sec (rd cs i)).length)&&((s.fin == rd cs i)&&D.same s.last (sec (rd cs i)))) with
   | true=>rw [cond_true,D.grow_length];omega
   | false=>rw [cond_false];simp
  rw [List.range_succ_eq_map,List.map_cons,List.map_map,List.sum_cons,show rd cs (i+0)=rd cs i from rfl];have e:((fun j=>(sec (rd cs (i+j))).length)∘Nat.succ)=fun j=>(sec (rd cs (i+1+j))).length :=by
   funext j;simp only [Function.comp];rw [show i+j.succ=i+1+j by omega]
  rw [e];show (D.goS sec cs k (i+1) _).out.length ≤_;omega
theorem goJ_length (a b:List α) (J:List β→List β→List β) (hJ: ∀x,(J (D.inn a x) (D.inn b x)).length ≤(D.inn a x).length +(D.inn b x).length) (hv: ∀r∈a++b,D.lo r<D.hi r):
  (D.goS (fun x=>J (D.inn a x) (D.inn b x)) (D.cuts (a++b)) ((D.cuts (a++b)).length - 1) 0 ⟨[],[],0,0⟩).out.length ≤(a.length+b.length)*(a.length+b.length):=by
 have h1:=D.goS_length (fun x=>J (D.inn a x) (D.inn b x)) (D.cuts (a++b)) ((D.cuts (a++b)).length - 1) 0 ⟨[],[],0,0⟩;have h2:=D.open_sum (a++b) hv ((D.cuts (a++b)).length - 1) (Nat.sub_le _ _);rw [List.length_append] at h2;refine Nat.le_trans h1 (Nat.le_trans ?_ h2);simp only [List.length_nil,Nat.zero_add];generalize (D.cuts (a++b)).length - 1=k
 induction k with
 | zero=>exact Nat.le_refl _
 | succ k ih=>rw [List.range_succ,List.map_append,List.map_append,List.sum_append,List.sum_append];have:=hJ (rd (D.cuts (a++b)) k);simp only [List.map_cons,List.map_nil,List.sum_cons,List.sum_nil];rw [D.inn_append,List.length_append];omega
end Dim
end Go.Am
namespace Go.Am
open Go.Proofs Go.Sort Go.Shelf Go.RowKit Go.Lib
def spJ (k:Nat) (a b:List R2):List R2:=sw2 (opB k) (Qs (Wj 0 a++Wj 1 b)) 0 0 0 false []
theorem z6y (i:Int) (l:List R2) (hv:l.all Qr=true):z9w (Wj i l)=true:=List.all_eq_true.2 fun e he=>by obtain ⟨s,hs,h1⟩:=List.mem_flatMap.1 he;have hv:=List.all_eq_true.1 hv s hs;simp only [Qr,Bool.and_eq_true,decide_eq_true_eq] at hv;simp only [List.mem_cons,List.not_mem_nil,or_false] at h1;rcases h1 with rfl | rfl <;> exact decide_eq_true (by simp only;omega)
theorem x8e {l:List R2} (hv:l.all Qr=true): ∀s∈l,s.a<s.b:=fun s hs=>by have:=List.all_eq_true.1 hv s hs;simp only [Qr,Bool.and_eq_true,decide_eq_true_eq] at this;exact this.1
theorem z7p (k:Nat) {a b:List R2} (ha:a.all Qr=true) (hb:b.all Qr=true):y5p.can (spJ k a b)∧ ∀y,ptL y5p.inB (spJ k a b) y↔opB k (decide (pt a y)) (decide (pt b y))=true:=by
 have hbnd:z9w (Wj 0 a++Wj 1 b)=true:=by have h1:=z6y 0 a ha;have h2:=z6y 1 b hb;unfold z9w at*;rw [List.all_append,h1,h2];rfl
 obtain ⟨hp,_⟩:=Kv _ hbnd;exact u0x (opB k) (opB_ff k) a b (x8e ha) (x8e hb) _ hp (x8h _ hbnd)
theorem x9d : ∀(l S:List Int),l.Pairwise (· < ·)→(∀x∈l,x∈S)→l.length≤S.length
 | [],S,_,_=>Nat.zero_le _
 | x::l,S,h,hs=>by obtain ⟨h1,h2⟩:=List.pairwise_cons.1 h;have hx:=hs x (by simp);have:=x9d l (S.erase x) h2 fun y hy=>(List.mem_erase_of_ne (by have:=h1 y hy;omega)).2 (hs y (by simp [hy]));rw [List.length_erase_of_mem hx] at this;have:=List.length_pos_of_mem hx;simp only [List.length_cons];omega
def z8q (L:List R2):List Int:=L.flatMap fun s=>[s.a,s.b]
theorem z0i (L:List R2):(z8q L).length =2*L.length:=by
 induction L with
 | nil=>rfl
 | cons r l ih=>show (_::_::z8q l).length =_;simp only [List.length_cons,ih];omega
theorem y3w {L:List R2} (h:Can L):(z8q L).Pairwise (· < ·):=by
 induction L with
 | nil=>exact .nil
 | cons s L ih=>
  have hp:=h.pos s (by simp);have hn: ∀y∈z8q L,s.b<y:=fun y hy=>by obtain ⟨t,ht,h1⟩:=List.mem_flatMap.1 hy;have:=h.head t ht;have:=h.pos t (by simp [ht]);simp only [List.mem_cons,List.not_mem_nil,or_false] at h1;omega
  show (s.a::s.b::z8q L).Pairwise (· < ·);refine List.pairwise_cons.2 ⟨fun y hy=> ?_,List.pairwise_cons.2 ⟨hn,ih h.tail⟩⟩;rcases List.mem_cons.1 hy with rfl | hy
  ·exact hp
  ·have:=hn y hy;omega
theorem w3y {L:List R2} (h:Can L) (S:List Int) (hS: ∀y,y ∉ S→(pt L (y - 1)↔pt L y)):2*L.length≤S.length:=by
 rw [←z0i];refine x9d _ S (y3w h) fun y hy=>Classical.byContradiction fun hn=> ?_;obtain ⟨s,hs,h1⟩:=List.mem_flatMap.1 hy;have hp:=h.pos s hs;have sepL: ∀t∈L,t=s∨t.b<s.a∨s.b<t.a:=fun t ht=>by
  obtain ⟨i,hi,ei⟩:=List.getElem_of_mem hs;obtain ⟨j,hj,ej⟩:=List.getElem_of_mem ht;have pw:=List.pairwise_iff_getElem.1 h.sep;rcases Nat.lt_trichotomy i j with q | q | q
  ·have:=pw i j hi hj q;rw [ei,ej] at this;exact .inr (.inr this)
  ·subst q;exact .inl (ej.symm.trans ei)
  ·have:=pw j i hj hi q;rw [ei,ej] at this;exact .inr (.inl this)
 simp only [List.mem_cons,List.not_mem_nil,or_false] at h1;rcases h1 with rfl | rfl
 ·obtain ⟨t,ht,t1,t2⟩:=(hS _ hn).2 ⟨s,hs,Int.le_refl _,hp⟩;rcases sepL t ht with rfl | q | q <;> omega
 ·obtain ⟨t,ht,t1,t2⟩:=(hS _ hn).1 ⟨s,hs,by omega,by omega⟩;rcases sepL t ht with rfl | q | q <;> omega
theorem z7w {l:List R2} {y:Int} (h:y ∉ z8q l):pt l (y - 1)↔pt l y:=by
 constructor
 ·rintro ⟨s,hs,h1,h2⟩;refine ⟨s,hs,by omega,?_⟩;have:y≠s.b:=fun e=>h (List.mem_flatMap.2 ⟨s,hs,by simp [e]⟩);omega
 ·rintro ⟨s,hs,h1,h2⟩;refine ⟨s,hs,?_,by omega⟩;have:y≠s.a:=fun e=>h (List.mem_flatMap.2 ⟨s,hs,by simp [e]⟩);omega
theorem z0o (k:Nat) {a b:List R2} (ha:a.all Qr=true) (hb:b.all Qr=true):(spJ k a b).length ≤a.length+b.length:=by
 obtain ⟨h1,h2⟩:=z7p k ha hb;have:=w3y h1 (z8q a++z8q b) fun y hy=>by rw [List.mem_append,not_or] at hy;have e1:decide (pt a (y - 1))=decide (pt a y):=decide_eq_decide.2 (z7w hy.1);have e2:decide (pt b (y - 1))=decide (pt b y):=decide_eq_decide.2 (z7w hy.2);have q1:pt (spJ k a b) (y - 1)↔_:=h2 (y - 1);have q2:pt (spJ k a b) y↔_:=h2 y;rw [q1,q2,e1,e2]
 rw [List.length_append,z0i,z0i] at this;omega
def rgJ (k:Nat) (a b:List R4):List R4:=(D4.goS (fun x=>spJ k (D4.inn a x) (D4.inn b x)) (D4.cuts (a++b)) ((D4.cuts (a++b)).length - 1) 0 ⟨[],[],0,0⟩).out
theorem u1d (k:Nat):spJ k [] []=[]:=by have:=z0o k (a:=[]) (b:=[]) rfl rfl;exact List.eq_nil_of_length_eq_zero (by simpa using this)
instance ptDec4 (l:List R4) (p:Int×Int):Decidable (ptL Wx.inB l p):=Classical.propDecidable _
theorem z2w (l:List R4) (x y:Int):pt (D4.inn l x) y↔ptL Wx.inB l (x,y):=Dim.pt_inn (D:=D4) y5p.inB l x y
theorem Qq (k:Nat) {a b:List R4} (ha: ∀r∈a,Vx r=true) (hb: ∀r∈b,Vx r=true):
  Wx.can (rgJ k a b)∧(∀p,ptL Wx.inB (rgJ k a b) p↔opB k (decide (ptL Wx.inB a p)) (decide (ptL Wx.inB b p))=true)∧(rgJ k a b).length ≤(a.length+b.length)*(a.length+b.length):=by
 have hs: ∀x,y5p.can (spJ k (D4.inn a x) (D4.inn b x))∧ ∀y,ptL y5p.inB (spJ k (D4.inn a x) (D4.inn b x)) y↔opB k (decide (pt (D4.inn a x) y)) (decide (pt (D4.inn b x) y))=true:=fun x=>z7p k (Vw ha x) (Vw hb x);obtain ⟨h1,h2⟩:=Dim.goJ_can y4n x0r y5p a b (spJ k) (fun x=>(hs x).1) (u1d k);refine ⟨h1,fun ⟨x,y⟩=> ?_,?_⟩
 ·rw [show ptL Wx.inB (rgJ k a b) (x,y)↔_ from h2 x y,(hs x).2];have e1:decide (pt (D4.inn a x) y)=decide (ptL Wx.inB a (x,y)):=decide_eq_decide.2 (z2w a x y);have e2:decide (pt (D4.inn b x) y)=decide (ptL Wx.inB b (x,y)):=decide_eq_decide.2 (z2w b x y);rw [e1,e2]
 ·refine Dim.goJ_length a b (spJ k) (fun x=>z0o k (Vw ha x) (Vw hb x)) fun r hr=> ?_;have hv:Vx r=true:=by
   rcases List.mem_append.1 hr with h | h
   ·exact ha r h
   ·exact hb r h
  simp only [Vx,Bool.and_eq_true,decide_eq_true_eq] at hv;exact hv.1
end Go.Am
namespace Go.Am
open Go.Proofs.Tryz
open Go.Proofs
inductive schS where
 | h0 (v10:Int)
def schC (l0:List R2):schS→Cfg
 | .h0 v10=>⟨⟨34,0,true⟩,none,(Zd prog 191 [1,1,0,1,0,0] 0),none,(Zy prog 3),⟨Ya [(0,(.dat l0.length (Zz l0))),(8,(.dat l0.length (Zz l0))),(9,(ii (l0.length:Int))),(10,(ii v10))],Uq [] 0,0,[],true⟩,[],.leaf⟩
def u1y :List (Option (List Nat)):=[some [0,8,9,10]]
def u1z :List (Option (List Nat)):=[]
def z2o (l0:List R2):schS→Xf schS
 | .h0 v10=>(bif (decide (v10<(l0.length:Int))) then (bif ((decide (0≤v10∧v10<(l0.length:Int)))&&true) then (bif (decide ((rd l0 v10.toNat).a <(rd l0 v10.toNat).b)) then (bif (decide ((rd l0 v10.toNat).a ≥(-1000000))) then (bif (!(decide ((rd l0 v10.toNat).b ≤1000000))) then (.ret [(.int .i64 8)]) else (bif (decide (v10>0)) then (bif ((decide (0≤(IntKind.wrap .i64 (v10 - 1))∧(IntKind.wrap .i64 (v10 - 1))<(l0.length:Int)))&&true) then (bif (decide ((rd l0 (Int.toNat (IntKind.wrap .i64 (v10 - 1)))).b ≥(rd l0 v10.toNat).a)) then (.ret [(.int .i64 8)]) else (.to (.h0 (IntKind.wrap .i64 (v10+1))))) else .stuck) else (.to (.h0 (IntKind.wrap .i64 (v10+1)))))) else (.ret [(.int .i64 8)])) else (.ret [(.int .i64 8)])) else .stuck) else (.ret [(.int .i64 0)]))
def y0m (l0:List R2):Xf schS:=(bif (decide ((l0.length:Int)>400)) then (.ret [(.int .i64 4)]) else (.to (.h0 0)))
theorem w1l (l0:List R2): ∀s,Xj prog (Zy prog 191) (schC l0) (schC l0 s) (z2o l0 s)
 | .h0 v10=>(lb (fun k0=>(lo fun aG=>(lb (fun k1=>(lb (fun k2=>(lb (fun k3=>(lr 34 191 [1,1,0,1,0,0,1,1,0,0,1,1,0,0] 1 3 [(2,(ii 8))] (sl z4g 25 [] ⟨[],[],[some [2]],[]⟩ ⟨[],[],[]⟩ (trs 12 []) (tt k3 (tt k2 (tt k1 (ww aG (tt k0 nn)))))))) (fun k3=>(lb (fun k4=>(lo fun cM=>(lb (fun k5=>(lr 34 191 [1,1,0,1,0,0,1,1,0,0,1,1,0,0] 1 3 [(2,(ii 8))] (sl z4g 25 [] ⟨[],[],[some [2]],[]⟩ ⟨[],[],[]⟩ (trs 7 (bl 14 12280)) (tt k5 (ww cM (tt k4 (tt k3 (tt k2 (tt k1 (ww aG (tt k0 nn))))))))))) (fun k5=>(sl z4g 28 [] ⟨[],[],u1y,u1z⟩ ⟨[],[],[]⟩ (trs 7 (bl 14 4088)) (tt k5 (ww cM (tt k4 (tt k3 (tt k2 (tt k1 (ww aG (tt k0 nn))))))))))))) (fun k4=>(sl z4g 28 [] ⟨[],[],u1y,u1z⟩ ⟨[],[],[]⟩ (trs 7 (bl 14 0)) (tt k4 (tt k3 (tt k2 (tt k1 (ww aG (tt k0 nn)))))))))))) (fun k2=>(lr 34 191 [1,1,0,1,0,0,1,1,0,0,1,1,0,0] 1 3 [(2,(ii 8))] (sl z4g 25 [] ⟨[],[],[some [2]],[]⟩ ⟨[],[],[]⟩ (trs 4 (bl 8 248)) (tt k2 (tt k1 (ww aG (tt k0 nn))))))))) (fun k1=>(lr 34 191 [1,1,0,1,0,0,1,1,0,0,1,1,0,0] 1 3 [(2,(ii 8))] (sl z4g 25 [] ⟨[],[],[some [2]],[]⟩ ⟨[],[],[]⟩ (bl 12 3969) (tt k1 (ww aG (tt k0 nn))))))))) (fun k0=>(lr 34 3 [1,1,1,1,1,1,1,0] 1 3 [(2,(ii 0))] (sl z4g 11 [] ⟨[],[],[some [2]],[]⟩ ⟨[],[],[]⟩ [false] (tt k0 nn)))))
theorem x4e (l0:List R2):Xj prog (Zy prog 191) (schC l0) (Ze prog 191 [(.dat l0.length (Zz l0))] true []) (y0m l0):=(lb (fun k0=>(lr 34 191 [1,0,1,0,0] 1 3 [(2,(ii 4))] (sl z4g 16 [] ⟨[],[],[some [2]],[]⟩ ⟨[],[],[]⟩ [true] (tt k0 nn)))) (fun k0=>(sl z4g 22 [] ⟨[],[],u1y,u1z⟩ ⟨[],[],[]⟩ [false] (tt k0 nn))))
theorem v2e (l0:List R2) (n:Nat) (vs:List AVal) (h:Yv (z2o l0) n (y0m l0)=.ret vs):Ky prog (Zy prog 191) (Ze prog 191 [(.dat l0.length (Zz l0))] true []) vs:=by have:=Zr (w1l l0) n _ (x4e l0);rwa [h] at this
inductive cuS where
def cuC (x0:Bool) (x1:Bool):cuS→Cfg
 :=nofun
def v0f (x0:Bool) (x1:Bool):cuS→Xf cuS
 :=nofun
def x7e (x0:Bool) (x1:Bool):Xf cuS:=(bif x0 then (.ret [(.bool true)]) else (.ret [(.bool x1)]))
theorem v0e (x0:Bool) (x1:Bool): ∀s,Xj prog (Zy prog 164) (cuC x0 x1) (cuC x0 x1 s) (v0f x0 x1 s)
 :=nofun
theorem w3t (x0:Bool) (x1:Bool):Xj prog (Zy prog 164) (cuC x0 x1) (Ze prog 164 [(.bool x0),(.bool x1)] true []) (x7e x0 x1):=(lb (fun k0=>(lr 9 3 [1,1,1,1,1,1,1,0] 1 5 [(4,(.bool true))] (sl z4g 12 [] ⟨[],[],[some [4]],[]⟩ ⟨[],[],[]⟩ [true] (tt k0 nn)))) (fun k0=>(lr 9 3 [1,1,1,1,1,1,1,0] 1 5 [(4,(.bool x1))] (sl z4g 12 [] ⟨[],[],[some [4]],[]⟩ ⟨[],[],[]⟩ [false] (tt k0 nn)))))
theorem u6l (x0:Bool) (x1:Bool) (n:Nat) (vs:List AVal) (h:Yv (v0f x0 x1) n (x7e x0 x1)=.ret vs):Ky prog (Zy prog 164) (Ze prog 164 [(.bool x0),(.bool x1)] true []) vs:=by have:=Zr (v0e x0 x1) n _ (w3t x0 x1);rwa [h] at this
inductive ceS where
def ceC (x0:Bool) (x1:Bool):ceS→Cfg
 :=nofun
def v0k (x0:Bool) (x1:Bool):ceS→Xf ceS
 :=nofun
def x7j (x0:Bool) (x1:Bool):Xf ceS:=(bif x0 then (.ret [(.bool x1)]) else (.ret [(.bool false)]))
theorem v0j (x0:Bool) (x1:Bool): ∀s,Xj prog (Zy prog 170) (ceC x0 x1) (ceC x0 x1 s) (v0k x0 x1 s)
 :=nofun
theorem w3w (x0:Bool) (x1:Bool):Xj prog (Zy prog 170) (ceC x0 x1) (Ze prog 170 [(.bool x0),(.bool x1)] true []) (x7j x0 x1):=(lb (fun k0=>(lr 9 3 [1,1,1,1,1,1,1,0] 1 5 [(4,(.bool x1))] (sl z4g 12 [] ⟨[],[],[some [4]],[]⟩ ⟨[],[],[]⟩ [true] (tt k0 nn)))) (fun k0=>(lr 9 3 [1,1,1,1,1,1,1,0] 1 5 [(4,(.bool false))] (sl z4g 12 [] ⟨[],[],[some [4]],[]⟩ ⟨[],[],[]⟩ [false] (tt k0 nn)))))
theorem u6q (x0:Bool) (x1:Bool) (n:Nat) (vs:List AVal) (h:Yv (v0k x0 x1) n (x7j x0 x1)=.ret vs):Ky prog (Zy prog 170) (Ze prog 170 [(.bool x0),(.bool x1)] true []) vs:=by have:=Zr (v0j x0 x1) n _ (w3w x0 x1);rwa [h] at this
inductive cdS where
def cdC (x0:Bool) (x1:Bool):cdS→Cfg
 :=nofun
def v0m (x0:Bool) (x1:Bool):cdS→Xf cdS
 :=nofun
def x7l (x0:Bool) (x1:Bool):Xf cdS:=(bif x0 then (.ret [(.bool (!x1))]) else (.ret [(.bool false)]))
theorem v0l (x0:Bool) (x1:Bool): ∀s,Xj prog (Zy prog 163) (cdC x0 x1) (cdC x0 x1 s) (v0m x0 x1 s)
 :=nofun
theorem w3x (x0:Bool) (x1:Bool):Xj prog (Zy prog 163) (cdC x0 x1) (Ze prog 163 [(.bool x0),(.bool x1)] true []) (x7l x0 x1):=(lb (fun k0=>(lr 10 3 [1,1,1,1,1,1,1,0] 1 5 [(4,(.bool (!x1)))] (sl z4g 13 [] ⟨[],[],[some [4]],[]⟩ ⟨[],[],[]⟩ [true,true] (tt k0 nn)))) (fun k0=>(lr 10 3 [1,1,1,1,1,1,1,0] 1 5 [(4,(.bool false))] (sl z4g 13 [] ⟨[],[],[some [4]],[]⟩ ⟨[],[],[]⟩ [false,false] (tt k0 nn)))))
theorem u6r (x0:Bool) (x1:Bool) (n:Nat) (vs:List AVal) (h:Yv (v0m x0 x1) n (x7l x0 x1)=.ret vs):Ky prog (Zy prog 163) (Ze prog 163 [(.bool x0),(.bool x1)] true []) vs:=by have:=Zr (v0l x0 x1) n _ (w3x x0 x1);rwa [h] at this
end Go.Am
namespace Go.Am
open Go.Proofs.Tryz
open Go.Proofs
open Go.Sort Go.Shelf Go.RowKit Go.Lib
def w1f (l:List R2) (i:Nat):Bool:=Qr (rd l i)&&(decide (i=0)||decide ((rd l (i - 1)).b <(rd l i).a))
def y5v (l:List R2):Int:=bif decide (400<l.length) then 4 else bif (List.range l.length).all (w1f l) then 0 else 8
def z2p (l:List R2):Bool:=true
theorem v7k (l:List R2) (hl:l.length≤400): ∀(k i:Nat),i+k=l.length→(∀j,j<i→w1f l j=true)→ ∃n,Yv (z2o l) n (.to (.h0 (i:Int)))=.ret [.int .i64 (bif (List.range l.length).all (w1f l) then 0 else 8)]
 | 0,i,h,ht=>by have hv:(List.range l.length).all (w1f l)=true:=List.all_eq_true.2 fun j hj=>ht j (by have:=List.mem_range.1 hj;omega);refine ⟨1,?_⟩;rw [Zv,hv];simp (disch:=omega) only [z2o,Yw,cond_true,cond_false,Zm]
 | k +1,i,h,ht=>by
  have hi:i<l.length:=by omega
  have hlt:decide ((i:Int)<(l.length:Int))=true:=decide_eq_true (by omega);have hin:decide (0≤(i:Int)∧(i:Int)<(l.length:Int))=true:=decide_eq_true (by omega);have step:z2o l (.h0 (i:Int))=bif w1f l i then .to (.h0 ((i+1:Nat):Int)) else .ret [.int .i64 8]:=by
   unfold w1f Qr;by_cases hi0:i=0
   ·have g1:decide ((i:Int)>0)=false:=decide_eq_false (by omega);rw [decide_eq_true hi0];simp (disch:=omega) only [z2o,hlt,hin,g1,Zk,Zx,Zj,y3y,z5m,Bool.true_or,Bool.and_true,cond_true,cond_false]
   ·have g1:decide ((i:Int)>0)=true:=decide_eq_true (by omega);have g2:IntKind.wrap .i64 ((i:Int) - 1)=((i - 1:Nat):Int):=by rw [Zk (by omega)];omega
    have g3:decide (0≤((i - 1:Nat):Int)∧((i - 1:Nat):Int)<(l.length:Int))=true:=decide_eq_true (by omega);have g4:decide ((rd l (i - 1)).b ≥(rd l i).a)= !decide ((rd l (i - 1)).b <(rd l i).a):=by
     by_cases q:(rd l (i - 1)).b <(rd l i).a
     ·rw [decide_eq_true q,decide_eq_false (by omega)];rfl
     ·rw [decide_eq_false q,decide_eq_true (by omega)];rfl
    rw [decide_eq_false hi0];simp (disch:=omega) only [z2o,hlt,hin,g1,g2,g3,g4,Zk,Zx,Zj,y3y,z5m,Bool.false_or,Bool.and_true,cond_true,cond_false]
  rcases Yf (w1f l i) with q | q
  ·obtain ⟨n,hn⟩:=v7k l hl k (i+1) (by omega) (fun j hj=>by
    rcases Nat.eq_or_lt_of_le (Nat.le_of_lt_succ hj) with rfl | hj
    ·exact q
    ·exact ht j hj)
   refine ⟨n+1,?_⟩;rw [Zv,step,q,cond_true];exact hn
  ·have hv:(List.range l.length).all (w1f l)=false:=Bool.eq_false_iff.2 fun e=>by have:=List.all_eq_true.1 e i (List.mem_range.2 hi);rw [q] at this;cases this
   refine ⟨1,?_⟩;rw [Zv,step,q,hv,cond_false,Zm];rfl
theorem u1x (l:List R2) (h:z2p l=true): ∃n,Yv (z2o l) n (y0m l)=.ret [.int .i64 (y5v l)]:=by
 unfold y0m y5v;by_cases h:400<l.length
 ·refine ⟨0,?_⟩;rw [decide_eq_true h,Ye (show (l.length:Int)>400 by omega)];rfl
 ·obtain ⟨n,hn⟩:=v7k l (by omega) l.length 0 (Nat.zero_add _) (fun j hj=>absurd hj (Nat.not_lt_zero _));refine ⟨n,?_⟩;rw [decide_eq_false h,Xv (show¬(l.length:Int)>400 by omega),cond_false,cond_false];exact hn
inductive Op where
 | u | e | d
abbrev Op.k :Op→Nat
 | .u =>0
 | .e =>1
 | .d =>2
abbrev nC :Op→Nat
 | .u =>nSpU1
 | .e =>nSpE1
 | .d =>nSpD1
abbrev nSp :Op→Nat
 | .u =>nSpU
 | .e =>nSpE
 | .d =>nSpD
abbrev nRg :Op→Nat
 | .u =>nRgU
 | .e =>nRgE
 | .d =>nRgD
def cV (q:Op) (a b:Bool):Bool:=opB q.k a b
theorem cu_run (a b:Bool): ∃N,Yv (v0f a b) N (x7e a b)=.ret [.bool (cV .u a b)]:=⟨0,by cases a <;> cases b <;> rfl⟩
theorem ce_run (a b:Bool): ∃N,Yv (v0k a b) N (x7j a b)=.ret [.bool (cV .e a b)]:=⟨0,by cases a <;> cases b <;> rfl⟩
theorem cd_run (a b:Bool): ∃N,Yv (v0m a b) N (x7l a b)=.ret [.bool (cV .d a b)]:=⟨0,by cases a <;> cases b <;> rfl⟩
theorem y8c (l:List R2):y5v l=0↔l.length≤400∧l.all Qr=true∧Can l:=by
 unfold y5v;constructor
 ·intro h;by_cases h1:400<l.length
  ·rw [decide_eq_true h1] at h;cases h
  ·rw [decide_eq_false h1,cond_false] at h;cases hq:(List.range l.length).all (w1f l) with
   | false=>rw [hq] at h;cases h
   | true=>
    have hq:=fun i hi=>List.all_eq_true.1 hq i (List.mem_range.2 hi);have hv: ∀i,i<l.length→Qr (rd l i)=true:=fun i hi=>by have:=hq i hi;unfold w1f at this;rw [Bool.and_eq_true] at this;exact this.1
    have hp: ∀i,i<l.length→(rd l i).a <(rd l i).b :=fun i hi=>by have:=hv i hi;simp only [Qr,Bool.and_eq_true,decide_eq_true_eq] at this;exact this.1
    have hs: ∀i,i+1<l.length→(rd l i).b <(rd l (i+1)).a :=fun i hi=>by
     have:=hq (i+1) hi;unfold w1f at this;rw [Bool.and_eq_true,Bool.or_eq_true] at this;rcases this.2 with q | q
     ·have:=of_decide_eq_true q;omega
     ·exact of_decide_eq_true q
    refine ⟨by omega,List.all_eq_true.2 fun s hs=> ?_,⟨fun s hs=> ?_,?_⟩⟩
    ·obtain ⟨i,hi,rfl⟩:=List.getElem_of_mem hs;rw [←Xu hi];exact hv i hi
    ·obtain ⟨i,hi,rfl⟩:=List.getElem_of_mem hs;rw [←Xu hi];exact hp i hi
    ·refine List.pairwise_iff_getElem.2 fun i j hi hj hij=> ?_;rw [←Xu hi,←Xu hj];clear hi
     induction j with
     | zero=>omega
     | succ j ih=>
      have h1:=hs j hj;rcases Nat.eq_or_lt_of_le (Nat.le_of_lt_succ hij) with rfl | q
      ·exact h1
      ·have h2:=ih (by omega) q;have h3:=hp j (by omega);omega
 ·rintro ⟨h1,h2,h3⟩;rw [decide_eq_false (by omega),cond_false];have:(List.range l.length).all (w1f l)=true:=List.all_eq_true.2 fun i hi=>by
   have hi:=List.mem_range.1 hi;unfold w1f;rw [List.all_eq_true.1 h2 (rd l i) (by rw [Xu hi];exact List.getElem_mem hi),Bool.true_and,Bool.or_eq_true];by_cases h0:i=0
   ·exact .inl (decide_eq_true h0)
   ·refine .inr (decide_eq_true ?_);have:=List.pairwise_iff_getElem.1 h3.sep (i - 1) i (by omega) hi (by omega);rwa [←Xu,←Xu] at this
  rw [this];rfl
def fSch :List AVal→Option (AVal×Bool)
 | [a0]=>match asL R2 a0 with
  | some (L0,g0,n0)=>some (.int .i64 (y5v L0),isT R2 n0 g0&&(z2p L0))
  | _=>none
 | _=>none
theorem u5g {S:Specs} (hS:Zu prog S):Zu prog (S.with x9f fSch):=by
 refine z3g hS (by kernel_rfl) fun args v h=> ?_;unfold fSch at h;split at h
 ·rename_i a0;split at h
  ·rename_i L0 g0 n0 e0;simp only [Option.some.injEq,Prod.mk.injEq,Bool.and_eq_true] at h;obtain ⟨rfl,ho0,hw⟩:=h;obtain ⟨N,hN⟩:=u1x L0 hw;exact ⟨_,_,(.cons (asL_le e0 ho0) .nil),rfl,v2e L0 N _ hN,3,rfl⟩
  ·cases h
 ·cases h
def fCu :List AVal→Option (AVal×Bool)
 | [.bool b0,.bool b1]=>some (.bool (cV .u b0 b1),true)
 | _=>none
theorem fCu_ok {S:Specs} (hS:Zu prog S):Zu prog (S.with (nC .u) fCu):=by
 refine z3g hS (by kernel_rfl) fun args v h=> ?_;unfold fCu at h;split at h
 ·rename_i b0 b1;simp only [Option.some.injEq,Prod.mk.injEq,and_true] at h;subst h;obtain ⟨N,hN⟩:=cu_run b0 b1;exact ⟨_,_,(.cons (.refl _) (.cons (.refl _) .nil)),rfl,u6l b0 b1 N _ hN,3,rfl⟩
 ·cases h
def fCe :List AVal→Option (AVal×Bool)
 | [.bool b0,.bool b1]=>some (.bool (cV .e b0 b1),true)
 | _=>none
theorem fCe_ok {S:Specs} (hS:Zu prog S):Zu prog (S.with (nC .e) fCe):=by
 refine z3g hS (by kernel_rfl) fun args v h=> ?_;unfold fCe at h;split at h
 ·rename_i b0 b1;simp only [Option.some.injEq,Prod.mk.injEq,and_true] at h;subst h;obtain ⟨N,hN⟩:=ce_run b0 b1;exact ⟨_,_,(.cons (.refl _) (.cons (.refl _) .nil)),rfl,u6q b0 b1 N _ hN,3,rfl⟩
 ·cases h
def fCd :List AVal→Option (AVal×Bool)
 | [.bool b0,.bool b1]=>some (.bool (cV .d b0 b1),true)
 | _=>none
theorem fCd_ok {S:Specs} (hS:Zu prog S):Zu prog (S.with (nC .d) fCd):=by
 refine z3g hS (by kernel_rfl) fun args v h=> ?_;unfold fCd at h;split at h
 ·rename_i b0 b1;simp only [Option.some.injEq,Prod.mk.injEq,and_true] at h;subst h;obtain ⟨N,hN⟩:=cd_run b0 b1;exact ⟨_,_,(.cons (.refl _) (.cons (.refl _) .nil)),rfl,u6r b0 b1 N _ hN,3,rfl⟩
 ·cases h
def Ua :Specs:=((((T9.with x9f fSch).with (nC .u) fCu).with (nC .e) fCe).with (nC .d) fCd)
theorem z1b :Zu prog Ua:=(fCd_ok (fCe_ok (fCu_ok (u5g z4g))))
end Go.Am
namespace Go.Am
open Go.Proofs.Tryz
open Go.Proofs
inductive spjS where
 | h0 (v3:List R3) (v17:Int)
 | h1 (v3:List R3) (v17:Int)
 | h2 (v5:List R3) (v6:Int) (v7:Int) (aA:Int) (aI:Int) (aN:Int) (aF:Bool) (aC:List R2)
abbrev Vh (aC:List R2) (aN:Int) (v5:List R3) (v7:Int):=(aC++[(R2.mk aN (rd v5 (0+(tn v7))).a)])
def w5i (l0:List R2) (l1:List R2) (q:Op):AFr:=⟨⟨29,0,true⟩,(Up prog 162 [1,1,1,0] 3),(Zd prog 162 [1,1,1,0] 1),none,(Zy prog 32),Ya [(21,(.dat l0.length (Zz l0))),(22,(.dat l1.length (Zz l1))),(23,(.fn (nC q) []))]⟩
abbrev z9e (aC:List R2) (aN:Int) (v5:List R3) (v7:Int):=(Zh (Zz aC) 0 aC.length 2 [(ii aN),(ii (rd v5 (0+(tn v7))).a)])
def w5h (q:Op) (l0:List R2) (l1:List R2):AFr:=⟨⟨11,0,true⟩,(Up prog (nSp q) [1,0] 2),(Zd prog (nSp q) [1,0] 1),none,(Zy prog 28),Ya [(6,(.dat l0.length (Zz l0))),(7,(.dat l1.length (Zz l1)))]⟩
def v6v :AFr:=⟨⟨42,0,true⟩,(Up prog 186 [1,1,1,1,1,0,0] 3),(Zd prog 186 [1,1,1,1,1,0,0] 1),none,(Zy prog 8),Ya [(5,(.ptr 1 0)),(6,.nils),(7,(.ptr 2 0)),(8,(.ptr 3 0)),(9,(.ptr 4 0)),(10,(.ptr 5 0)),(11,(.ptr 6 0)),(16,(.sl 0 0 2 (.un 1)))]⟩
abbrev y5o (v3:List R3) (l0:List R2) (v17:Int):=(v3++[(R3.mk (rd l0 (tn v17)).a 0 1),(R3.mk (rd l0 (tn v17)).b 0 (-1))])
abbrev y5n (v3:List R3) (l1:List R2) (v17:Int):=(v3++[(R3.mk (rd l1 (tn v17)).a 1 1),(R3.mk (rd l1 (tn v17)).b 1 (-1))])
def spjC (q:Op) (l0:List R2) (l1:List R2):spjS→Cfg
 | .h0 v3 v17=>⟨⟨38,0,true⟩,none,(Zd prog 197 [1,1,0,1,0,0,1,1,0,0,1,1,0,0] 0),none,(Zy prog 3),⟨Ya [(3,(.sla 7 3 0 v3.length (.un 3))),(4,(ii 0)),(8,(.sl 0 0 2 (.un 1))),(9,(ii 2)),(10,(ii 0)),(15,(.dat l0.length (Zz l0))),(16,(ii (l0.length:Int))),(17,(ii v17))],Uq [⟨[(.dat l0.length (Zz l0)),(.dat l1.length (Zz l1))],180,none⟩,⟨[(.fn (nC q) [])],213,none⟩,⟨[(ii 0),(ii 0)],142,none⟩,⟨[.nils],180,none⟩,⟨[(ii 0)],3,none⟩,⟨[(.bool false)],4,none⟩,⟨[(.fn 196 [(.ptr 5 0),(.ptr 4 0),(.ptr 3 0)])],242,none⟩,⟨rows v3.length (Zz v3),246,some ⟨3,v3.length,(Zz v3)⟩⟩] 0,8,[],true⟩,[v6v,(w5i l0 l1 q),(w5h q l0 l1)],.leaf⟩
 | .h1 v3 v17=>⟨⟨38,0,true⟩,none,(Zd prog 197 [1,1,0,1,0,0,1,1,0,0,1,1,0,0] 0),none,(Zy prog 3),⟨Ya [(3,(.sla 7 3 0 v3.length (.un 3))),(4,(ii 1)),(8,(.sl 0 0 2 (.un 1))),(9,(ii 2)),(10,(ii 1)),(15,(.dat l1.length (Zz l1))),(16,(ii (l1.length:Int))),(17,(ii v17))],Uq [⟨[(.dat l0.length (Zz l0)),(.dat l1.length (Zz l1))],180,none⟩,⟨[(.fn (nC q) [])],213,none⟩,⟨[(ii 0),(ii 0)],142,none⟩,⟨[.nils],180,none⟩,⟨[(ii 0)],3,none⟩,⟨[(.bool false)],4,none⟩,⟨[(.fn 196 [(.ptr 5 0),(.ptr 4 0),(.ptr 3 0)])],242,none⟩,⟨rows v3.length (Zz v3),246,some ⟨3,v3.length,(Zz v3)⟩⟩] 0,8,[],true⟩,[v6v,(w5i l0 l1 q),(w5h q l0 l1)],.leaf⟩
 | .h2 v5 v6 v7 aA aI aN aF aC=>⟨⟨16,0,true⟩,none,(Zd prog 205 [1,0,0] 0),none,[],⟨Ya [(0,(.yld 0)),(5,(.sla 7 3 0 v5.length (.un 3))),(6,(ii v6)),(7,(ii v7))],z9j [(1,⟨[(.fn (nC q) [])],213,none⟩),(2,⟨[(ii aA),(ii aI)],142,none⟩),(3,⟨[(ii aN)],3,none⟩),(4,⟨[(.bool aF)],4,none⟩),(5,⟨[(.fn 196 [(.ptr 4 0),(.ptr 3 0),(.ptr 6 0)])],242,none⟩),(6,⟨[(.sla 8 2 0 aC.length (.un 2))],180,none⟩),(7,⟨rows v5.length (Zz v5),246,some ⟨3,v5.length,(Zz v5)⟩⟩),(8,⟨rows aC.length (Zz aC),183,some ⟨2,aC.length,(Zz aC)⟩⟩)],9,[],true⟩,[⟨⟨42,0,true⟩,none,(.inRangeFunc 0::(Zd prog 186 [1,1,1,1,1,0,1,0] 1)),none,(Zy prog 8),Ya [(6,.nils),(8,(.ptr 6 0))]⟩,(w5i l0 l1 q),(w5h q l0 l1)],(y4p [(0,⟨.ready,none,42,Ya [(5,(.ptr 1 0)),(7,(.ptr 2 0)),(9,(.ptr 3 0)),(10,(.ptr 4 0)),(11,(.ptr 5 0))],[18],(Vy prog 186 [1,1,1,1,1,0,1,0,0]),(Vy prog 186 [1,1,1,1,1,0,1,0,1])⟩)])⟩
def spjN0 :List (Option (List Nat)):=[some [3,4,8,9,10,15,16,17],some [5,6,7,8,9,10,11,16],some [21,22,23],some [6,7]]
def spjM0 :List (Option (List Nat)):=[]
def spjN1 :List (Option (List Nat)):=[some [3,4,8,9,10,15,16,17],some [5,6,7,8,9,10,11,16],some [21,22,23],some [6,7]]
def spjM1 :List (Option (List Nat)):=[]
def y2a :List (Option (List Nat)):=[some [0,5,6,7],some [6,8],some [21,22,23],some [6,7]]
def y2b :List (Option (List Nat)):=[some [5,7,9,10,11],none,none,none,none,none,none,none,none]
def Wp (q:Op) (l0:List R2) (l1:List R2):spjS→Xf spjS
 | .h0 v3 v17=>(bif (decide (v17<(l0.length:Int))) then (bif ((decide (0≤v17∧v17<(l0.length:Int)))&&true) then (bif (Nat.beq 3 3&&((decide (0+v3.length=v3.length))&&decide ((v3.length+2+1)*(24+1)≤Ur))) then (.to (.h0 (v3++[(R3.mk (rd l0 v17.toNat).a 0 1),(R3.mk (rd l0 v17.toNat).b 0 (-1))]) (IntKind.wrap .i64 (v17+1)))) else .stuck) else .stuck) else (.to (.h1 v3 0)))
 | .h1 v3 v17=>(bif (decide (v17<(l1.length:Int))) then (bif ((decide (0≤v17∧v17<(l1.length:Int)))&&true) then (bif (Nat.beq 3 3&&((decide (0+v3.length=v3.length))&&decide ((v3.length+2+1)*(24+1)≤Ur))) then (.to (.h1 (v3++[(R3.mk (rd l1 v17.toNat).a 1 1),(R3.mk (rd l1 v17.toNat).b 1 (-1))]) (IntKind.wrap .i64 (v17+1)))) else .stuck) else .stuck) else (bif (z9w (cvT v3)) then (bif (decide (v3.length<4611686018427387904)) then (bif (decide (v3.length=v3.length)) then (.to (.h2 (Qs (cvT v3)) (v3.length:Int) 0 0 0 0 false ([]:List R2))) else .stuck) else .stuck) else .stuck))
 | .h2 v5 v6 v7 aA aI aN aF aC=>(bif (decide (v7<v6)) then (bif ((decide (0≤v7∧v7<(v5.length:Int)))&&true) then (bif (decide ((0+v7.toNat)<v5.length)) then (bif (!aF) then (bif (decide ((rd v5 (0+v7.toNat)).b =Int.ofNat 0)) then (.to (.h2 v5 v6 (IntKind.wrap .i64 (v7+1)) (IntKind.wrap .i64 (aA+(rd v5 (0+v7.toNat)).c)) aI (rd v5 (0+v7.toNat)).a ((cV q) (decide ((IntKind.wrap .i64 (aA+(rd v5 (0+v7.toNat)).c))>0)) (decide (aI>0))) aC)) else (bif (decide ((rd v5 (0+v7.toNat)).b =Int.ofNat 1)) then (.to (.h2 v5 v6 (IntKind.wrap .i64 (v7+1)) aA (IntKind.wrap .i64 (aI+(rd v5 (0+v7.toNat)).c)) (rd v5 (0+v7.toNat)).a ((cV q) (decide (aA>0)) (decide ((IntKind.wrap .i64 (aI+(rd v5 (0+v7.toNat)).c))>0))) aC)) else .stuck)) else (bif (aN == (rd v5 (0+v7.toNat)).a) then (bif (decide ((rd v5 (0+v7.toNat)).b =Int.ofNat 0)) then (.to (.h2 v5 v6 (IntKind.wrap .i64 (v7+1)) (IntKind.wrap .i64 (aA+(rd v5 (0+v7.toNat)).c)) aI (rd v5 (0+v7.toNat)).a ((cV q) (decide ((IntKind.wrap .i64 (aA+(rd v5 (0+v7.toNat)).c))>0)) (decide (aI>0))) aC)) else (bif (decide ((rd v5 (0+v7.toNat)).b =Int.ofNat 1)) then (.to (.h2 v5 v6 (IntKind.wrap .i64 (v7+1)) aA (IntKind.wrap .i64 (aI+(rd v5 (0+v7.toNat)).c)) (rd v5 (0+v7.toNat)).a ((cV q) (decide (aA>0)) (decide ((IntKind.wrap .i64 (aI+(rd v5 (0+v7.toNat)).c))>0))) aC)) else .stuck)) else (bif (decide ((aC.length:Int)>0)) then (bif ((decide (0≤(IntKind.wrap .i64 ((aC.length:Int) - 1))∧(IntKind.wrap .i64 ((aC.length:Int) - 1))<(aC.length:Int)))&&true) then (bif (decide ((0+(Int.toNat (IntKind.wrap .i64 ((aC.length:Int) - 1))))<aC.length)) then (bif ((rd aC (0+(Int.toNat (IntKind.wrap .i64 ((aC.length:Int) - 1))))).b == aN) then (bif (decide ((rd v5 (0+v7.toNat)).b =Int.ofNat 0)) then (.to (.h2 v5 v6 (IntKind.wrap .i64 (v7+1)) (IntKind.wrap .i64 (aA+(rd v5 (0+v7.toNat)).c)) aI (rd v5 (0+v7.toNat)).a ((cV q) (decide ((IntKind.wrap .i64 (aA+(rd v5 (0+v7.toNat)).c))>0)) (decide (aI>0))) (aC.set (0+(Int.toNat (IntKind.wrap .i64 ((aC.length:Int) - 1)))) (R2.mk (rd aC (0+(Int.toNat (IntKind.wrap .i64 ((aC.length:Int) - 1))))).a (rd v5 (0+v7.toNat)).a)))) else (bif (decide ((rd v5 (0+v7.toNat)).b =Int.ofNat 1)) then (.to (.h2 v5 v6 (IntKind.wrap .i64 (v7+1)) aA (IntKind.wrap .i64 (aI+(rd v5 (0+v7.toNat)).c)) (rd v5 (0+v7.toNat)).a ((cV q) (decide (aA>0)) (decide ((IntKind.wrap .i64 (aI+(rd v5 (0+v7.toNat)).c))>0))) (aC.set (0+(Int.toNat (IntKind.wrap .i64 ((aC.length:Int) - 1)))) (R2.mk (rd aC (0+(Int.toNat (IntKind.wrap .i64 ((aC.length:Int) - 1))))).a (rd v5 (0+v7.toNat)).a)))) else .stuck)) else (bif (Nat.beq 2 2&&((decide (0+aC.length=aC.length))&&decide ((aC.length+1+1)*(16+1)≤Ur))) then (bif (decide ((rd v5 (0+v7.toNat)).b =Int.ofNat 0)) then (.to (.h2 v5 v6 (IntKind.wrap .i64 (v7+1)) (IntKind.wrap .i64 (aA+(rd v5 (0+v7.toNat)).c)) aI (rd v5 (0+v7.toNat)).a ((cV q) (decide ((IntKind.wrap .i64 (aA+(rd v5 (0+v7.toNat)).c))>0)) (decide (aI>0))) (aC++[(R2.mk aN (rd v5 (0+v7.toNat)).a)]))) else (bif (decide ((rd v5 (0+v7.toNat)).b =Int.ofNat 1)) then (.to (.h2 v5 v6 (IntKind.wrap .i64 (v7+1)) aA (IntKind.wrap .i64 (aI+(rd v5 (0+v7.toNat)).c)) (rd v5 (0+v7.toNat)).a ((cV q) (decide (aA>0)) (decide ((IntKind.wrap .i64 (aI+(rd v5 (0+v7.toNat)).c))>0))) (aC++[(R2.mk aN (rd v5 (0+v7.toNat)).a)]))) else .stuck)) else .stuck)) else .stuck) else .stuck) else (bif (Nat.beq 2 2&&((decide (0+aC.length=aC.length))&&decide ((aC.length+1+1)*(16+1)≤Ur))) then (bif (decide ((rd v5 (0+v7.toNat)).b =Int.ofNat 0)) then (.to (.h2 v5 v6 (IntKind.wrap .i64 (v7+1)) (IntKind.wrap .i64 (aA+(rd v5 (0+v7.toNat)).c)) aI (rd v5 (0+v7.toNat)).a ((cV q) (decide ((IntKind.wrap .i64 (aA+(rd v5 (0+v7.toNat)).c))>0)) (decide (aI>0))) (aC++[(R2.mk aN (rd v5 (0+v7.toNat)).a)]))) else (bif (decide ((rd v5 (0+v7.toNat)).b =Int.ofNat 1)) then (.to (.h2 v5 v6 (IntKind.wrap .i64 (v7+1)) aA (IntKind.wrap .i64 (aI+(rd v5 (0+v7.toNat)).c)) (rd v5 (0+v7.toNat)).a ((cV q) (decide (aA>0)) (decide ((IntKind.wrap .i64 (aI+(rd v5 (0+v7.toNat)).c))>0))) (aC++[(R2.mk aN (rd v5 (0+v7.toNat)).a)]))) else .stuck)) else .stuck)))) else .stuck) else .stuck) else (bif (decide ((aC.length:Int)>400)) then (.ret [.nils,(.int .i64 4)]) else (.ret [(.dat aC.length (Zz aC)),(.int .i64 0)])))
def y0j (q:Op) (l0:List R2) (l1:List R2):Xf spjS:=(bif (z2p (cvT l0)) then (bif ((y5v (cvT l0)) != 0) then (.ret [.nils,(.int .i64 (y5v (cvT l0)))]) else (bif (z2p (cvT l1)) then (bif ((y5v (cvT l1)) != 0) then (.ret [.nils,(.int .i64 (y5v (cvT l1)))]) else (.to (.h0 ([]:List R3) 0))) else .stuck)) else .stuck)
theorem w1d (q:Op) (l0:List R2) (l1:List R2): ∀s,Xj prog (Zy prog (nSp q)) (spjC q l0 l1) (spjC q l0 l1 s) (Wp q l0 l1 s):=by cases q <;> refine (?f: ∀q:Op,∀s,Xj prog (Zy prog (nSp q)) (spjC q l0 l1) (spjC q l0 l1 s) (Wp q l0 l1 s)) _ <;> exact fun q=>fun
 | .h0 v3 v17=>(lb (fun k0=>(lo fun o0=>(lo fun o1=>(sl z1b 36 [] ⟨[0,1,2,3,4,5,6,10],[],spjN0,spjM0⟩ ⟨[(3,.len (y5o v3 l0 v17).length)],(kpB 7 [.rowed 3 (y5o v3 l0 v17).length (Zz (y5o v3 l0 v17))]),[]⟩ [true] (pp (xL (v3.length+2) (y5o v3 l0 v17).length) (pp (xL (v3.length+2) (y5o v3 l0 v17).length) (pp (xS (v3.length+2) (Zh (Zz v3) 0 v3.length 3 [(ii (rd l0 (tn v17)).a),(ii 0),(ii 1),(ii (rd l0 (tn v17)).b),(ii 0),(ii (-1))]) (Zz (y5o v3 l0 v17))) (pp (pp (xF (Zh (Zz v3) 0 v3.length 3 [(ii (rd l0 (tn v17)).a),(ii 0),(ii 1),(ii (rd l0 (tn v17)).b),(ii 0),(ii (-1))])) nn) (ww o1 (ww o0 (tt k0 nn))))))))))) (fun k0=>(sl z1b 38 [] ⟨(List.range 8),[],spjN1,spjM1⟩ ⟨[],[],[]⟩ (bl 2 2) (pp (fl v3 nn) (tt k0 nn)))))
 | .h1 v3 v17=>(lb (fun k0=>(lo fun o0=>(lo fun o1=>(sl z1b 36 [] ⟨[0,1,2,3,4,5,6,10],[],spjN1,spjM1⟩ ⟨[(3,.len (y5n v3 l1 v17).length)],(kpB 7 [.rowed 3 (y5n v3 l1 v17).length (Zz (y5n v3 l1 v17))]),[]⟩ [true] (pp (xL (v3.length+2) (y5n v3 l1 v17).length) (pp (xL (v3.length+2) (y5n v3 l1 v17).length) (pp (xS (v3.length+2) (Zh (Zz v3) 0 v3.length 3 [(ii (rd l1 (tn v17)).a),(ii 1),(ii 1),(ii (rd l1 (tn v17)).b),(ii 1),(ii (-1))]) (Zz (y5n v3 l1 v17))) (pp (pp (xF (Zh (Zz v3) 0 v3.length 3 [(ii (rd l1 (tn v17)).a),(ii 1),(ii 1),(ii (rd l1 (tn v17)).b),(ii 1),(ii (-1))])) nn) (ww o1 (ww o0 (tt k0 nn))))))))))) (fun k0=>(lo fun o0=>(lo fun o1=>(lo fun o2=>(sl z1b 54 [(183,2,Zz ([]:List R2))] ⟨[9,1,2,4,5,6,3,7,10],[],y2a,y2b⟩ ⟨[(5,.len (Qs (cvT v3)).length)],(kpB 6 [.cells [.grow 8 2],.rowed 3 (Qs (cvT v3)).length (Zz (Qs (cvT v3))),.keep]),[]⟩ (bl 2 0) (pp (xL v3.length (Qs (cvT v3)).length (by first | exact z6n _ | exact Wi rfl)) (pp (xL v3.length (Qs (cvT v3)).length (by first | exact z6n _ | exact Wi rfl)) (pp (xS v3.length (Zz (Qs (cvT v3))) (Zz (Qs (cvT v3)))) (pp (fl (Qs (cvT v3)) (fl ([]:List R2) nn)) (pp (pp (xG (Nat.beq 3 3)) (pp (xG (Nat.beq 3 3)) (pp (xG (Nat.beq 0 0)) (pp (pp (xG (decide (v3.length=v3.length))) (pp (xr v3) (xG (decide (v3.length<4611686018427387904))))) (xG (z9w (cvT v3))))))) (tt k0 nn))))))))))))
 | .h2 v5 v6 v7 aA aI aN aF aC=>(lb (fun k0=>(lo fun aG=>(lo fun bB=>(lb (fun k1=>(lb (fun k2=>(sl z1b 62 [] ⟨(List.range 9),[],y2a,y2b⟩ ⟨[],[],[]⟩ (trs 5 (bl 3 0)) (pp (fl v5 (fl aC nn)) (ww k2 (tt k1 (ww bB (ww aG (tt k0 nn)))))))) (fun k2=>(lb (fun k3=>(sl z1b 62 [] ⟨(List.range 9),[],y2a,y2b⟩ ⟨[],[],[]⟩ (trs 6 (bl 4 2)) (pp (fl v5 (fl aC nn)) (ww k3 (tt k1 (ww bB (ww aG (tt k0 nn)))))))) (fun k3=>trivial))))) (fun k1=>(lb (fun k2=>(lb (fun k3=>(sl z1b 62 [] ⟨(List.range 9),[],y2a,y2b⟩ ⟨[],[],[]⟩ (bl 8 17) (pp (fl v5 (fl aC nn)) (ww k3 (tt k2 (tt k1 (ww bB (ww aG (tt k0 nn))))))))) (fun k3=>(lb (fun k4=>(sl z1b 62 [] ⟨(List.range 9),[],y2a,y2b⟩ ⟨[],[],[]⟩ (bl 10 177) (pp (fl v5 (fl aC nn)) (ww k4 (tt k2 (tt k1 (ww bB (ww aG (tt k0 nn))))))))) (fun k4=>trivial))))) (fun k2=>(lb (fun k3=>(lo fun bW=>(lo fun cN=>(lb (fun k4=>(lb (fun k5=>(sl z1b 81 [] ⟨(List.range 9),[],y2a,y2b⟩ ⟨[],(kpB 6 [.cells [.len (aC.set (0+(tn (wr ((aC.length:Int) - 1)))) (R2.mk (rd aC (0+(tn (wr ((aC.length:Int) - 1))))).a (rd v5 (0+(tn v7))).a)).length],.keep,.rowed 2 (aC.set (0+(tn (wr ((aC.length:Int) - 1)))) (R2.mk (rd aC (0+(tn (wr ((aC.length:Int) - 1))))).a (rd v5 (0+(tn v7))).a)).length (Zz (aC.set (0+(tn (wr ((aC.length:Int) - 1)))) (R2.mk (rd aC (0+(tn (wr ((aC.length:Int) - 1))))).a (rd v5 (0+(tn v7))).a)))]),[]⟩ (bl 17 16353) (pp (xL aC.length (aC.set (0+(tn (wr ((aC.length:Int) - 1)))) (R2.mk (rd aC (0+(tn (wr ((aC.length:Int) - 1))))).a (rd v5 (0+(tn v7))).a)).length) (pp (xL aC.length (aC.set (0+(tn (wr ((aC.length:Int) - 1)))) (R2.mk (rd aC (0+(tn (wr ((aC.length:Int) - 1))))).a (rd v5 (0+(tn v7))).a)).length) (pp (xS aC.length (Xb (Zz aC) (0+(tn (wr ((aC.length:Int) - 1)))) 1 [(ii (rd v5 (0+(tn v7))).a)]) (Zz (aC.set (0+(tn (wr ((aC.length:Int) - 1)))) (R2.mk (rd aC (0+(tn (wr ((aC.length:Int) - 1))))).a (rd v5 (0+(tn v7))).a)))) (pp (fl v5 (pp (xF (Xb (Zz aC) (0+(tn (wr ((aC.length:Int) - 1)))) 1 [(ii (rd v5 (0+(tn v7))).a)])) nn)) (ww k5 (ww cN (ww bW (tt k4 (ww cN (ww bW (tt k3 (tt k2 (tt k1 (ww bB (ww aG (tt k0 nn)))))))))))))))))) (fun k5=>(lb (fun k6=>(sl z1b 81 [] ⟨(List.range 9),[],y2a,y2b⟩ ⟨[],(kpB 6 [.cells [.len (aC.set (0+(tn (wr ((aC.length:Int) - 1)))) (R2.mk (rd aC (0+(tn (wr ((aC.length:Int) - 1))))).a (rd v5 (0+(tn v7))).a)).length],.keep,.rowed 2 (aC.set (0+(tn (wr ((aC.length:Int) - 1)))) (R2.mk (rd aC (0+(tn (wr ((aC.length:Int) - 1))))).a (rd v5 (0+(tn v7))).a)).length (Zz (aC.set (0+(tn (wr ((aC.length:Int) - 1)))) (R2.mk (rd aC (0+(tn (wr ((aC.length:Int) - 1))))).a (rd v5 (0+(tn v7))).a)))]),[]⟩ (bl 19 98273) (pp (xL aC.length (aC.set (0+(tn (wr ((aC.length:Int) - 1)))) (R2.mk (rd aC (0+(tn (wr ((aC.length:Int) - 1))))).a (rd v5 (0+(tn v7))).a)).length) (pp (xL aC.length (aC.set (0+(tn (wr ((aC.length:Int) - 1)))) (R2.mk (rd aC (0+(tn (wr ((aC.length:Int) - 1))))).a (rd v5 (0+(tn v7))).a)).length) (pp (xS aC.length (Xb (Zz aC) (0+(tn (wr ((aC.length:Int) - 1)))) 1 [(ii (rd v5 (0+(tn v7))).a)]) (Zz (aC.set (0+(tn (wr ((aC.length:Int) - 1)))) (R2.mk (rd aC (0+(tn (wr ((aC.length:Int) - 1))))).a (rd v5 (0+(tn v7))).a)))) (pp (fl v5 (pp (xF (Xb (Zz aC) (0+(tn (wr ((aC.length:Int) - 1)))) 1 [(ii (rd v5 (0+(tn v7))).a)])) nn)) (ww k6 (ww cN (ww bW (tt k4 (ww cN (ww bW (tt k3 (tt k2 (tt k1 (ww bB (ww aG (tt k0 nn)))))))))))))))))) (fun k6=>trivial))))) (fun k4=>(lo fun cM=>(lb (fun k5=>(sl z1b 81 [] ⟨[0,1,2,3,4,5,6,7,12],[],y2a,y2b⟩ ⟨[],(kpB 6 [.cells [.len (Vh aC aN v5 v7).length],.keep,.rowed 2 (Vh aC aN v5 v7).length (Zz (Vh aC aN v5 v7))]),[]⟩ (bl 17 8161) (pp (xL (aC.length+1) (Vh aC aN v5 v7).length) (pp (xL (aC.length+1) (Vh aC aN v5 v7).length) (pp (xS (aC.length+1) (z9e aC aN v5 v7) (Zz (Vh aC aN v5 v7))) (pp (fl v5 (pp (xF (z9e aC aN v5 v7)) nn)) (ww k5 (ww cM (tt k4 (ww cN (ww bW (tt k3 (tt k2 (tt k1 (ww bB (ww aG (tt k0 nn))))))))))))))))) (fun k5=>(lb (fun k6=>(sl z1b 81 [] ⟨[0,1,2,3,4,5,6,7,12],[],y2a,y2b⟩ ⟨[],(kpB 6 [.cells [.len (Vh aC aN v5 v7).length],.keep,.rowed 2 (Vh aC aN v5 v7).length (Zz (Vh aC aN v5 v7))]),[]⟩ (bl 19 90081) (pp (xL (aC.length+1) (Vh aC aN v5 v7).length) (pp (xL (aC.length+1) (Vh aC aN v5 v7).length) (pp (xS (aC.length+1) (z9e aC aN v5 v7) (Zz (Vh aC aN v5 v7))) (pp (fl v5 (pp (xF (z9e aC aN v5 v7)) nn)) (ww k6 (ww cM (tt k4 (ww cN (ww bW (tt k3 (tt k2 (tt k1 (ww bB (ww aG (tt k0 nn))))))))))))))))) (fun k6=>trivial)))))))))) (fun k3=>(lo fun bW=>(lb (fun k4=>(sl z1b 81 [] ⟨[0,1,2,3,4,5,6,7,12],[],y2a,y2b⟩ ⟨[],(kpB 6 [.cells [.len (Vh aC aN v5 v7).length],.keep,.rowed 2 (Vh aC aN v5 v7).length (Zz (Vh aC aN v5 v7))]),[]⟩ (bl 17 1) (pp (xL (aC.length+1) (Vh aC aN v5 v7).length) (pp (xL (aC.length+1) (Vh aC aN v5 v7).length) (pp (xS (aC.length+1) (z9e aC aN v5 v7) (Zz (Vh aC aN v5 v7))) (pp (fl v5 (pp (xF (z9e aC aN v5 v7)) nn)) (ww k4 (ww bW (tt k3 (tt k2 (tt k1 (ww bB (ww aG (tt k0 nn)))))))))))))) (fun k4=>(lb (fun k5=>(sl z1b 81 [] ⟨[0,1,2,3,4,5,6,7,12],[],y2a,y2b⟩ ⟨[],(kpB 6 [.cells [.len (Vh aC aN v5 v7).length],.keep,.rowed 2 (Vh aC aN v5 v7).length (Zz (Vh aC aN v5 v7))]),[]⟩ (bl 19 81921) (pp (xL (aC.length+1) (Vh aC aN v5 v7).length) (pp (xL (aC.length+1) (Vh aC aN v5 v7).length) (pp (xS (aC.length+1) (z9e aC aN v5 v7) (Zz (Vh aC aN v5 v7))) (pp (fl v5 (pp (xF (z9e aC aN v5 v7)) nn)) (ww k5 (ww bW (tt k3 (tt k2 (tt k1 (ww bB (ww aG (tt k0 nn)))))))))))))) (fun k5=>trivial)))))))))))))) (fun k0=>(lb (fun k1=>(lr 11 3 [1,1,1,1,1,1,1,0] 1 28 [(4,.nils),(5,(ii 4))] (sl z1b 37 [] ⟨[],[],[some [4,5]],[]⟩ ⟨[],[],[]⟩ (bl 2 2) (tt k1 (tt k0 nn))))) (fun k1=>(lr 11 3 [1,1,1,1,1,1,1,0] 1 28 [(4,(.dat aC.length (Zz aC))),(5,(ii 0))] (sl z1b 39 [] ⟨[],[8],[some [4,5]],[]⟩ ⟨[(4,.frz aC.length aC.length (Zz aC) (Zz aC))],[],[]⟩ (bl 2 0) (pp (xZ (z5d 2 2 0 aC.length aC.length (Zz aC)) aC.length (Zz aC)) (pp (xL aC.length aC.length) (pp (xS aC.length (Zz aC) (Zz aC)) (pp (fl aC nn) (tt k1 (tt k0 nn))))))))))))
theorem x3w (q:Op) (l0:List R2) (l1:List R2):Xj prog (Zy prog (nSp q)) (spjC q l0 l1) (Ze prog (nSp q) [(.dat l0.length (Zz l0)),(.dat l1.length (Zz l1))] true []) (y0j q l0 l1):=by cases q <;> exact (lo fun bU=>(lb (fun k0=>(lr 11 3 [1,1,1,1,1,1,1,0] 1 28 [(4,.nils),(5,(ii (y5v (cvT l0))))] (sl z1b 40 [] ⟨[],[],[some [4,5]],[]⟩ ⟨[],[],[]⟩ [true] (tt k0 (pp (pp (xr l0) (xw bU)) nn))))) (fun k0=>(lo fun aG=>(lb (fun k1=>(lr 11 3 [1,1,1,1,1,1,1,0] 1 28 [(4,.nils),(5,(ii (y5v (cvT l1))))] (sl z1b 54 [] ⟨[],[],[some [4,5]],[]⟩ ⟨[],[],[]⟩ [false,true] (tt k1 (pp (pp (xr l1) (xw aG)) (tt k0 (pp (pp (xr l0) (xw bU)) nn))))))) (fun k1=>(sl z1b 124 [(246,3,Zz ([]:List R3))] ⟨[6,0,1,2,3,4,5,7],[],spjN0,spjM0⟩ ⟨[(3,.grow 7 3)],[],[]⟩ [false,false,true] (pp (fl ([]:List R3) nn) (tt k1 (pp (pp (xr l1) (xw aG)) (tt k0 (pp (pp (xr l0) (xw bU)) nn))))))))))))
theorem v1q (q:Op) (l0:List R2) (l1:List R2) (n:Nat) (vs:List AVal) (h:Yv (Wp q l0 l1) n (y0j q l0 l1)=.ret vs):Ky prog (Zy prog (nSp q)) (Ze prog (nSp q) [(.dat l0.length (Zz l0)),(.dat l1.length (Zz l1))] true []) vs:=by have:=Zr (w1d q l0 l1) n _ (x3w q l0 l1);rwa [h] at this
end Go.Am
namespace Go.Am
open Go.Proofs.Tryz
open Go.Proofs
open Go.Sort Go.Shelf Go.RowKit Go.Lib
def spE (k:Nat) (a b:List R2):Int:=bif y5v a != 0 then y5v a else bif y5v b != 0 then y5v b else y7l (spJ k a b).length
theorem z9o (i:Int) (l:List R2):(Wj i l).length =2*l.length:=by
 induction l with
 | nil=>rfl
 | cons r l ih=>show (_::_::Wj i l).length =_;simp only [List.length_cons,ih];omega
theorem y7h (j:Int) (l:List R2) (i:Nat) (h:i<l.length):Wj j (l.drop i)=Wj j [rd l i]++Wj j (l.drop (i+1)):=by rw [Yp h];rfl
theorem z6x {j:Int} {l:List R2} {e:R3} (h:e∈Wj j l):e.b=j∧(e.c=1∨e.c= -1):=by
 obtain ⟨s,_,h⟩:=List.mem_flatMap.1 h;simp only [List.mem_cons,List.not_mem_nil,or_false] at h;rcases h with rfl | rfl
 ·exact ⟨rfl,.inl rfl⟩
 ·exact ⟨rfl,.inr rfl⟩
theorem x8f (f:Bool→Bool→Bool) (e:R3) (r:List R3) (o p last:Int) (inn:Bool) (out:List R2):sw2 f (e::r) o p last inn out=sw2 f r (bif e.b == 0 then o+e.c else o) (bif e.b == 0 then p else p+e.c) e.a (f (decide ((bif e.b == 0 then o+e.c else o)>0)) (decide ((bif e.b == 0 then p else p+e.c)>0))) (Vj out last inn e.a):=rfl
section
variable (q:Op) (a b:List R2)
theorem v6s (L:List R3) (hL:L.length≤2000) (hE: ∀i,i<L.length→((rd L i).b =0∨(rd L i).b =1)∧((rd L i).c =1∨(rd L i).c = -1)): ∀(k i:Nat) (o p last:Int) (inn:Bool) (out:List R2),i+k=L.length→ -(i:Int)≤o→o≤i→ -(i:Int)≤p→p≤i→out.length≤i→
  ∃n,Yv (Wp q a b) n (.to (.h2 L (L.length:Int) (i:Int) o p last inn out))=.ret (Km (sw2 (opB q.k) (L.drop i) o p last inn out))
 | 0,i,o,p,last,inn,out,h,ho1,ho2,hp1,hp2,hout=>by
  refine ⟨1,?_⟩;rw [Zv,List.drop_eq_nil_of_le (by omega)];unfold Km;show _=Xf.ret (bif decide ((out.length:Int)>400) then _ else _);rcases Yf (decide ((out.length:Int)>400)) with g | g <;>
  simp (disch:=omega) only [Wp,Yw,g,cond_true,cond_false,Zm];rfl
 | k + 1,i,o,p,last,inn,out,h,ho1,ho2,hp1,hp2,hout=>by
  obtain ⟨hb,hc⟩:=hE i (by omega);have hcl:=z1y out last inn (rd L i).a;have hcf: ∀x y,cV q x y=opB q.k x y:=fun _ _=>rfl;have hlt:decide ((i:Int)<(L.length:Int))=true:=decide_eq_true (by omega);have hw:IntKind.wrap .i64 (o+(rd L i).c)=o+(rd L i).c :=Zk (by rcases hc with hc | hc <;> omega);have hw':IntKind.wrap .i64 (p+(rd L i).c)=p+(rd L i).c :=Zk (by rcases hc with hc | hc <;> omega);have key: ∀(o' p':Int) (out':List R2),-((i+1:Nat):Int)≤o'→o'≤((i+1:Nat):Int)→ -((i+1:Nat):Int)≤p'→p'≤((i+1:Nat):Int)→out'=Vj out last inn (rd L i).a →
    Wp q a b (.h2 L (L.length:Int) (i:Int) o p last inn out)=.to (.h2 L (L.length:Int) ((i+1:Nat):Int) o' p' (rd L i).a (opB q.k (decide (o'>0)) (decide (p'>0))) out')→
    sw2 (opB q.k) (L.drop i) o p last inn out=sw2 (opB q.k) (L.drop (i+1)) o' p' (rd L i).a (opB q.k (decide (o'>0)) (decide (p'>0))) out'→
    ∃n,Yv (Wp q a b) n (.to (.h2 L (L.length:Int) (i:Int) o p last inn out))=.ret (Km (sw2 (opB q.k) (L.drop i) o p last inn out)):=fun o' p' out' b1 b2 b3 b4 eo hs hq=>by
   obtain ⟨n,hn⟩:=v6s L hL hE k (i+1) o' p' (rd L i).a (opB q.k (decide (o'>0)) (decide (p'>0))) out' (by omega) b1 b2 b3 b4 (by rw [eo];omega);refine ⟨n+1,?_⟩;rw [Zv,hs,hq];exact hn
  rcases hb with hb | hb
  ·have hz:decide ((rd L i).b =Int.ofNat 0)=true:=decide_eq_true hb;have hb0:((rd L i).b == 0)=true:=by rw [hb];rfl
   refine key (o+(rd L i).c) p (Vj out last inn (rd L i).a) (by rcases hc with hc | hc <;> omega) (by rcases hc with hc | hc <;> omega) (by omega) (by omega) rfl ?_ ?_
   ·unfold Vj;cases inn with
    | false=>simp (disch:=omega) only [Wp,hlt,hz,hw,hw',hcf,Zt,Yz,Yu,Zk,Zx,Zj,Nat.zero_add,Bool.and_true,cond_true,cond_false,Bool.not_false]
    | true=>
     rcases Yf (last == (rd L i).a) with g | g
     ·simp (disch:=omega) only [Wp,hlt,hz,hw,hw',hcf,Zt,Yz,Yu,Zk,Zx,Zj,Nat.zero_add,Bool.and_true,cond_true,cond_false,Bool.not_true,g]
     ·by_cases h0:0<out.length
      ·rw [decide_eq_true h0,Bool.true_and];rcases Yf ((rd out (out.length - 1)).b == last) with q2 | q2
       ·simp (disch:=omega) only [Wp,hlt,hz,hw,hw',hcf,Zt,Yz,Yu,Zk,Zx,Zj,Nat.zero_add,Bool.and_true,cond_true,cond_false,Bool.not_true,g,q2,Ye,Zf]
       ·simp (disch:=omega) only [Wp,hlt,hz,hw,hw',hcf,Zt,Yz,Yu,Zk,Zx,Zj,Nat.zero_add,Bool.and_true,cond_true,cond_false,Bool.not_true,Bool.true_and,g,q2,Ye,Zf,Yk,Zi,Yq,decide_true]
      ·rw [decide_eq_false h0,Bool.false_and];simp (disch:=omega) only [Wp,hlt,hz,hw,hw',hcf,Zt,Yz,Yu,Zk,Zx,Zj,Nat.zero_add,Bool.and_true,cond_true,cond_false,Bool.not_true,Bool.true_and,g,Xv,Yk,Zi,Yq,decide_true]
   ·rw [Yp (show i<L.length by omega),x8f,hb0];rfl
  ·have hz0:decide ((rd L i).b =Int.ofNat 0)=false:=decide_eq_false (by rw [hb];decide);have hz:decide ((rd L i).b =Int.ofNat 1)=true:=decide_eq_true hb;have hb0:((rd L i).b == 0)=false:=by rw [hb];rfl
   refine key o (p+(rd L i).c) (Vj out last inn (rd L i).a) (by omega) (by omega) (by rcases hc with hc | hc <;> omega) (by rcases hc with hc | hc <;> omega) rfl ?_ ?_
   ·unfold Vj;cases inn with
    | false=>simp (disch:=omega) only [Wp,hlt,hz0,hz,hw,hw',hcf,Zt,Yz,Yu,Zk,Zx,Zj,Nat.zero_add,Bool.and_true,cond_true,cond_false,Bool.not_false]
    | true=>
     rcases Yf (last == (rd L i).a) with g | g
     ·simp (disch:=omega) only [Wp,hlt,hz0,hz,hw,hw',hcf,Zt,Yz,Yu,Zk,Zx,Zj,Nat.zero_add,Bool.and_true,cond_true,cond_false,Bool.not_true,g]
     ·by_cases h0:0<out.length
      ·rw [decide_eq_true h0,Bool.true_and];rcases Yf ((rd out (out.length - 1)).b == last) with q2 | q2
       ·simp (disch:=omega) only [Wp,hlt,hz0,hz,hw,hw',hcf,Zt,Yz,Yu,Zk,Zx,Zj,Nat.zero_add,Bool.and_true,cond_true,cond_false,Bool.not_true,g,q2,Ye,Zf]
       ·simp (disch:=omega) only [Wp,hlt,hz0,hz,hw,hw',hcf,Zt,Yz,Yu,Zk,Zx,Zj,Nat.zero_add,Bool.and_true,cond_true,cond_false,Bool.not_true,Bool.true_and,g,q2,Ye,Zf,Yk,Zi,Yq,decide_true]
      ·rw [decide_eq_false h0,Bool.false_and];simp (disch:=omega) only [Wp,hlt,hz0,hz,hw,hw',hcf,Zt,Yz,Yu,Zk,Zx,Zj,Nat.zero_add,Bool.and_true,cond_true,cond_false,Bool.not_true,Bool.true_and,g,Xv,Yk,Zi,Yq,decide_true]
   ·rw [Yp (show i<L.length by omega),x8f,hb0];rfl
theorem v6t (ha:a.length≤400) (hb:b.length≤400) (va:a.all Qr=true) (vb:b.all Qr=true): ∀(k i:Nat) (E:List R3),i+k=b.length→E.length=2*a.length+2*i→E++Wj 1 (b.drop i)=Wj 0 a++Wj 1 b→ ∃n,Yv (Wp q a b) n (.to (.h1 E (i:Int)))=.ret (Km (spJ q.k a b))
 | 0,i,E,h,hl,he=>by
  rw [List.drop_eq_nil_of_le (by omega),show Wj 1 []=[] from rfl,List.append_nil] at he;subst he;have hbnd:z9w (Wj 0 a++Wj 1 b)=true:=by have h1:=z6y 0 a va;have h2:=z6y 1 b vb;unfold z9w at*;rw [List.all_append,h1,h2];rfl
  have hsl:=y1w (Wj 0 a++Wj 1 b);obtain ⟨hp,_⟩:=Kv _ hbnd;obtain ⟨n,hn⟩:=v6s q a b (Qs (Wj 0 a++Wj 1 b)) (by rw [hsl];omega) (fun i hi=>by
   have hm:rd (Qs (Wj 0 a++Wj 1 b)) i∈Wj 0 a++Wj 1 b:=hp.mem_iff.1 (by rw [Xu hi];exact List.getElem_mem hi);rcases List.mem_append.1 hm with g | g
   ·exact ⟨.inl (z6x g).1,(z6x g).2⟩
   ·exact ⟨.inr (z6x g).1,(z6x g).2⟩) (Qs (Wj 0 a++Wj 1 b)).length 0 0 0 0 false [] (Nat.zero_add _) (by omega) (by omega) (by omega) (by omega) (Nat.zero_le _)
  refine ⟨n+1,?_⟩;rw [Zv];have step:Wp q a b (.h1 (Wj 0 a++Wj 1 b) (i:Int))=.to (.h2 (Qs (Wj 0 a++Wj 1 b)) (((Wj 0 a++Wj 1 b).length :Nat):Int) 0 0 0 0 false []):=by simp (disch:=omega) only [Wp,Za,Yw,hbnd,Yu,decide_true,cond_true,cond_false]
  rw [step,←hsl];exact hn
 | k+1,i,E,h,hl,he=>by rw [y7h 1 b i (by omega),←List.append_assoc] at he;obtain ⟨n,hn⟩:=v6t ha hb va vb k (i+1) (E++Wj 1 [rd b i]) (by omega) (by rw [List.length_append,z9o];simp;omega) he;refine ⟨n+1,?_⟩;rw [Zv];simp (disch:=omega) only [Wp,Yk,Zi,Yq,decide_true,Bool.true_and,Zt,Yz,Yu,Zk,Zx,Zj,Nat.zero_add,Bool.and_true,cond_true,cond_false];exact hn
theorem v6u (ha:a.length≤400) (hb:b.length≤400) (va:a.all Qr=true) (vb:b.all Qr=true): ∀(k i:Nat) (E:List R3),i+k=a.length→E.length=2*i→E++Wj 0 (a.drop i)=Wj 0 a→ ∃n,Yv (Wp q a b) n (.to (.h0 E (i:Int)))=.ret (Km (spJ q.k a b))
 | 0,i,E,h,hl,he=>by rw [List.drop_eq_nil_of_le (by omega),show Wj 0 []=[] from rfl,List.append_nil] at he;subst he;obtain ⟨n,hn⟩:=v6t q a b ha hb va vb b.length 0 (Wj 0 a) (Nat.zero_add _) (by omega) (by rw [List.drop_zero]);refine ⟨n+1,?_⟩;rw [Zv];simp (disch:=omega) only [Wp,Yw,cond_false];exact hn
 | k+1,i,E,h,hl,he=>by rw [y7h 0 a i (by omega),←List.append_assoc] at he;obtain ⟨n,hn⟩:=v6u ha hb va vb k (i+1) (E++Wj 0 [rd a i]) (by omega) (by rw [List.length_append,z9o];simp;omega) he;refine ⟨n+1,?_⟩;rw [Zv];simp (disch:=omega) only [Wp,Yk,Zi,Yq,decide_true,Bool.true_and,Zt,Yz,Yu,Zk,Zx,Zj,Nat.zero_add,Bool.and_true,cond_true,cond_false];exact hn
theorem u1c : ∃n,Yv (Wp q a b) n (y0j q a b)=.ret (y2g (spE q.k a b) (spJ q.k a b)):=by
 unfold y0j;have o: ∀l,z2p l=true:=fun _=>rfl;simp only [Za,o,cond_true];rcases Yf (y5v a != 0) with q1 | q1
 ·exact ⟨0,by simp only [spE,q1,cond_true,z1m _ q1];rfl⟩
 rcases Yf (y5v b != 0) with q2 | q2
 ·exact ⟨0,by simp only [spE,q1,q2,cond_true,cond_false,z1m _ q2];rfl⟩
 obtain ⟨a1,a2,_⟩:=(y8c a).1 (by simpa using q1);obtain ⟨b1,b2,_⟩:=(y8c b).1 (by simpa using q2);obtain ⟨n,hn⟩:=v6u q a b a1 b1 a2 b2 a.length 0 [] (Nat.zero_add _) rfl (by rw [List.drop_zero,List.nil_append]);refine ⟨n,?_⟩;simp only [spE,q1,q2,cond_false,←z7d];exact hn
end
def z2n (q:Op) (a b:List R2):List R2:=y9k (spE q.k a b) (spJ q.k a b)
def w1e (q:Op) (a b:List R2):Int:=spE q.k a b
def y7y (q:Op) (a b:List R2):Bool:=true
def fSp (q:Op):List AVal→Option (AVal×Bool)
 | [a1,a2]=>match asL R2 a1,asL R2 a2 with
  | some (L1,g1,n1),some (L2,g2,n2)=>some (.tup [.dat (z2n q L1 L2).length (Zz (z2n q L1 L2)),.int .i64 (w1e q L1 L2)],isT R2 n1 g1&&(isT R2 n2 g2&&y7y q L1 L2))
  | _,_=>none
 | _=>none
theorem w9n (q:Op) {S:Specs} (hS:Zu prog S):Zu prog (S.with (nSp q) (fSp q)):=by
 refine w9m hS (by cases q <;> kernel_rfl) fun args v h=> ?_;unfold fSp at h;split at h
 ·rename_i a1 a2;split at h
  ·rename_i L1 g1 n1 L2 g2 n2 e1 e2;simp only [Option.some.injEq,Prod.mk.injEq,Bool.and_eq_true] at h;obtain ⟨rfl,ho1,ho2,_⟩:=h;obtain ⟨N,hN⟩:=u1c q L1 L2;exact ⟨_,_,(.cons (asL_le e1 ho1) (.cons (asL_le e2 ho2) .nil)),z3s _ _,v1q q L1 L2 N _ hN,3,z7t _ _⟩
  ·cases h
 ·cases h
def Ub :Specs:=((Ua.with (nSp .u) (fSp .u)).with (nSp .e) (fSp .e)).with (nSp .d) (fSp .d)
theorem y4l :Zu prog Ub:=w9n .d (w9n .e (w9n .u z1b))
end Go.Am
namespace Go.Am
open Go.Proofs.Tryz
open Go.Proofs
inductive rgcS where
 | h0 (v8:Int)
def rgcC (l0:List R4):rgcS→Cfg
 | .h0 v8=>⟨⟨19,0,true⟩,none,(Zd prog 203 [1,0,1,0,0] 0),none,(Zy prog 5),⟨Ya [(0,(.dat l0.length (Zz l0))),(1,(.fn 199 [])),(7,(ii (l0.length:Int))),(8,(ii v8))],Uq [] 0,0,[],true⟩,[⟨⟨9,0,true⟩,(Up prog 198 [1,0] 2),(Zd prog 198 [1,0] 1),none,(Zy prog 5),Ya [(5,(.dat l0.length (Zz l0))),(6,(.fn 199 []))]⟩,⟨⟨23,0,true⟩,(Up prog 189 [1,1,0,0] 1),(Zd prog 189 [1,1,0,0] 1),none,(Zy prog 3),Ya [(0,(.dat l0.length (Zz l0))),(8,(.dat l0.length (Zz l0)))]⟩],.leaf⟩
def rgcN0 :List (Option (List Nat)):=[some [0,1,7,8],some [5,6],some [0,8]]
def rgcM0 :List (Option (List Nat)):=[]
def z1l (l0:List R4):rgcS→Xf rgcS
 | .h0 v8=>(bif (decide (v8<(l0.length:Int))) then (bif ((decide (0≤v8∧v8<(l0.length:Int)))&&true) then (bif (!(u0r (rd l0 v8.toNat).a (rd l0 v8.toNat).b (rd l0 v8.toNat).c (rd l0 v8.toNat).d)) then (bif (decide (v8≥0)) then (.ret [(.int .i64 8)]) else (bif (Kk (cvT l0)) then (bif ((z0e (cvT l0)) != 0) then (.ret [(.int .i64 8)]) else (bif (Wm (cvT (Wu (cvT l0))) (cvT l0)) then (bif (!(Um (cvT (Wu (cvT l0))) (cvT l0))) then (.ret [(.int .i64 8)]) else (.ret [(.int .i64 0)])) else .stuck)) else .stuck)) else (.to (.h0 (IntKind.wrap .i64 (v8+1))))) else .stuck) else (bif (Kk (cvT l0)) then (bif ((z0e (cvT l0)) != 0) then (.ret [(.int .i64 8)]) else (bif (Wm (cvT (Wu (cvT l0))) (cvT l0)) then (bif (!(Um (cvT (Wu (cvT l0))) (cvT l0))) then (.ret [(.int .i64 8)]) else (.ret [(.int .i64 0)])) else .stuck)) else .stuck))
def z6b (l0:List R4):Xf rgcS:=(bif (decide ((l0.length:Int)>400)) then (.ret [(.int .i64 4)]) else (.to (.h0 0)))
theorem w1z (l0:List R4): ∀s,Xj prog (Zy prog 189) (rgcC l0) (rgcC l0 s) (z1l l0 s)
 | .h0 v8=>(lb (fun k0=>(lo fun aG=>(lb (fun k1=>(lb (fun k2=>(lr 23 189 [1,1,0,1,0,0] 1 3 [(2,(ii 8))] (sl y4l 53 [] ⟨[],[],[some [2]],[]⟩ ⟨[],[],[]⟩ (trs 3 []) (tt k2 (tt k1 (ww aG (tt k0 nn))))))) (fun k2=>(lo fun cB=>(lb (fun k3=>(lr 23 189 [1,1,1,0,1,1,0,0] 1 3 [(2,(ii 8))] (sl y4l 77 [] ⟨[],[],[some [2]],[]⟩ ⟨[],[],[]⟩ (bl 8 251) (tt k3 (pp (pp (xr l0) (xw cB)) (tt k2 (tt k1 (ww aG (tt k0 nn))))))))) (fun k3=>(lo fun bW=>(lb (fun k4=>(lr 23 189 [1,1,1,0,1,1,0,0] 1 3 [(2,(ii 8))] (sl y4l 77 [] ⟨[],[],[some [2]],[]⟩ ⟨[],[],[]⟩ (bl 8 131) (tt k4 (pp (pp (xI R4 (Wu (cvT l0)).length (Zz (Wu (cvT l0)))) (pp (xr l0) (xw bW))) (tt k3 (pp (pp (xr l0) (xw cB)) (tt k2 (tt k1 (ww aG (tt k0 nn))))))))))) (fun k4=>(lr 23 3 [1,1,1,1,1,1,1,0] 1 3 [(2,(ii 0))] (sl y4l 78 [] ⟨[],[],[some [2]],[]⟩ ⟨[],[],[]⟩ (bl 8 3) (tt k4 (pp (pp (xI R4 (Wu (cvT l0)).length (Zz (Wu (cvT l0)))) (pp (xr l0) (xw bW))) (tt k3 (pp (pp (xr l0) (xw cB)) (tt k2 (tt k1 (ww aG (tt k0 nn))))))))))))))))))) (fun k1=>(sl y4l 44 [] ⟨[],[],rgcN0,rgcM0⟩ ⟨[],[],[]⟩ (bl 2 1) (tt k1 (ww aG (tt k0 nn)))))))) (fun k0=>(lo fun aG=>(lb (fun k1=>(lr 23 189 [1,1,1,0,1,1,0,0] 1 3 [(2,(ii 8))] (sl y4l 46 [] ⟨[],[],[some [2]],[]⟩ ⟨[],[],[]⟩ (bl 7 124) (tt k1 (pp (pp (xr l0) (xw aG)) (tt k0 nn)))))) (fun k1=>(lo fun cA=>(lb (fun k2=>(lr 23 189 [1,1,1,0,1,1,0,0] 1 3 [(2,(ii 8))] (sl y4l 46 [] ⟨[],[],[some [2]],[]⟩ ⟨[],[],[]⟩ (bl 7 64) (tt k2 (pp (pp (xI R4 (Wu (cvT l0)).length (Zz (Wu (cvT l0)))) (pp (xr l0) (xw cA))) (tt k1 (pp (pp (xr l0) (xw aG)) (tt k0 nn)))))))) (fun k2=>(lr 23 3 [1,1,1,1,1,1,1,0] 1 3 [(2,(ii 0))] (sl y4l 47 [] ⟨[],[],[some [2]],[]⟩ ⟨[],[],[]⟩ (bl 7 0) (tt k2 (pp (pp (xI R4 (Wu (cvT l0)).length (Zz (Wu (cvT l0)))) (pp (xr l0) (xw cA))) (tt k1 (pp (pp (xr l0) (xw aG)) (tt k0 nn)))))))))))))))
theorem x4w (l0:List R4):Xj prog (Zy prog 189) (rgcC l0) (Ze prog 189 [(.dat l0.length (Zz l0))] true []) (z6b l0):=(lb (fun k0=>(lr 23 189 [1,0,1,0,0] 1 3 [(2,(ii 4))] (sl y4l 16 [] ⟨[],[],[some [2]],[]⟩ ⟨[],[],[]⟩ [true] (tt k0 nn)))) (fun k0=>(sl y4l 40 [] ⟨[],[],rgcN0,rgcM0⟩ ⟨[],[],[]⟩ [false] (tt k0 nn))))
theorem v3d (l0:List R4) (n:Nat) (vs:List AVal) (h:Yv (z1l l0) n (z6b l0)=.ret vs):Ky prog (Zy prog 189) (Ze prog 189 [(.dat l0.length (Zz l0))] true []) vs:=by have:=Zr (w1z l0) n _ (x4w l0);rwa [h] at this
end Go.Am
namespace Go.Am
open Go.Proofs.Tryz
open Go.Proofs
open Go.Sort Go.Shelf Go.RowKit Go.Lib
def rgcF (l:List R4):Int:=bif z0e l != 0 then 8 else bif Um (Wu l) l then 0 else 8
def y4o (l:List R4):Int:=bif decide (400<l.length) then 4 else bif l.all Vx then rgcF l else 8
def z2s (l:List R4):Bool:=true
theorem x5u (l:List R4):(Wu l).length ≤400:=by
 unfold Wu v9y y9k y7l;by_cases h:((D4.out l).length :Int)>400
 ·rw [decide_eq_true h];exact Nat.zero_le _
 ·rw [decide_eq_false h];show (D4.out l).length ≤400;omega
theorem v8i (l:List R4) (hl:l.length≤400): ∀(k i:Nat),i+k=l.length→(∀s∈l.take i,Vx s=true)→ ∃n,Yv (z1l l) n (.to (.h0 (i:Int)))=.ret (bif l.all Vx then [.int .i64 (rgcF l)] else [.int .i64 8])
 | 0,i,h,ht=>by
  have hv:l.all Vx=true:=List.all_eq_true.2 fun s hs=>ht s (by rw [List.take_of_length_le (by omega)];exact hs);have w:Kk l=true:=decide_eq_true hl;refine ⟨1,?_⟩;rw [Zv,hv,cond_true];have w2:Wm (Wu l) l=true:=decide_eq_true (by have:=x5u l;omega);unfold rgcF;rcases Yf (z0e l != 0) with q | q
  ·simp (disch:=omega) only [z1l,Za,w,q,Yw,cond_true,cond_false,Zm]
  ·rcases Yf (Um (Wu l) l) with q2 | q2 <;>
   simp (disch:=omega) only [z1l,Za,w,w2,q,q2,Yw,Bool.not_true,Bool.not_false,cond_true,cond_false,Zm]
 | k+1,i,h,ht=>by
  have hi:i<l.length:=by omega
  have hs:z1l l (.h0 (i:Int))=bif Vx (rd l i) then .to (.h0 ((i+1:Nat):Int)) else .ret [.int .i64 8]:=by have e:u0r (rd l i).a (rd l i).b (rd l i).c (rd l i).d =Vx (rd l i):=rfl;simp (disch:=omega) only [z1l,e,z5m,x2l,x2m,Yz,Zk,Zx,Zj,Bool.and_true,cond_true,cond_false]
  rcases Yf (Vx (rd l i)) with q | q
  ·obtain ⟨n,hn⟩:=v8i l hl k (i+1) (by omega) (fun s hs=>by
    rw [List.take_add_one] at hs;have e:l[i]? =some (rd l i):=by rw [Xu hi];exact List.getElem?_eq_getElem _
    rw [e] at hs;simp only [Option.toList_some,List.mem_append,List.mem_singleton] at hs;rcases hs with hs | rfl
    ·exact ht s hs
    ·exact q)
   refine ⟨n+1,?_⟩;rw [Zv,hs,q,cond_true];exact hn
  ·have hv:l.all Vx=false:=Bool.eq_false_iff.2 fun e=>by have:=List.all_eq_true.1 e (rd l i) (by rw [Xu hi];exact List.getElem_mem hi);rw [this] at q;cases q
   refine ⟨1,?_⟩;rw [Zv,hv,cond_false,hs,q,cond_false,Zm]
theorem v3c (l:List R4): ∃n,Yv (z1l l) n (z6b l)=.ret (bif decide (400<l.length) then [.int .i64 4] else bif l.all Vx then [.int .i64 (rgcF l)] else [.int .i64 8]):=by
 unfold z6b;by_cases h:400<l.length
 ·refine ⟨0,?_⟩;rw [decide_eq_true h,Ye (show (l.length:Int)>400 by omega)];rfl
 ·obtain ⟨n,hn⟩:=v8i l (by omega) l.length 0 (Nat.zero_add _) (fun s hs=>by simp at hs);refine ⟨n,?_⟩;rw [decide_eq_false h,Xv (show¬(l.length:Int)>400 by omega),cond_false,cond_false];exact hn
theorem u2v (l:List R4) (h:z2s l=true): ∃n,Yv (z1l l) n (z6b l)=.ret [.int .i64 (y4o l)]:=by obtain ⟨n,hn⟩:=v3c l;refine ⟨n,hn.trans ?_⟩;unfold y4o;cases decide (400<l.length) <;> cases l.all Vx <;> rfl
def fRgc :List AVal→Option (AVal×Bool)
 | [a0]=>match asL R4 a0 with
  | some (L0,g0,n0)=>some (.int .i64 (y4o L0),isT R4 n0 g0&&(z2s L0))
  | _=>none
 | _=>none
theorem u5i {S:Specs} (hS:Zu prog S):Zu prog (S.with x9i fRgc):=by
 refine z3g hS (by kernel_rfl) fun args v h=> ?_;unfold fRgc at h;split at h
 ·rename_i a0;split at h
  ·rename_i L0 g0 n0 e0;simp only [Option.some.injEq,Prod.mk.injEq,Bool.and_eq_true] at h;obtain ⟨rfl,ho0,hw⟩:=h;obtain ⟨N,hN⟩:=u2v L0 hw;exact ⟨_,_,(.cons (asL_le e0 ho0) .nil),rfl,v3d L0 N _ hN,3,rfl⟩
  ·cases h
 ·cases h
def Uc :Specs:=(Ub.with x9i fRgc)
theorem Jf :Zu prog Uc:=(u5i y4l)
end Go.Am
end
