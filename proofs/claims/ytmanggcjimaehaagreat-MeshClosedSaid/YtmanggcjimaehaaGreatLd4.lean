/- A part of a proof: several texts in one. -/
import Derived.Test.YtmanggcjimaehaaGreatLd3
set_option maxRecDepth 1000000
set_option maxHeartbeats 8000000
set_option linter.unusedVariables false
set_option linter.unusedSimpArgs false
noncomputable section
namespace Go.Am
open Go.Proofs.Tryz
open Go.Proofs Go.Sort Go.Shelf Go.RowKit Go.Lib
theorem x5d {i n:Nat} (h:i<n):decide ((i:Int)<(n:Int))=true:=decide_eq_true (by omega)
theorem z8f {σ:Type} (step:σ→Xb σ) (a b:Nat) (s:Xb σ):Yv step (a+b) s=Yv step a (Yv step b s):=by
 induction b generalizing s with
 | zero=>cases s <;> simp [Yv]
 | succ b ih=>cases s with
  | to s=>exact ih (step s)
  | ret vs=>simp only [Zm]
  | stuck=>cases a <;> cases b <;> rfl
theorem x5e {i:Nat}:decide ((i:Int)≥0)=true:=decide_eq_true (by omega)
def Qv {α:Type} [Yt α] (out:List α):List AVal:=bif decide ((out.length:Int)>400) then [.nils,.int .i64 4] else [.dat out.length (Zz out),.int .i64 0]
def y4h {α:Type} [Yt α] (e:Int) (L:List α):List AVal:=bif e != 0 then [.nils,.int .i64 e] else [.dat L.length (Zz L),.int .i64 0]
def x2b {α:Type} (e:Int) (L:List α):List α:=bif e != 0 then [] else L
theorem z5d {α:Type} [Yt α] (e:Int) (L:List α) (ρ:Rho) (u:Value) (hu:Yy ρ (Ku (y4h e L)) u):Yy ρ (.tup [.dat (x2b e L).length (Zz (x2b e L)),.int .i64 e]) u:=by
 unfold y4h at hu;unfold x2b;by_cases h:e=0
 ·subst h;exact hu
 ·have h:(e != 0)=true:=by simpa using h
  rw [h] at hu ⊢;exact z5s (.cons (z6l α) (RLe.refl _)) ρ u hu
theorem z9j {α:Type} [Yt α] (e:Int) (L:List α):pf 3 (Ku (y4h e L))=true:=by unfold y4h;cases (e != 0) <;> rfl
def y9x (n:Nat):Int:=bif decide ((n:Int)>400) then 4 else 0
theorem z8s {α:Type} [Yt α] (L:List α):Qv L=y4h (y9x L.length) L:=by unfold Qv y4h y9x;cases decide ((L.length:Int)>400) <;> rfl
theorem z2u {α:Type} [Yt α] {e:Int} (L:List α) (h:(e != 0)=true):y4h e L=[.nils,.int .i64 e]:=by unfold y4h;rw [h];rfl
theorem y7m : ∀(L:List R3) (o last:Int) (inn:Bool) (out:List R2),(swF L o last inn out).length ≤out.length+L.length
 | [],_,_,_,out=>Nat.le_refl _
 | e::r,o,last,inn,out=>by rw [y2b];have:=y7m r (o+e.c) e.a (decide (o+e.c>0)) (Vc out last inn e.a);have:=z3g out last inn e.a;simp only [List.length_cons];omega
theorem y3x (l:List R3):(z0v l).length =l.length:=by
 by_cases h:y1q l=true
 ·exact (Ks l h).1.length_eq
 ·unfold z0v;rw [dif_neg h]
theorem x6q (l:List R2):(Xd l).length ≤800:=by
 unfold Xd;by_cases h:400<l.length
 ·rw [decide_eq_true h];exact Nat.zero_le _
 ·rw [decide_eq_false h];cases l.all z0u
  ·exact Nat.zero_le _
  ·show (swV l).length ≤800;have h1:=y7m (z0v (Kp l)) 0 0 false [];rw [y3x,z4s] at h1;simp only [List.length_nil] at h1;unfold swV;omega
def Vw (r:R4):Bool:=decide (r.a<r.c)&&(decide (r.b<r.d)&&(decide (r.a≥ -1000000)&&(decide (r.a≤1000000)&&(decide (r.c≥ -1000000)&&(decide (r.c≤1000000)&&(decide (r.b≥ -1000000)&&(decide (r.b≤1000000)&&(decide (r.d≥ -1000000)&&decide (r.d≤1000000)))))))))
def D4 :Dim R4 R2:=⟨R4.a,R4.c,fun r=>⟨r.b,r.d⟩,fun x x' s=>⟨x,s.a,x',s.b⟩,fun x r=>⟨r.a,r.b,x,r.d⟩,Xd,Qz⟩
theorem D4_sec (l:List R4) (x:Int):(D4.sec l x).length ≤1000:=Nat.le_trans (x6q _) (by omega)
section
variable (l:List R4) (hl:l.length≤400)
include hl
theorem u5g (i:Nat) (out:List R4) (last:List R2) (first fin x x':Int): ∀(k j:Nat) (acc:List R2),j+k=l.length→acc.length≤j→
  ∃n,∀N,Yv (Xh l) (N+n) (.to (.h2 (i:Int) (j:Int) out last first fin ((D4.cuts l).length) (Wh (Xm (D4.ends l))) x x' acc))=Yv (Xh l) N (.to (.h2 (i:Int) (l.length:Int) out last first fin ((D4.cuts l).length) (Wh (Xm (D4.ends l))) x x' (acc++D4.inn (l.drop j) x)))
 | 0,j,acc,h,ha=>by refine ⟨0,fun N=> ?_⟩;rw [List.drop_eq_nil_of_le (by omega),show D4.inn ([]:List R4) x=[] from rfl,List.append_nil,Nat.add_zero,show j=l.length by omega]
 | k+1,j,acc,h,ha=>by
  have hj:j<l.length:=by omega
  obtain ⟨n,hn⟩:=u5g i out last first fin x x' k (j+1) (acc++D4.inn [rd l j] x) (by omega) (by have:=D4.inn_length [rd l j] x;simp only [List.length_append,List.length_singleton] at*;omega)
  refine ⟨n+1,fun N=> ?_⟩;have e:D4.inn (l.drop j) x=D4.inn [rd l j] x++D4.inn (l.drop (j+1)) x:=by rw [Ym hj,←D4.inn_append];rfl
  rw [e,←Nat.add_assoc,Zv,←List.append_assoc,←hn N];by_cases h1:D4.lo (rd l j)≤x
  ·by_cases h2:x<D4.hi (rd l j)
   ·rw [D4.inn_t _ _ h1 h2];simp only [D4] at h1 h2 ⊢;simp (disch:=omega) only [Xh,Xs,Za,Zk,Zt,Yz,Yc,Yk,Yp,Zh,Zq,Zx,Yg,Zj,Nat.zero_add,decide_true,Bool.and_true,Bool.true_and,cond_true,cond_false]
   ·rw [D4.inn_f2 _ _ h2,List.append_nil];simp only [D4] at h1 h2;simp (disch:=omega) only [Xh,Xs,Yx,Za,Zk,Zt,Yz,Yc,Yk,Yp,Zh,Zq,Zx,Yg,Zj,Nat.zero_add,decide_true,Bool.and_true,Bool.true_and,cond_true,cond_false]
  ·rw [D4.inn_f1 _ _ h1,List.append_nil];simp only [D4] at h1;simp (disch:=omega) only [Xh,w0f,Za,Zk,Zt,Yz,Yc,Yk,Yp,Zh,Zq,Zx,Yg,Zj,Nat.zero_add,decide_true,Bool.and_true,Bool.true_and,cond_true,cond_false]
theorem u5f (i:Nat) (hi:i≤1000) (x x':Int) (s last:List R2) (first:Int) (inn:List R2) (hs:s.length≤1000): ∀(k j:Nat) (out:List R4),j+k=s.length→out.length≤10000000+j→
  ∃n,∀N,Yv (Xh l) (N+n) (.to (.h3 x x' s (s.length:Int) (j:Int) s (i:Int) out last first ((D4.cuts l).length) (Wh (Xm (D4.ends l))) inn))=Yv (Xh l) N (.to (.h1 ((i+1:Nat):Int) (out++(s.drop j).map (D4.put x x')) last first x' ((D4.cuts l).length) (Wh (Xm (D4.ends l)))))
 | 0,j,out,h,ho=>by have _u:=hl;refine ⟨1,fun N=> ?_⟩;rw [List.drop_eq_nil_of_le (by omega),Zv];simp (disch:=omega) only [Xh,Yx,Zq,Zx,cond_false,List.map_nil,List.append_nil]
 | k+1,j,out,h,ho=>by
  obtain ⟨n,hn⟩:=u5f i hi x x' s last first inn hs k (j+1) (out++[D4.put x x' (rd s j)]) (by omega) (by simp;omega)
  refine ⟨n+1,fun N=> ?_⟩;have:=hn N;rw [Ym (show j<s.length by omega),List.map_cons,←Nat.add_assoc,Zv];simp (disch:=omega) only [Xh,Za,Zk,Zt,Yz,Yc,Yk,Yp,Zh,Zq,Zx,Yg,Zj,Nat.zero_add,decide_true,Bool.and_true,Bool.true_and,cond_true,cond_false];rw [List.append_assoc] at this;exact this
theorem u5e (i:Nat) (hi:i≤1000) (x x' fin:Int) (s last:List R2) (first:Int) (inn:List R2): ∀(k j:Nat) (out:List R4),j+k=out.length→out.length≤10000000→
  ∃n,∀N,Yv (Xh l) (N+n) (.to (.h4 x' (j:Int) x s (i:Int) out last first fin ((D4.cuts l).length) (Wh (Xm (D4.ends l))) inn))=Yv (Xh l) N (.to (.h1 ((i+1:Nat):Int) (D4.grow out j x') last first x' ((D4.cuts l).length) (Wh (Xm (D4.ends l)))))
 | 0,j,out,h,ho=>by have _u:=hl;refine ⟨1,fun N=> ?_⟩;rw [D4.grow_nil _ _ _ (by omega),Zv];simp (disch:=omega) only [Xh,Yx,Zq,Zx,cond_false]
 | k+1,j,out,h,ho=>by
  obtain ⟨n,hn⟩:=u5e i hi x x' fin s last first inn k (j+1) (out.set j (D4.ext x' (rd out j))) (by simp;omega) (by simpa using ho)
  refine ⟨n+1,fun N=> ?_⟩;have:=hn N;rw [D4.grow_set out j _ (by omega)] at this;rw [←Nat.add_assoc,Zv];simp (disch:=omega) only [Xh,Za,Zk,Zt,Yz,Yc,Yk,Yp,Zh,Zq,Zx,Yg,Zj,Nat.zero_add,decide_true,Bool.and_true,Bool.true_and,cond_true,cond_false];exact this
theorem v2v : ∀(k i:Nat) (s:Sw R4 R2),k=(D4.cuts l).length - 1 - i→i≤(D4.cuts l).length →s.out.length≤i*1000→s.last.length≤1000→s.first≤s.out.length→
  ∃n,Yv (Xh l) n (.to (.h1 ((i+1:Nat):Int) s.out s.last (s.first:Int) s.fin ((D4.cuts l).length) (Wh (Xm (D4.ends l)))))=.ret (Qv (D4.go l k i s).out)
 | 0,i,s,h,hi,ho,hla,hf=>by
  have hc:=D4.cuts_length l;refine ⟨1,?_⟩;rw [Zv,show D4.go l 0 i s=s from rfl];unfold Qv;by_cases q:(s.out.length:Int)>400
  ·simp (disch:=omega) only [Xh,Yx,Yo,cond_true,cond_false,Zm]
  ·simp (disch:=omega) only [Xh,Yx,Xp,cond_true,cond_false,Zm]
 | k +1,i,s,h,hi,ho,hla,hf=>by
  have hc:=D4.cuts_length l;have hi1:i+1<(D4.cuts l).length :=by omega
  have hpl:(Wh (Xm (D4.ends l))).length =2*l.length:=by rw [Uo,Ww,D4.ends_length]
  have r0:rd (Wh (Xm (D4.ends l))) i=rd (D4.cuts l) i:=z4h _ _ (by show i<(D4.cuts l).length;omega);have r1:rd (Wh (Xm (D4.ends l))) (i+1)=rd (D4.cuts l) (i+1):=z4h _ _ (by show i+1<(D4.cuts l).length;omega);have hbig:i*1000≤1000*1000:=Nat.mul_le_mul_right _ (by omega);have hsl:=D4_sec l (rd (D4.cuts l) i);have hsd:D4.sec l (rd (D4.cuts l) i)=Xd (D4.inn l (rd (D4.cuts l) i)):=rfl;obtain ⟨n3,h3⟩:=u5g l hl (i+1) s.out s.last (s.first:Int) s.fin (rd (D4.cuts l) i) (rd (D4.cuts l) (i+1)) l.length 0 [] (Nat.zero_add _) (Nat.le_refl _);simp only [List.drop_zero,List.nil_append,z4u] at h3;have w1:y3y (D4.inn l (rd (D4.cuts l) i))=true:=rfl;have w2:Vf s.last (Xd (D4.inn l (rd (D4.cuts l) i)))=true:=decide_eq_true (by omega);have ol:=D4.one_length l (rd (D4.cuts l) i) (rd (D4.cuts l) (i+1)) s;have st0: ∀N,Yv (Xh l) (N+n3+1) (.to (.h1 ((i+1:Nat):Int) s.out s.last (s.first:Int) s.fin ((D4.cuts l).length) (Wh (Xm (D4.ends l)))))=Yv (Xh l) N (.to (.h2 ((i+1:Nat):Int) (l.length:Int) s.out s.last (s.first:Int) s.fin ((D4.cuts l).length) (Wh (Xm (D4.ends l))) (rd (D4.cuts l) i) (rd (D4.cuts l) (i+1)) (D4.inn l (rd (D4.cuts l) i)))):=fun N=>by
   rw [←h3 N,Zv];have e1:IntKind.wrap .i64 (((i+1:Nat):Int) - 1)=(i:Int):=by rw [Zr];exact Zq (by omega)
   simp (disch:=omega) only [Xh,e1,r0,r1,Za,Zk,Zt,Yz,Yc,Yk,Yp,Zh,Zq,Zx,Yg,Zj,Nat.zero_add,decide_true,Bool.and_true,Bool.true_and,cond_true,cond_false]
  rcases Ye (decide (0<(D4.sec l (rd (D4.cuts l) i)).length)&&((s.fin == rd (D4.cuts l) i)&&D4.same s.last (D4.sec l (rd (D4.cuts l) i)))) with q | q
  ·obtain ⟨n5,h5⟩:=u5e l hl (i+1) (by omega) (rd (D4.cuts l) i) (rd (D4.cuts l) (i+1)) s.fin (D4.sec l (rd (D4.cuts l) i)) s.last (s.first:Int) (D4.inn l (rd (D4.cuts l) i)) (s.out.length - s.first) s.first s.out (by omega) (by omega)
   have e:D4.one l (rd (D4.cuts l) i) (rd (D4.cuts l) (i+1)) s=⟨D4.grow s.out s.first (rd (D4.cuts l) (i+1)),s.last,s.first,rd (D4.cuts l) (i+1)⟩:=by unfold Dim.one;rw [q];rfl
   obtain ⟨n0,h0⟩:=v2v k (i+1) (D4.one l (rd (D4.cuts l) i) (rd (D4.cuts l) (i+1)) s) (by omega) (by omega) (by omega) (by rw [e];exact hla) (by rw [e];simpa [Dim.grow_length] using hf);refine ⟨n0+n5+1+n3+1,?_⟩;rw [st0 (n0+n5+1),Zv];simp only [Bool.and_eq_true,decide_eq_true_eq] at q;obtain ⟨q1,q2,q3⟩:=q;have q3':Qz s.last (Xd (D4.inn l (rd (D4.cuts l) i)))=true:=q3;rw [hsd] at q1;simp (disch:=omega) only [Xh,Za,Zk,Yx,Yo,q2,q3',w1,w2,cond_true,cond_false];rw [←hsd,h5 n0];simp only [Dim.go];rw [e] at h0 ⊢;exact h0
  ·obtain ⟨n4,h4⟩:=u5f l hl (i+1) (by omega) (rd (D4.cuts l) i) (rd (D4.cuts l) (i+1)) (D4.sec l (rd (D4.cuts l) i)) (D4.sec l (rd (D4.cuts l) i)) (s.out.length:Int) (D4.inn l (rd (D4.cuts l) i)) hsl (D4.sec l (rd (D4.cuts l) i)).length 0 s.out (Nat.zero_add _) (by omega);simp only [List.drop_zero,z4u] at h4;have e:D4.one l (rd (D4.cuts l) i) (rd (D4.cuts l) (i+1)) s=⟨s.out++(D4.sec l (rd (D4.cuts l) i)).map (D4.put (rd (D4.cuts l) i) (rd (D4.cuts l) (i+1))),D4.sec l (rd (D4.cuts l) i),s.out.length,rd (D4.cuts l) (i+1)⟩:=by unfold Dim.one;rw [q];rfl
   obtain ⟨n0,h0⟩:=v2v k (i+1) (D4.one l (rd (D4.cuts l) i) (rd (D4.cuts l) (i+1)) s) (by omega) (by omega) (by omega) (by rw [e];exact hsl) (by rw [e];simp);have hg:Yv (Xh l) 1 (.to (.h2 ((i+1:Nat):Int) (l.length:Int) s.out s.last (s.first:Int) s.fin ((D4.cuts l).length) (Wh (Xm (D4.ends l))) (rd (D4.cuts l) i) (rd (D4.cuts l) (i+1)) (D4.inn l (rd (D4.cuts l) i))))=.to (.h3 (rd (D4.cuts l) i) (rd (D4.cuts l) (i+1)) (D4.sec l (rd (D4.cuts l) i)) ((D4.sec l (rd (D4.cuts l) i)).length :Int) 0 (D4.sec l (rd (D4.cuts l) i)) ((i+1:Nat):Int) s.out (D4.sec l (rd (D4.cuts l) i)) (s.out.length:Int) ((D4.cuts l).length) (Wh (Xm (D4.ends l))) (D4.inn l (rd (D4.cuts l) i))):=by
    rw [show (1:Nat)=0+1 from rfl,Zv];rw [hsd] at q ⊢;have e3:D4.same s.last (Xd (D4.inn l (rd (D4.cuts l) i)))=Qz s.last (Xd (D4.inn l (rd (D4.cuts l) i))):=rfl;rw [e3] at q;by_cases q1:0<(Xd (D4.inn l (rd (D4.cuts l) i))).length
    ·rw [decide_eq_true q1,Bool.true_and] at q;rcases Ye (s.fin == rd (D4.cuts l) i) with q2 | q2
     ·rw [q2,Bool.true_and] at q;simp (disch:=omega) only [Xh,Za,Zk,Yx,Yo,q2,q,w1,w2,cond_true,cond_false];rfl
     ·simp (disch:=omega) only [Xh,Za,Zk,Yx,Yo,q2,w1,w2,cond_true,cond_false];rfl
    ·simp (disch:=omega) only [Xh,Za,Zk,Yx,Xp,w1,w2,cond_true,cond_false];rfl
   refine ⟨n0+n4+1+n3+1,?_⟩;rw [st0 (n0+n4+1),z8f _ (n0+n4) 1,hg,h4 n0];simp only [Dim.go];rw [e] at h0 ⊢;exact h0
theorem u5h : ∀(k i:Nat) (acc:List Int),i+k=l.length→acc=D4.ends (l.take i)→ ∃n,Yv (Xh l) n (.to (.h0 (i:Int) acc))=.ret (Qv (D4.go l ((D4.cuts l).length - 1) 0 ⟨[],[],0,0⟩).out)
 | 0,i,acc,h,ha=>by
  have e:acc=D4.ends l:=by rw [ha,List.take_of_length_le (by omega)]
  subst e;have hle:=D4.ends_length l;obtain ⟨n,hn⟩:=v2v l hl ((D4.cuts l).length - 1) 0 ⟨[],[],0,0⟩ (by omega) (Nat.zero_le _) (Nat.zero_le _) (Nat.zero_le _) (Nat.zero_le _);refine ⟨n+1,?_⟩;rw [Zv];simp (disch:=omega) only [Xh,Wd,z0a,y0f,Yx,Yk,Yp,decide_true,cond_true,cond_false];exact hn
 | k+1,i,acc,h,ha=>by
  have hle:=D4.ends_length (l.take i);have fN:acc.length≤2*i:=by rw [ha,hle];simp;omega
  obtain ⟨n,hn⟩:=u5h k (i+1) (acc++D4.ends [rd l i]) (by omega) (by
   rw [ha,List.take_add_one];have:l[i]? =some (rd l i):=by rw [Xy (show i<l.length by omega)];exact List.getElem?_eq_getElem _
   rw [this,D4.ends_append];rfl)
  refine ⟨n+1,?_⟩;rw [Zv];simp (disch:=omega) only [Xh,Za,Zk,Zt,Yz,Yc,Yk,Yp,Zh,Zq,Zx,Yg,Zj,Nat.zero_add,decide_true,Bool.and_true,Bool.true_and,cond_true,cond_false];exact hn
end
def u5k (l:List R4):Int:=y9x (D4.out l).length
def Wp (l:List R4):List R4:=x2b (u5k l) (D4.out l)
def z1b (l:List R4):Int:=u5k l
def Qy (l:List R4):Bool:=decide (l.length≤400)
theorem j0b (l:List R4) (h:Qy l=true): ∃n,Yv (Xh l) n (x1m l)=.ret (y4h (u5k l) (D4.out l)):=by rw [show y4h (u5k l) (D4.out l)=Qv (D4.out l) from (z8s _).symm];exact u5h l (of_decide_eq_true h) l.length 0 [] (Nat.zero_add _) rfl
def u6k (a b c d:Int):Bool:=Vw ⟨a,b,c,d⟩
theorem u6j (a b c d:Int): ∃N,Yv (x6h a b c d) N (y2a a b c d)=.ret [.bool (u6k a b c d)]:=⟨0,by
 unfold y2a u6k Vw;simp only [y6a];cases decide (a<c) <;> cases decide (b<d) <;> cases decide (a≥ -1000000) <;> cases decide (a≤1000000) <;> cases decide (c≥ -1000000) <;> cases decide (c≤1000000) <;> cases decide (b≥ -1000000) <;> cases decide (b≤1000000) <;> cases decide (d≥ -1000000) <;> rfl⟩
def fVl4 :List AVal→Option (AVal×Bool)
 | [.agg [.int .i64 aM,.int .i64 aL,.int .i64 aN,.int .i64 aV]]=>some (.bool (u6k aM aL aN aV),true)
 | _=>none
theorem j0y {S:Specs} (hS:Zu prog S):Zu prog (S.with w2s fVl4):=by
 refine z2d hS (by kernel_rfl) fun args v h=> ?_;unfold fVl4 at h;split at h
 ·rename_i aM aL aN aV;simp only [Option.some.injEq,Prod.mk.injEq,and_true] at h;subst h;obtain ⟨N,hN⟩:=u6j aM aL aN aV;exact ⟨_,_,(.cons (.refl _) .nil),rfl,v6e aM aL aN aV N _ hN,3,rfl⟩
 ·cases h
def fMad :List AVal→Option (AVal×Bool)
 | [a0]=>match asL R4 a0 with
  | some (L0,g0,n0)=>some (.tup [.dat (Wp L0).length (Zz (Wp L0)),.int .i64 (z1b L0)],isT R4 n0 g0&&(Qy L0))
  | _=>none
 | _=>none
theorem j1t {S:Specs} (hS:Zu prog S):Zu prog (S.with v1y fMad):=by
 refine v3z hS (by kernel_rfl) fun args v h=> ?_;unfold fMad at h;split at h
 ·rename_i a0;split at h
  ·rename_i L0 g0 n0 e0;simp only [Option.some.injEq,Prod.mk.injEq,Bool.and_eq_true] at h;obtain ⟨rfl,ho0,hw⟩:=h;obtain ⟨N,hN⟩:=j0b L0 hw;exact ⟨_,_,(.cons (asL_le e0 ho0) .nil),z5d _ _,v9j L0 N _ hN,3,z9j _ _⟩
  ·cases h
 ·cases h
def T6v :Specs:=(T6.with w2s fVl4)
theorem T6v_ok :Zu prog T6v:=(j0y Kq)
def T6m :Specs:=(T6v.with v1y fMad)
theorem y6o :Zu prog T6m:=(j1t T6v_ok)
end Go.Am
namespace Go.Am
open Go.Proofs.Tryz
open Go.Proofs
inductive rgmS where
 | h0 (v8:Int)
def rgmC (l0:List R4):rgmS→Cfg
 | .h0 v8=>⟨⟨19,0,true⟩,none,(Zd prog 154 [1,0,1,0,0] 0),none,(Zy prog 5),⟨Yd [(0,(.dat l0.length (Zz l0))),(1,(.fn 119 [])),(7,(ii (l0.length:Int))),(8,(ii v8))],Uw [] 0,0,[],true⟩,[⟨⟨9,0,true⟩,(Jk prog 118 [1,0] 2),(Zd prog 118 [1,0] 1),none,(Zy prog 5),Yd [(5,(.dat l0.length (Zz l0))),(6,(.fn 119 []))]⟩,⟨⟨13,0,true⟩,(Jk prog 65 [1,1,0,0] 1),(Zd prog 65 [1,1,0,0] 1),none,(Zy prog 15),Yd [(0,(.dat l0.length (Zz l0))),(7,(.dat l0.length (Zz l0)))]⟩],.leaf⟩
def rgmN0 :List (Option (List Nat)):=[some [0,1,7,8],some [5,6],some [0,7]]
def rgmM0 :List (Option (List Nat)):=[]
def z4e (l0:List R4):rgmS→Xb rgmS
 | .h0 v8=>(bif (decide (v8<(l0.length:Int))) then (bif ((decide (0≤v8∧v8<(l0.length:Int)))&&true) then (bif (!(u6k (rd l0 v8.toNat).a (rd l0 v8.toNat).b (rd l0 v8.toNat).c (rd l0 v8.toNat).d)) then (bif (decide (v8≥0)) then (.ret [.nils,(.int .i64 8)]) else (bif (Qy (cvT l0)) then (.ret [(.dat (Wp (cvT l0)).length (Zz (Wp (cvT l0)))),(.int .i64 (z1b (cvT l0)))]) else .stuck)) else (.to (.h0 (IntKind.wrap .i64 (v8+1))))) else .stuck) else (bif (Qy (cvT l0)) then (.ret [(.dat (Wp (cvT l0)).length (Zz (Wp (cvT l0)))),(.int .i64 (z1b (cvT l0)))]) else .stuck))
def z7m (l0:List R4):Xb rgmS:=(bif (decide ((l0.length:Int)>400)) then (.ret [.nils,(.int .i64 4)]) else (.to (.h0 0)))
theorem w5v (l0:List R4): ∀s,Xv prog (Zy prog 65) (rgmC l0) (rgmC l0 s) (z4e l0 s)
 | .h0 v8=>(lb (fun k0=>(lo fun aF=>(lb (fun k1=>(lb (fun k2=>(lr 13 65 [1,1,0,1,0,0] 1 15 [(2,.nils),(3,(ii 8))] (sl y6o 54 [] ⟨[],[],[some [2,3]],[]⟩ ⟨[],[],[]⟩ (trs 3 []) (tt k2 (tt k1 (ww aF (tt k0 nn))))))) (fun k2=>(lo fun o0=>(lr 13 3 [1,1,1,1,1,1,1,0] 1 15 [(2,(.dat (Wp (cvT l0)).length (Zz (Wp (cvT l0))))),(3,(ii (z1b (cvT l0))))] (sl y6o 59 [] ⟨[],[],[some [2,3]],[]⟩ ⟨[],[],[]⟩ (bl 3 3) (pp (pp (xr l0) (xw o0)) (tt k2 (tt k1 (ww aF (tt k0 nn))))))))))) (fun k1=>(sl y6o 44 [] ⟨[],[],rgmN0,rgmM0⟩ ⟨[],[],[]⟩ (bl 2 1) (tt k1 (ww aF (tt k0 nn)))))))) (fun k0=>(lo fun o0=>(lr 13 3 [1,1,1,1,1,1,1,0] 1 15 [(2,(.dat (Wp (cvT l0)).length (Zz (Wp (cvT l0))))),(3,(ii (z1b (cvT l0))))] (sl y6o 28 [] ⟨[],[],[some [2,3]],[]⟩ ⟨[],[],[]⟩ (bl 2 0) (pp (pp (xr l0) (xw o0)) (tt k0 nn)))))))
theorem x7q (l0:List R4):Xv prog (Zy prog 65) (rgmC l0) (Zc prog 65 [(.dat l0.length (Zz l0))] true []) (z7m l0):=(lb (fun k0=>(lr 13 65 [1,0,1,0,0] 1 15 [(2,.nils),(3,(ii 4))] (sl y6o 18 [] ⟨[],[],[some [2,3]],[]⟩ ⟨[],[],[]⟩ [true] (tt k0 nn)))) (fun k0=>(sl y6o 41 [] ⟨[],[],rgmN0,rgmM0⟩ ⟨[],[],[]⟩ [false] (tt k0 nn))))
theorem v7o (l0:List R4) (n:Nat) (vs:List AVal) (h:Yv (z4e l0) n (z7m l0)=.ret vs):Jt prog (Zy prog 65) (Zc prog 65 [(.dat l0.length (Zz l0))] true []) vs:=by have:=Ze (w5v l0) n _ (x7q l0);rwa [h] at this
end Go.Am
namespace Go.Am
open Go.Proofs.Tryz
open Go.Proofs
open Go.Sort Go.Shelf Go.RowKit Go.Lib
theorem u3h (l:List R4) (hl:l.length≤400): ∀(k i:Nat),i+k=l.length→(∀s∈l.take i,Vw s=true)→ ∃n,Yv (z4e l) n (.to (.h0 (i:Int)))=.ret (bif l.all Vw then [.dat (Wp l).length (Zz (Wp l)),.int .i64 (z1b l)] else [.nils,.int .i64 8])
 | 0,i,h,ht=>by have hv:l.all Vw=true:=List.all_eq_true.2 fun s hs=>ht s (by rw [List.take_of_length_le (by omega)];exact hs);have w:Qy l=true:=decide_eq_true hl;refine ⟨1,?_⟩;rw [Zv,hv,cond_true];simp (disch:=omega) only [z4e,Za,w,Yx,cond_true,cond_false,Zm]
 | k+1,i,h,ht=>by
  have hi:i<l.length:=by omega
  have hs:z4e l (.h0 (i:Int))=bif Vw (rd l i) then .to (.h0 ((i+1:Nat):Int)) else .ret [.nils,.int .i64 8]:=by have e:u6k (rd l i).a (rd l i).b (rd l i).c (rd l i).d =Vw (rd l i):=rfl;simp (disch:=omega) only [z4e,e,z6x,x5d,x5e,Yz,Zq,Zx,Zj,Bool.and_true,cond_true,cond_false]
  rcases Ye (Vw (rd l i)) with q | q
  ·obtain ⟨n,hn⟩:=u3h l hl k (i+1) (by omega) (fun s hs=>by
    rw [List.take_add_one] at hs;have e:l[i]? =some (rd l i):=by rw [Xy hi];exact List.getElem?_eq_getElem _
    rw [e] at hs;simp only [Option.toList_some,List.mem_append,List.mem_singleton] at hs;rcases hs with hs | rfl
    ·exact ht s hs
    ·exact q)
   refine ⟨n+1,?_⟩;rw [Zv,hs,q,cond_true];exact hn
  ·have hv:l.all Vw=false:=Bool.eq_false_iff.2 fun e=>by have:=List.all_eq_true.1 e (rd l i) (by rw [Xy hi];exact List.getElem_mem hi);rw [this] at q;cases q
   refine ⟨1,?_⟩;rw [Zv,hv,cond_false,hs,q,cond_false,Zm]
theorem v7n (l:List R4): ∃n,Yv (z4e l) n (z7m l)=.ret (bif decide (400<l.length) then [.nils,.int .i64 4] else bif l.all Vw then [.dat (Wp l).length (Zz (Wp l)),.int .i64 (z1b l)] else [.nils,.int .i64 8]):=by
 unfold z7m;by_cases h:400<l.length
 ·refine ⟨0,?_⟩;rw [decide_eq_true h,Yo (show (l.length:Int)>400 by omega)];rfl
 ·obtain ⟨n,hn⟩:=u3h l (by omega) l.length 0 (Nat.zero_add _) (fun s hs=>by simp at hs);refine ⟨n,?_⟩;rw [decide_eq_false h,Xp (show¬(l.length:Int)>400 by omega),cond_false,cond_false];exact hn
def Zb (l:List R4):List R4:=bif decide (400<l.length) then [] else bif l.all Vw then (bif decide (((D4.out l).length :Int)>400) then [] else D4.out l) else []
def Xc (l:List R4):Int:=bif decide (400<l.length) then 4 else bif l.all Vw then (bif decide (((D4.out l).length :Int)>400) then 4 else 0) else 8
def Uh (l:List R4):Bool:=true
theorem u8o (l:List R4) (h:Uh l=true): ∃n,Yv (z4e l) n (z7m l)=.ret (bif decide (400<l.length) then [.nils,.int .i64 4] else bif l.all Vw then [.dat (Zb l).length (Zz (Zb l)),.int .i64 (Xc l)] else [.nils,.int .i64 8]):=by
 obtain ⟨n,hn⟩:=v7n l;refine ⟨n,hn.trans ?_⟩;cases h1:decide (400<l.length) <;> cases h2:l.all Vw <;> simp only [cond_true,cond_false];have e0:Wp l=Zb l:=by unfold Wp u5k x2b y9x Zb;rw [h1,h2];cases decide (((D4.out l).length :Int)>400) <;> rfl
 have e1:z1b l=Xc l:=by unfold z1b u5k y9x Xc;rw [h1,h2];rfl
 rw [e0,e1]
def fRgm :List AVal→Option (AVal×Bool)
 | [a0]=>match asL R4 a0 with
  | some (L0,g0,n0)=>some (.tup [.dat (Zb L0).length (Zz (Zb L0)),.int .i64 (Xc L0)],isT R4 n0 g0&&(Uh L0))
  | _=>none
 | _=>none
theorem j1h {S:Specs} (hS:Zu prog S):Zu prog (S.with w2u fRgm):=by
 refine v3z hS (by kernel_rfl) fun args v h=> ?_;unfold fRgm at h;split at h
 ·rename_i a0;split at h
  ·rename_i L0 g0 n0 e0;simp only [Option.some.injEq,Prod.mk.injEq,Bool.and_eq_true] at h;obtain ⟨rfl,ho0,hw⟩:=h;obtain ⟨N,hN⟩:=u8o L0 hw;refine ⟨_,_,(.cons (asL_le e0 ho0) .nil),?_,v7o L0 N _ hN,3,?_⟩
   ·cases h1:decide (400<L0.length) <;> cases h2:L0.all Vw <;> simp only [Zb,Xc,h1,h2,cond_true,cond_false]
    ·exact fun ρ u hu=>z5s (.cons (z6l R4) (RLe.refl _)) ρ u hu
    ·exact fun ρ u hu=>hu
    ·exact fun ρ u hu=>z5s (.cons (z6l R4) (RLe.refl _)) ρ u hu
    ·exact fun ρ u hu=>z5s (.cons (z6l R4) (RLe.refl _)) ρ u hu
   ·cases decide (400<L0.length) <;> cases L0.all Vw <;> rfl
  ·cases h
 ·cases h
def T7 :Specs:=(T6m.with w2u fRgm)
theorem x5y :Zu prog T7:=(j1h y6o)
end Go.Am
namespace Go.Am
open Go.Proofs.Tryz
open Go.Proofs
inductive vl6S where
def vl6C (aM:Int) (aL:Int) (aN:Int) (aV:Int) (bF:Int) (bG:Int):vl6S→Cfg
 :=nofun
def x6f (aM:Int) (aL:Int) (aN:Int) (aV:Int) (bF:Int) (bG:Int):vl6S→Xb vl6S
 :=nofun
def y1z (aM:Int) (aL:Int) (aN:Int) (aV:Int) (bF:Int) (bG:Int):Xb vl6S:=(bif (decide (aM<aV)) then (bif (decide (aL<bF)) then (bif (decide (aN<bG)) then (bif (decide ((Vm (Vm aM aL) aN)≥(-1000000))) then (bif (decide ((Vg (Vg aM aL) aN)≤1000000)) then (bif (decide ((Vm (Vm aV bF) bG)≥(-1000000))) then (.ret [(.bool (decide ((Vg (Vg aV bF) bG)≤1000000)))]) else (.ret [(.bool false)])) else (.ret [(.bool false)])) else (.ret [(.bool false)])) else (.ret [(.bool false)])) else (.ret [(.bool false)])) else (.ret [(.bool false)]))
theorem w4k (aM:Int) (aL:Int) (aN:Int) (aV:Int) (bF:Int) (bG:Int): ∀s,Xv prog (Zy prog 94) (vl6C aM aL aN aV bF bG) (vl6C aM aL aN aV bF bG s) (x6f aM aL aN aV bF bG s)
 :=nofun
theorem x6g (aM:Int) (aL:Int) (aN:Int) (aV:Int) (bF:Int) (bG:Int):Xv prog (Zy prog 94) (vl6C aM aL aN aV bF bG) (Zc prog 94 [(.agg [(.int .i64 aM),(.int .i64 aL),(.int .i64 aN),(.int .i64 aV),(.int .i64 bF),(.int .i64 bG)])] true []) (y1z aM aL aN aV bF bG):=(lb (fun k0=>(lb (fun k1=>(lb (fun k2=>(lb (fun k3=>(lb (fun k4=>(lb (fun k5=>(lr 38 3 [1,1,1,1,1,1,1,0] 1 3 [(2,(.bool (decide ((Vg (Vg aV bF) bG)≤1000000))))] (sl x5y 100 [] ⟨[],[],[some [2]],[]⟩ ⟨[],[],[]⟩ (trs 36 []) (tt k5 (tt k4 (tt k3 (tt k2 (tt k1 (tt k0 nn))))))))) (fun k5=>(lr 38 3 [1,1,1,1,1,1,1,0] 1 3 [(2,(.bool false))] (sl x5y 100 [] ⟨[],[],[some [2]],[]⟩ ⟨[],[],[]⟩ (trs 28 [false,false,false,false,false,false,false,false]) (tt k5 (tt k4 (tt k3 (tt k2 (tt k1 (tt k0 nn))))))))))) (fun k4=>(lr 38 3 [1,1,1,1,1,1,1,0] 1 3 [(2,(.bool false))] (sl x5y 72 [] ⟨[],[],[some [2]],[]⟩ ⟨[],[],[]⟩ (trs 25 [false,false,false]) (tt k4 (tt k3 (tt k2 (tt k1 (tt k0 nn)))))))))) (fun k3=>(lr 38 3 [1,1,1,1,1,1,1,0] 1 3 [(2,(.bool false))] (sl x5y 72 [] ⟨[],[],[some [2]],[]⟩ ⟨[],[],[]⟩ (trs 17 [false,false,false,false,false,false,false,false,false,false,false]) (tt k3 (tt k2 (tt k1 (tt k0 nn))))))))) (fun k2=>(lr 38 3 [1,1,1,1,1,1,1,0] 1 3 [(2,(.bool false))] (sl x5y 44 [] ⟨[],[],[some [2]],[]⟩ ⟨[],[],[]⟩ (trs 14 [false,false,false,false,false,false]) (tt k2 (tt k1 (tt k0 nn)))))))) (fun k1=>(lr 38 3 [1,1,1,1,1,1,1,0] 1 3 [(2,(.bool false))] (sl x5y 44 [] ⟨[],[],[some [2]],[]⟩ ⟨[],[],[]⟩ (trs 7 [false,false,false,false,false,false,false,false,false,false,false,false,false]) (tt k1 (tt k0 nn))))))) (fun k0=>(lr 38 3 [1,1,1,1,1,1,1,0] 1 3 [(2,(.bool false))] (sl x5y 44 [] ⟨[],[],[some [2]],[]⟩ ⟨[],[],[]⟩ [false,false,false,false,false,false,false,false,false,false,false,false,false,false,false,false,false,false,false,false] (tt k0 nn)))))
theorem v6d (aM:Int) (aL:Int) (aN:Int) (aV:Int) (bF:Int) (bG:Int) (n:Nat) (vs:List AVal) (h:Yv (x6f aM aL aN aV bF bG) n (y1z aM aL aN aV bF bG)=.ret vs):Jt prog (Zy prog 94) (Zc prog 94 [(.agg [(.int .i64 aM),(.int .i64 aL),(.int .i64 aN),(.int .i64 aV),(.int .i64 bF),(.int .i64 bG)])] true []) vs:=by have:=Ze (w4k aM aL aN aV bF bG) n _ (x6g aM aL aN aV bF bG);rwa [h] at this
end Go.Am
namespace Go.Am
open Go.Proofs.Tryz
open Go.Proofs
open Go.Sort Go.Shelf Go.RowKit Go.Lib
def Ko (r:R6):Bool:=decide (r.a<r.d)&&(decide (r.b<r.e)&&(decide (r.c<r.f)&&(decide ((Vm (Vm r.a r.b) r.c)≥(-1000000))&&(decide ((Vg (Vg r.a r.b) r.c)≤1000000)&&(decide ((Vm (Vm r.d r.e) r.f)≥(-1000000))&&decide ((Vg (Vg r.d r.e) r.f)≤1000000))))))
def u6i (a b c d e f:Int):Bool:=Ko ⟨a,b,c,d,e,f⟩
theorem u6h (a b c d e f:Int): ∃N,Yv (x6f a b c d e f) N (y1z a b c d e f)=.ret [.bool (u6i a b c d e f)]:=⟨0,by
 unfold y1z u6i Ko;simp only [y6a];cases decide (a<d) <;> cases decide (b<e) <;> cases decide (c<f) <;> cases decide ((Vm (Vm a b) c)≥(-1000000)) <;> cases decide ((Vg (Vg a b) c)≤1000000) <;> cases decide ((Vm (Vm d e) f)≥(-1000000)) <;> rfl⟩
def fVl6 :List AVal→Option (AVal×Bool)
 | [.agg [.int .i64 aM,.int .i64 aL,.int .i64 aN,.int .i64 aV,.int .i64 bF,.int .i64 bG]]=>some (.bool (u6i aM aL aN aV bF bG),true)
 | _=>none
theorem j0x {S:Specs} (hS:Zu prog S):Zu prog (S.with w2r fVl6):=by
 refine z2d hS (by kernel_rfl) fun args v h=> ?_;unfold fVl6 at h;split at h
 ·rename_i aM aL aN aV bF bG;simp only [Option.some.injEq,Prod.mk.injEq,and_true] at h;subst h;obtain ⟨N,hN⟩:=u6h aM aL aN aV bF bG;exact ⟨_,_,(.cons (.refl _) .nil),rfl,v6d aM aL aN aV bF bG N _ hN,3,rfl⟩
 ·cases h
def T7v :Specs:=(T7.with w2r fVl6)
theorem Vd :Zu prog T7v:=(j0x x5y)
end Go.Am
namespace Go.Am
open Go.Proofs.Tryz
open Go.Proofs
inductive sckS where
 | h0 (v8:Int)
 | h1 (v16:Int) (aA:List Int)
 | h2 (v4:Int) (aG:List R6) (aS:List R4) (bC:Int) (bD:Int) (aE:Nat) (aH:List Int)
 | h3 (v4:Int) (v38:Int) (aG:List R6) (aS:List R4) (bC:Int) (bD:Int) (aE:Nat) (aH:List Int) (aR:Int) (bE:Int) (aB:List R4)
 | h4 (v1:Int) (v2:Int) (v72:List R4) (v73:Int) (v74:Int) (bL:List R4) (aU:Int) (aD:List R6) (aZ:List R4) (bA:Int) (aE:Nat) (aH:List Int) (aR:List R4)
 | h5 (v2:Int) (v8:Int) (cE:Int) (bL:List R4) (aU:Int) (aD:List R6) (aZ:List R4) (bA:Int) (bX:Int) (bK:Nat) (bT:List Int) (aB:List R4)
abbrev y8b (aD:List R6) (v8:Int) (v2:Int):=(aD.set (0+(tn v8)) (R6.mk (rd aD (0+(tn v8))).a (rd aD (0+(tn v8))).b (rd aD (0+(tn v8))).c (rd aD (0+(tn v8))).d (rd aD (0+(tn v8))).e v2))
def w9u (l0:List R6):AFr:=⟨⟨25,0,true⟩,(Jk prog 51 [1,1,1,0,0] 3),(Zd prog 51 [1,1,1,0,0] 1),none,(Zy prog 3),Yd [(0,(.dat l0.length (Zz l0))),(11,(.agg [.nilf])),(13,(.sl 8 0 1 (.un 1)))]⟩
abbrev y8a (aA:List Int):=(Wh (Yw aA.length (cOf (Zz (Xm (Yw aA.length (cOf (Zz aA))))))))
abbrev y7z (aB:List R4) (l0:List R6) (v38:Int):=(aB++[(R4.mk (rd l0 (tn v38)).a (rd l0 (tn v38)).b (rd l0 (tn v38)).d (rd l0 (tn v38)).e)])
abbrev y7y (aD:List R6) (v72:List R4) (v74:Int) (v1:Int) (v2:Int):=(aD++[(R6.mk (rd v72 (tn v74)).a (rd v72 (tn v74)).b v1 (rd v72 (tn v74)).c (rd v72 (tn v74)).d v2)])
def u2q :=(y7a [(0,⟨.ready,none,65,Yd [(2,(.ptr 1 0)),(4,(.ptr 2 0)),(5,(.ptr 3 0)),(6,(.ptr 4 0))],[15],(Vn prog 95 [1,1,0,1,0,0]),(Vn prog 95 [1,1,0,1,0,1])⟩)])
def z1p (l0:List R6):AVal:=(.dat l0.length (Zz l0))
def u2p :AFr:=⟨⟨65,0,true⟩,none,(.inRangeFunc 0::(Zd prog 95 [1,1,0,1,0] 1)),none,(Zy prog 95),Yd [(4,(.ptr 2 0)),(5,(.ptr 3 0)),(6,(.ptr 4 0))]⟩
abbrev y7x (aA:List Int) (l0:List R6) (v16:Int):=(aA++[(rd l0 (tn v16)).c,(rd l0 (tn v16)).f])
def sckC (l0:List R6):sckS→Cfg
 | .h0 v8=>⟨⟨19,0,true⟩,none,(Zd prog 133 [1,0,1,0,0] 0),none,(Zy prog 5),⟨Yd [(0,(z1p l0)),(1,(.fn 98 [])),(7,(ii (l0.length:Int))),(8,(ii v8))],Uw [] 0,0,[],true⟩,[⟨⟨9,0,true⟩,(Jk prog 89 [1,0] 2),(Zd prog 89 [1,0] 1),none,(Zy prog 5),Yd [(5,(z1p l0)),(6,(.fn 98 []))]⟩,⟨⟨25,0,true⟩,(Jk prog 51 [1,1,0,0] 1),(Zd prog 51 [1,1,0,0] 1),none,(Zy prog 3),Yd [(0,(z1p l0)),(8,(z1p l0))]⟩],.leaf⟩
 | .h1 v16 aA=>⟨⟨36,0,true⟩,none,(Zd prog 136 [1,1,0,1,0,0,1,1,0,0,1,1,0,0] 0),none,(Zy prog 3),⟨Yd [(1,(.ptr 0 0)),(3,(.ptr 2 0)),(8,(.sl 1 0 1 (.un 1))),(9,(ii 1)),(10,(ii 0)),(14,(z1p l0)),(15,(ii (l0.length:Int))),(16,(ii v16))],Uw [⟨[(.sl 1 0 1 (.un 1))],166,none⟩,⟨[(z1p l0)],22,none⟩,⟨[(.sla 7 1 0 aA.length (.un 1))],93,none⟩,⟨[.nilf],117,none⟩,⟨[.nils],38,none⟩,⟨[(ii 0)],26,none⟩,⟨[.nils,.nils,(ii 0),(ii 0)],168,none⟩,⟨rows aA.length (Zz aA),3,some ⟨1,aA.length,(Zz aA)⟩⟩] 0,8,[],true⟩,[⟨⟨65,0,true⟩,(Jk prog 95 [1,1,0,0] 1),(Zd prog 95 [1,1,0,0] 1),none,(Zy prog 95),Yd [(2,(.ptr 3 0)),(4,(.ptr 4 0)),(5,(.ptr 5 0)),(6,(.ptr 6 0)),(13,(.sl 1 0 1 (.un 1)))]⟩,⟨⟨25,0,true⟩,(Jk prog 51 [1,1,1,0,0] 3),(Zd prog 51 [1,1,1,0,0] 1),none,(Zy prog 3),Yd [(0,(z1p l0)),(11,(.agg [.nilf])),(13,(.sl 1 0 1 (.un 1)))]⟩],.leaf⟩
 | .h2 v4 aG aS bC bD aE aH=>⟨⟨86,0,true⟩,none,(Zd prog 171 [1,0,0] 0),none,[],⟨Yd [(0,(.yld 0)),(1,(.ptr 5 0)),(2,(.ptr 7 0)),(4,(ii v4))],y1b [(1,⟨[.nilf],117,none⟩),(2,⟨[.nils],38,none⟩),(3,⟨[(ii 0)],26,none⟩),(4,⟨[(.sla 9 6 0 aG.length (.un 6)),(.dat aS.length (Zz aS)),(ii bC),(ii bD)],168,none⟩),(5,⟨[(.sla 6 1 0 aE (.un 1))],93,none⟩),(6,⟨rows aH.length (Zz aH),3,some ⟨1,aH.length,(Zz aH)⟩⟩),(7,⟨[(.sl 8 0 1 (.un 1))],166,none⟩),(8,⟨[(z1p l0)],22,none⟩),(9,⟨rows aG.length (Zz aG),67,some ⟨6,aG.length,(Zz aG)⟩⟩)],10,[],true⟩,[u2p,(w9u l0)],u2q⟩
 | .h3 v4 v38 aG aS bC bD aE aH aR bE aB=>⟨⟨86,0,true⟩,none,(Zd prog 171 [1,0,0,1,0,0,1,0,1,0,0,1,1,0,0,1,1,0,0] 0),none,[],⟨Yd [(0,(.yld 0)),(1,(.ptr 5 0)),(2,(.ptr 7 0)),(4,(ii v4)),(5,(.ptr 9 0)),(6,(ii 0)),(29,(.sl 8 0 1 (.un 1))),(30,(ii 1)),(31,(ii 0)),(36,(z1p l0)),(37,(ii (l0.length:Int))),(38,(ii v38))],y1b [(1,⟨[.nilf],117,none⟩),(2,⟨[.nils],38,none⟩),(3,⟨[(ii 0)],26,none⟩),(4,⟨[(.sla 12 6 0 aG.length (.un 6)),(.dat aS.length (Zz aS)),(ii bC),(ii bD)],168,none⟩),(5,⟨[(.sla 6 1 0 aE (.un 1))],93,none⟩),(6,⟨rows aH.length (Zz aH),3,some ⟨1,aH.length,(Zz aH)⟩⟩),(7,⟨[(.sl 8 0 1 (.un 1))],166,none⟩),(8,⟨[(z1p l0)],22,none⟩),(9,⟨[(ii aR),(ii bE),(.sl 10 0 1 (.ex 1))],173,none⟩),(10,⟨[(.sla 11 4 0 aB.length (.un 4))],99,none⟩),(11,⟨rows aB.length (Zz aB),88,some ⟨4,aB.length,(Zz aB)⟩⟩),(12,⟨rows aG.length (Zz aG),67,some ⟨6,aG.length,(Zz aG)⟩⟩)],13,[],true⟩,[u2p,(w9u l0)],u2q⟩
 | .h4 v1 v2 v72 v73 v74 bL aU aD aZ bA aE aH aR=>⟨⟨101,0,true⟩,none,(Zd prog 137 [1,1,1,0,0] 0),none,[],⟨Yd [(0,(.ptr 0 0)),(1,(ii v1)),(2,(ii v2)),(72,(.dat v72.length (Zz v72))),(73,(ii v73)),(74,(ii v74))],y1b [(0,⟨[(.sla 10 6 0 aD.length (.un 6)),(.dat aZ.length (Zz aZ)),(ii bA),(ii v2)],168,none⟩),(2,⟨[.nilf],117,none⟩),(3,⟨[.nils],38,none⟩),(4,⟨[(ii 0)],26,none⟩),(5,⟨[(.sla 6 1 0 aE (.un 1))],93,none⟩),(6,⟨rows aH.length (Zz aH),3,some ⟨1,aH.length,(Zz aH)⟩⟩),(7,⟨[(.sl 8 0 1 (.un 1))],166,none⟩),(8,⟨[(z1p l0)],22,none⟩),(9,⟨[(.dat aR.length (Zz aR))],99,none⟩),(10,⟨rows aD.length (Zz aD),67,some ⟨6,aD.length,(Zz aD)⟩⟩)],11,[],true⟩,[⟨⟨65,0,true⟩,(Jk prog 95 [1,1,0,1,0,1,0,1,1,1] 5),(Zd prog 95 [1,1,0,1,0,1,0,1,1,1] 1),(some 1),[],Yd [(6,(.ptr 0 0)),(54,(ii v1)),(56,(ii v2)),(57,(.dat bL.length (Zz bL)))]⟩,⟨⟨86,0,true⟩,(Jk prog 171 [1,0,0,1,0,0,1,1,0] 2),(Zd prog 171 [1,0,0,1,0,0,1,1,0] 1),none,[],Yd [(0,(.yld 1)),(1,(.ptr 5 0)),(2,(.ptr 7 0)),(4,(ii aU)),(82,(.yld 1)),(83,(.agg [(ii v1),(ii v2),(.sl 9 0 1 (.ex 1))]))]⟩,⟨⟨65,0,true⟩,none,(.inRangeFunc 1::(Zd prog 95 [1,1,0,1,0] 1)),none,(Zy prog 95),Yd [(4,(.ptr 3 0)),(5,(.ptr 4 0)),(6,(.ptr 0 0))]⟩,(w9u l0)],(y7a [(1,⟨.busy,none,65,Yd [(2,(.ptr 2 0)),(4,(.ptr 3 0)),(5,(.ptr 4 0)),(6,(.ptr 0 0))],[15],(Vn prog 95 [1,1,0,1,0,0]),(Vn prog 95 [1,1,0,1,0,1])⟩)])⟩
 | .h5 v2 v8 cE bL aU aD aZ bA bX bK bT aB=>⟨⟨101,0,true⟩,none,(Zd prog 137 [0,1,0,0,1,0,0] 0),none,[],⟨Yd [(0,(.ptr 0 0)),(2,(ii v2)),(8,(ii v8))],y1b [(0,⟨[(.sla 1 6 0 aD.length (.un 6)),(.dat aZ.length (Zz aZ)),(ii bA),(ii bX)],168,none⟩),(1,⟨rows aD.length (Zz aD),67,some ⟨6,aD.length,(Zz aD)⟩⟩),(3,⟨[.nilf],117,none⟩),(4,⟨[.nils],38,none⟩),(5,⟨[(ii 0)],26,none⟩),(6,⟨[(.sla 7 1 0 bK (.un 1))],93,none⟩),(7,⟨rows bT.length (Zz bT),3,some ⟨1,bT.length,(Zz bT)⟩⟩),(8,⟨[(.sl 9 0 1 (.un 1))],166,none⟩),(9,⟨[(z1p l0)],22,none⟩),(10,⟨[(.dat aB.length (Zz aB))],99,none⟩)],11,[],true⟩,[⟨⟨65,0,true⟩,(Jk prog 95 [1,1,0,1,0,1,0,1,1,1] 5),(Zd prog 95 [1,1,0,1,0,1,0,1,1,1] 1),(some 2),[],Yd [(6,(.ptr 0 0)),(54,(ii cE)),(56,(ii v2)),(57,(.dat bL.length (Zz bL)))]⟩,⟨⟨86,0,true⟩,(Jk prog 171 [1,0,0,1,0,0,1,1,0] 2),(Zd prog 171 [1,0,0,1,0,0,1,1,0] 1),none,[],Yd [(0,(.yld 2)),(1,(.ptr 6 0)),(2,(.ptr 8 0)),(4,(ii aU)),(82,(.yld 2)),(83,(.agg [(ii cE),(ii v2),(.sl 10 0 1 (.ex 1))]))]⟩,⟨⟨65,0,true⟩,none,(.inRangeFunc 2::(Zd prog 95 [1,1,0,1,0] 1)),none,(Zy prog 95),Yd [(4,(.ptr 4 0)),(5,(.ptr 5 0)),(6,(.ptr 0 0))]⟩,⟨⟨25,0,true⟩,(Jk prog 51 [1,1,1,0,0] 3),(Zd prog 51 [1,1,1,0,0] 1),none,(Zy prog 3),Yd [(0,(z1p l0)),(11,(.agg [.nilf])),(13,(.sl 9 0 1 (.un 1)))]⟩],(y7a [(2,⟨.busy,none,65,Yd [(2,(.ptr 3 0)),(4,(.ptr 4 0)),(5,(.ptr 5 0)),(6,(.ptr 0 0))],[15],(Vn prog 95 [1,1,0,1,0,0]),(Vn prog 95 [1,1,0,1,0,1])⟩)])⟩
def sckN0 :List (Option (List Nat)):=[some [0,1,7,8],some [5,6],some [0,8]]
def sckM0 :List (Option (List Nat)):=[]
def u7q :List (Option (List Nat)):=[some [1,3,8,9,10,14,15,16],some [2,4,5,6,13],some [0,11,13]]
def u7s :List (Option (List Nat)):=[]
def u7p :List (Option (List Nat)):=[some [0,1,2,4],some [4,5,6],some [0,11,13]]
def u7r :List (Option (List Nat)):=[some [2,4,5,6],none,none,none,none,none,none,none,none,none]
def v6v :List (Option (List Nat)):=[some [0,1,2,4,5,6,29,30,31,36,37,38],some [4,5,6],some [0,11,13]]
def v6x :List (Option (List Nat)):=[some [2,4,5,6],none,none,none,none,none,none,none,none,none,none,none,none]
def v6u :List (Option (List Nat)):=[some [0,1,2,72,73,74],some [6,54,56,57],some [0,1,2,4,82,83],some [4,5,6],some [0,11,13]]
def v6w :List (Option (List Nat)):=[none,some [2,4,5,6],none,none,none,none,none,none,none,none,none]
def sckN5 :List (Option (List Nat)):=[some [0,2,8],some [6,54,56,57],some [0,1,2,4,82,83],some [4,5,6],some [0,11,13]]
def sckM5 :List (Option (List Nat)):=[none,none,some [2,4,5,6],none,none,none,none,none,none,none,none]
def Xk (l0:List R6):sckS→Xb sckS
 | .h0 v8=>(bif (decide (v8<(l0.length:Int))) then (bif ((decide (0≤v8∧v8<(l0.length:Int)))&&true) then (bif (!(u6i (rd l0 v8.toNat).a (rd l0 v8.toNat).b (rd l0 v8.toNat).c (rd l0 v8.toNat).d (rd l0 v8.toNat).e (rd l0 v8.toNat).f)) then (bif (decide (v8≥0)) then (.ret [(.int .i64 8)]) else (.to (.h1 0 ([]:List Int)))) else (.to (.h0 (IntKind.wrap .i64 (v8+1))))) else .stuck) else (.to (.h1 0 ([]:List Int))))
 | .h1 v16 aA=>(bif (decide (v16<(l0.length:Int))) then (bif ((decide (0≤v16∧v16<(l0.length:Int)))&&true) then (bif (Nat.beq 1 1&&((decide (0+aA.length=aA.length))&&decide ((aA.length+2+1)*(8+1)≤Ju))) then (.to (.h1 (IntKind.wrap .i64 (v16+1)) (aA++[(rd l0 v16.toNat).c,(rd l0 v16.toNat).f]))) else .stuck) else .stuck) else (bif (decide (aA.length<4611686018427387904)) then (bif (decide (aA.length=aA.length)) then (.to (.h2 1 ([]:List R6) ([]:List R4) 0 0 (w8q (Yw aA.length (cOf (Zz (Xm (Yw aA.length (cOf (Zz aA)))))))) (Wh (Yw aA.length (cOf (Zz (Xm (Yw aA.length (cOf (Zz aA)))))))))) else .stuck) else .stuck))
 | .h2 v4 aG aS bC bD aE aH=>(bif (decide (v4<((aE:Nat):Int))) then (bif ((decide (0≤(IntKind.wrap .i64 (v4 - 1))∧(IntKind.wrap .i64 (v4 - 1))<((aE:Nat):Int)))&&true) then (bif (decide ((0+(Int.toNat (IntKind.wrap .i64 (v4 - 1))))<aH.length)) then (bif ((decide (0≤v4∧v4<((aE:Nat):Int)))&&true) then (bif (decide ((0+v4.toNat)<aH.length)) then (.to (.h3 v4 0 aG aS bC bD aE aH (rd aH (0+(Int.toNat (IntKind.wrap .i64 (v4 - 1))))) (rd aH (0+v4.toNat)) ([]:List R4))) else .stuck) else .stuck) else .stuck) else .stuck) else (bif (decide ((aG.length:Int)>400)) then (.ret [(.int .i64 8)]) else (bif (Nat.beq 6 6&&(decide (0+aG.length≤aG.length)&&Qq (Zz aG))) then (bif (Ve (lst R6 (aG.length) (fun k=>(Zz aG) (0+k))) (cvT l0)) then (bif (!(Kx (lst R6 (aG.length) (fun k=>(Zz aG) (0+k))) (cvT l0))) then (.ret [(.int .i64 8)]) else (.ret [(.int .i64 0)])) else .stuck) else .stuck)))
 | .h3 v4 v38 aG aS bC bD aE aH aR bE aB=>(bif (decide (v38<(l0.length:Int))) then (bif ((decide (0≤v38∧v38<(l0.length:Int)))&&true) then (bif (decide ((rd l0 v38.toNat).c ≤aR)) then (bif (decide (aR<(rd l0 v38.toNat).f)) then (bif (Nat.beq 4 4&&((decide (0+aB.length=aB.length))&&decide ((aB.length+1+1)*(32+1)≤Ju))) then (.to (.h3 v4 (IntKind.wrap .i64 (v38+1)) aG aS bC bD aE aH aR bE (aB++[(R4.mk (rd l0 v38.toNat).a (rd l0 v38.toNat).b (rd l0 v38.toNat).d (rd l0 v38.toNat).e)]))) else .stuck) else (.to (.h3 v4 (IntKind.wrap .i64 (v38+1)) aG aS bC bD aE aH aR bE aB))) else (.to (.h3 v4 (IntKind.wrap .i64 (v38+1)) aG aS bC bD aE aH aR bE aB))) else .stuck) else (bif (Uh (cvT aB)) then (bif ((Xc (cvT aB)) != 0) then (.ret [(.int .i64 8)]) else (bif (decide ((((Zb (cvT aB)).length :Nat):Int)>0)) then (bif (bD == aR) then (bif (Wb (cvT aS) (cvT (Zb (cvT aB)))) then (bif (Jv (cvT aS) (cvT (Zb (cvT aB)))) then (.to (.h5 bE bC aR (Zb (cvT aB)) v4 aG aS bC bD aE aH aB)) else (.to (.h4 aR bE (Zb (cvT aB)) (((Zb (cvT aB)).length :Nat):Int) 0 (Zb (cvT aB)) v4 aG (Zb (cvT aB)) (aG.length:Int) aE aH aB))) else .stuck) else (.to (.h4 aR bE (Zb (cvT aB)) (((Zb (cvT aB)).length :Nat):Int) 0 (Zb (cvT aB)) v4 aG (Zb (cvT aB)) (aG.length:Int) aE aH aB))) else (.to (.h4 aR bE (Zb (cvT aB)) (((Zb (cvT aB)).length :Nat):Int) 0 (Zb (cvT aB)) v4 aG (Zb (cvT aB)) (aG.length:Int) aE aH aB)))) else .stuck))
 | .h4 v1 v2 v72 v73 v74 bL aU aD aZ bA aE aH aR=>(bif (decide (v74<v73)) then (bif ((decide (0≤v74∧v74<(v72.length:Int)))&&true) then (bif (Nat.beq 6 6&&((decide (0+aD.length=aD.length))&&decide ((aD.length+1+1)*(48+1)≤Ju))) then (.to (.h4 v1 v2 v72 v73 (IntKind.wrap .i64 (v74+1)) bL aU (aD++[(R6.mk (rd v72 v74.toNat).a (rd v72 v74.toNat).b v1 (rd v72 v74.toNat).c (rd v72 v74.toNat).d v2)]) aZ bA aE aH aR)) else .stuck) else .stuck) else (.to (.h2 (IntKind.wrap .i64 (aU+1)) aD aZ bA v2 aE aH)))
 | .h5 v2 v8 cE bL aU aD aZ bA bX bK bT aB=>(bif (decide (v8<(aD.length:Int))) then (bif ((decide (0≤v8∧v8<(aD.length:Int)))&&true) then (bif (decide ((0+v8.toNat)<aD.length)) then (.to (.h5 v2 (IntKind.wrap .i64 (v8+1)) cE bL aU (aD.set (0+v8.toNat) (R6.mk (rd aD (0+v8.toNat)).a (rd aD (0+v8.toNat)).b (rd aD (0+v8.toNat)).c (rd aD (0+v8.toNat)).d (rd aD (0+v8.toNat)).e v2)) aZ bA bX bK bT aB)) else .stuck) else .stuck) else (.to (.h2 (IntKind.wrap .i64 (aU+1)) aD aZ bA v2 bK bT)))
def y2h (l0:List R6):Xb sckS:=(bif (decide ((l0.length:Int)>400)) then (.ret [(.int .i64 4)]) else (.to (.h0 0)))
theorem w5i (l0:List R6): ∀s,Xv prog (Zy prog 51) (sckC l0) (sckC l0 s) (Xk l0 s)
 | .h0 v8=>(lb (fun k0=>(lo fun aF=>(lb (fun k1=>(lb (fun k2=>(lr 25 51 [1,1,0,1,0,0] 1 3 [(2,(ii 8))] (sl Vd 53 [] ⟨[],[],[some [2]],[]⟩ ⟨[],[],[]⟩ (trs 3 []) (tt k2 (tt k1 (ww aF (tt k0 nn))))))) (fun k2=>(sl Vd 113 [(3,1,Zz ([]:List Int))] ⟨[6,1,7,2,3,4,5,8],[],u7q,u7s⟩ ⟨[],[.keep,.keep,.cells [.grow 7 1],.keep,.keep,.keep,.keep,.keep],[]⟩ (bl 4 11) (pp (fl ([]:List Int) nn) (tt k2 (tt k1 (ww aF (tt k0 nn))))))))) (fun k1=>(sl Vd 44 [] ⟨[],[],sckN0,sckM0⟩ ⟨[],[],[]⟩ (bl 2 1) (tt k1 (ww aF (tt k0 nn)))))))) (fun k0=>(sl Vd 82 [(3,1,Zz ([]:List Int))] ⟨[5,0,6,1,2,3,4,7],[],u7q,u7s⟩ ⟨[],[.keep,.keep,.cells [.grow 7 1],.keep,.keep,.keep,.keep,.keep],[]⟩ (bl 3 4) (pp (fl ([]:List Int) nn) (tt k0 nn)))))
 | .h1 v16 aA=>(lb (fun k0=>(lo fun o0=>(lo fun o1=>(sl Vd 34 [] ⟨[0,1,2,3,4,5,6,10],[],u7q,u7s⟩ ⟨[],[.keep,.keep,.cells [.len (y7x aA l0 v16).length],.keep,.keep,.keep,.keep,.rowed 1 (y7x aA l0 v16).length (Zz (y7x aA l0 v16))],[]⟩ [true] (pp (xL (aA.length+2) (y7x aA l0 v16).length) (pp (xL (aA.length+2) (y7x aA l0 v16).length) (pp (xS (aA.length+2) (Zi (Zz aA) 0 aA.length 1 [(ii (rd l0 (tn v16)).c),(ii (rd l0 (tn v16)).f)]) (Zz (y7x aA l0 v16))) (pp (pp (xF (Zi (Zz aA) 0 aA.length 1 [(ii (rd l0 (tn v16)).c),(ii (rd l0 (tn v16)).f)])) nn) (ww o1 (ww o0 (tt k0 nn))))))))))) (fun k0=>(lo fun o0=>(lo fun o1=>(sl Vd 46 [(67,6,Zz ([]:List R6))] ⟨[8,3,4,5,6,2,7,0,1,9],[],u7p,u7r⟩ ⟨[],(kpB 4 [.cells [.grow 9 6,.list 0 (Zz ([]:List R4)),.keep,.keep],.keep,.rowed 1 (y8a aA).length (Zz (y8a aA)),.keep,.keep,.keep]),[]⟩ (bl 2 0) (pp (xL aA.length (y8a aA).length (by first | exact z2a _ _ | exact Vy rfl)) (pp (xS aA.length (Zz (y8a aA)) (Zz (y8a aA))) (pp (fl (y8a aA) (fl ([]:List R6) nn)) (pp (pp (xG (Nat.beq 1 1)) (pp (xG (Nat.beq 1 1)) (pp (xG (Nat.beq 0 0)) (pp (xG (decide (aA.length=aA.length))) (pp (xG (isI (Zz (Xm (Yw aA.length (cOf (Zz aA))))))) (xG (decide (aA.length<4611686018427387904)))))))) (pp (pp (xG (Nat.beq 1 1)) (pp (xG (Nat.beq 1 1)) (pp (xG (Nat.beq 0 0)) (pp (xG (decide (aA.length=aA.length))) (pp (xG (isI (Zz aA))) (xG (decide (aA.length<4611686018427387904)))))))) (tt k0 nn)))))))))))
 | .h2 v4 aG aS bC bD aE aH=>(lb (fun k0=>(lo fun o0=>(lo fun o1=>(lo fun o2=>(lo fun o3=>(sl Vd 48 [(88,4,Zz ([]:List R4))] ⟨[0,1,2,3,4,5,6,7,8,10,11,12,9],[],v6v,v6x⟩ ⟨[],(kpB 10 [.cells [.grow 11 4],.keep,.keep]),[]⟩ (trs 3 []) (pp (fl aH (fl ([]:List R4) (fl aG nn))) (ww o3 (ww o2 (ww o1 (ww o0 (tt k0 nn)))))))))))) (fun k0=>(lb (fun k1=>(lr 25 51 [1,1,1,0,1,1,0,0] 1 3 [(2,(ii 8))] (sl Vd 50 [] ⟨[],[],[some [2]],[]⟩ ⟨[],[],[]⟩ (bl 7 126) (tt k1 (tt k0 nn))))) (fun k1=>(lo fun cG=>(lo fun dA=>(lb (fun k2=>(lr 25 51 [1,1,1,0,1,1,0,0] 1 3 [(2,(ii 8))] (sl Vd 53 [] ⟨[],[],[some [2]],[]⟩ ⟨[],[],[]⟩ (bl 7 64) (tt k2 (pp (pp (pp (xw cG) (pp nn nn)) (pp (xI R6 (aG.length) (fun k=>(Zz aG) (0+k))) (pp (xr l0) (xw dA)))) (tt k1 (tt k0 nn))))))) (fun k2=>(lr 25 3 [1,1,1,1,1,1,1,0] 1 3 [(2,(ii 0))] (sl Vd 54 [] ⟨[],[],[some [2]],[]⟩ ⟨[],[],[]⟩ (bl 7 0) (tt k2 (pp (pp (pp (xw cG) (pp nn nn)) (pp (xI R6 (aG.length) (fun k=>(Zz aG) (0+k))) (pp (xr l0) (xw dA)))) (tt k1 (tt k0 nn))))))))))))))
 | .h3 v4 v38 aG aS bC bD aE aH aR bE aB=>(lb (fun k0=>(lo fun aF=>(lb (fun k1=>(lb (fun k2=>(lo fun o0=>(sl Vd 41 [] ⟨[0,1,2,3,4,5,6,7,8,9,10,15,12],[],v6v,v6x⟩ ⟨[],(kpB 10 [.cells [.len (y7z aB l0 v38).length],.rowed 4 (y7z aB l0 v38).length (Zz (y7z aB l0 v38)),.keep]),[]⟩ (trs 8 []) (pp (xL (aB.length+1) (y7z aB l0 v38).length) (pp (xL (aB.length+1) (y7z aB l0 v38).length) (pp (xS (aB.length+1) (Zi (Zz aB) 0 aB.length 4 [(ii (rd l0 (tn v38)).a),(ii (rd l0 (tn v38)).b),(ii (rd l0 (tn v38)).d),(ii (rd l0 (tn v38)).e)]) (Zz (y7z aB l0 v38))) (pp (fl aH (pp (xF (Zi (Zz aB) 0 aB.length 4 [(ii (rd l0 (tn v38)).a),(ii (rd l0 (tn v38)).b),(ii (rd l0 (tn v38)).d),(ii (rd l0 (tn v38)).e)])) (fl aG nn))) (ww o0 (tt k2 (tt k1 (ww aF (tt k0 nn)))))))))))) (fun k2=>(sl Vd 41 [] ⟨(List.range 13),[],v6v,v6x⟩ ⟨[],[],[]⟩ (trs 7 [false]) (pp (fl aH (fl aB (fl aG nn))) (tt k2 (tt k1 (ww aF (tt k0 nn))))))))) (fun k1=>(sl Vd 41 [] ⟨(List.range 13),[],v6v,v6x⟩ ⟨[],[],[]⟩ (bl 8 1) (pp (fl aH (fl aB (fl aG nn))) (tt k1 (ww aF (tt k0 nn))))))))) (fun k0=>(Ws (sl Vd (C':=⟨⟨65,0,true⟩,(Jk prog 95 [1,1,0,1,0,1,0,0] 4),(Zd prog 95 [1,1,0,1,0,1,0,0] 1),(some 0),[],⟨Yd [(2,(.ptr 1 0)),(4,(.ptr 2 0)),(5,(.ptr 3 0)),(6,(.ptr 4 0)),(7,(.ptr 6 0)),(20,(.dat aB.length (Zz aB)))],y1b [(1,⟨[.nilf],117,none⟩),(2,⟨[.nils],38,none⟩),(3,⟨[(ii 0)],26,none⟩),(4,⟨[(.sla 5 6 0 aG.length (.un 6)),(.dat aS.length (Zz aS)),(ii bC),(ii bD)],168,none⟩),(5,⟨rows aG.length (Zz aG),67,some ⟨6,aG.length,(Zz aG)⟩⟩),(6,⟨[(ii aR),(ii bE),(.sl 7 0 1 (.ex 1))],173,none⟩),(7,⟨[(.dat aB.length (Zz aB))],99,none⟩),(8,⟨[(.sla 9 1 0 aE (.un 1))],93,none⟩),(9,⟨rows aH.length (Zz aH),3,some ⟨1,aH.length,(Zz aH)⟩⟩),(10,⟨[(.sl 11 0 1 (.un 1))],166,none⟩),(11,⟨[(.dat l0.length (Zz l0))],22,none⟩)],12,[],true⟩,[⟨⟨86,0,true⟩,(Jk prog 171 [1,0,0,1,0,0,1,1,0] 2),(Zd prog 171 [1,0,0,1,0,0,1,1,0] 1),none,[],Yd [(0,(.yld 0)),(1,(.ptr 8 0)),(2,(.ptr 10 0)),(4,(ii v4)),(82,(.yld 0)),(83,(.agg [(ii aR),(ii bE),(.sl 7 0 1 (.ex 1))]))]⟩,⟨⟨65,0,true⟩,none,(.inRangeFunc 0::(Zd prog 95 [1,1,0,1,0] 1)),none,(Zy prog 95),Yd [(4,(.ptr 2 0)),(5,(.ptr 3 0)),(6,(.ptr 4 0))]⟩,⟨⟨25,0,true⟩,(Jk prog 51 [1,1,1,0,0] 3),(Zd prog 51 [1,1,1,0,0] 1),none,(Zy prog 3),Yd [(0,(.dat l0.length (Zz l0))),(11,(.agg [.nilf])),(13,(.sl 11 0 1 (.un 1)))]⟩],(y7a [(0,⟨.busy,none,65,Yd [(2,(.ptr 1 0)),(4,(.ptr 2 0)),(5,(.ptr 3 0)),(6,(.ptr 4 0))],[15],(Vn prog 95 [1,1,0,1,0,0]),(Vn prog 95 [1,1,0,1,0,1])⟩)])⟩) 37 [] ⟨[0,1,2,3,4,12,13,10,5,6,7,8],[11],[some [2,4,5,6,7,20],some [0,1,2,4,82,83],some [4,5,6],some [0,11,13]],[some [2,4,5,6],none,none,none,none,none,none,none,none,none,none,none]⟩ ⟨[(20,.frz aB.length aB.length (Zz aB) (Zz aB))],[.keep,.keep,.keep,.keep,.keep,.keep,.keep,.cells [.frz aB.length aB.length (Zz aB) (Zz aB)],.keep,.keep,.keep,.keep],[]⟩ (bl 2 0) (pp (xZ (z6q 4 4 0 aB.length aB.length (Zz aB)) aB.length (Zz aB)) (pp (xL aB.length aB.length) (pp (xS aB.length (Zz aB) (Zz aB)) (pp (xZ (z6q 4 4 0 aB.length aB.length (Zz aB)) aB.length (Zz aB)) (pp (xL aB.length aB.length) (pp (xS aB.length (Zz aB) (Zz aB)) (pp (fl aG (fl aH nn)) (pp (fl aB nn) (tt k0 nn)))))))))) (lo fun aF=>(lb (fun k1=>(lr 25 51 [1,1,1,0,1,1,0,0] 1 3 [(2,(ii 8))] (sl Vd 67 [] ⟨[],[],[some [2]],[]⟩ ⟨[],[],[]⟩ (bl 8 254) (tt k1 (tt k1 (pp (pp (xr aB) (xw aF)) nn)))))) (fun k1=>(lb (fun k2=>(lb (fun k3=>(lo fun cC=>(lb (fun k4=>(sl Vd 75 [] ⟨[4,5,0,1,2,3,8,9,10,11,7],[],sckN5,sckM5⟩ ⟨[],[],[]⟩ (bl 15 32764) (pp (fl aG (fl aH nn)) (tt k4 (pp (pp (xr aS) (pp (xI R4 (Zb (cvT aB)).length (Zz (Zb (cvT aB)))) (xw cC))) (tt k3 (tt k2 (tt k1 (pp (pp (xr aB) (xw aF)) nn))))))))) (fun k4=>(sl Vd 95 [] ⟨[4,0,1,2,3,8,9,10,11,7,5],[],v6u,v6w⟩ ⟨[],[],[]⟩ (bl 15 16380) (pp (fl aH (fl aG nn)) (tt k4 (pp (pp (xr aS) (pp (xI R4 (Zb (cvT aB)).length (Zz (Zb (cvT aB)))) (xw cC))) (tt k3 (tt k2 (tt k1 (pp (pp (xr aB) (xw aF)) nn)))))))))))) (fun k3=>(sl Vd 95 [] ⟨[4,0,1,2,3,8,9,10,11,7,5],[],v6u,v6w⟩ ⟨[],[],[]⟩ (bl 15 252) (pp (fl aH (fl aG nn)) (tt k3 (tt k2 (tt k1 (pp (pp (xr aB) (xw aF)) nn))))))))) (fun k2=>(sl Vd 95 [] ⟨[4,0,1,2,3,8,9,10,11,7,5],[],v6u,v6w⟩ ⟨[],[],[]⟩ (bl 15 0) (pp (fl aH (fl aG nn)) (tt k2 (tt k1 (pp (pp (xr aB) (xw aF)) nn)))))))))))))
 | .h4 v1 v2 v72 v73 v74 bL aU aD aZ bA aE aH aR=>(lb (fun k0=>(lo fun o0=>(lo fun o1=>(sl Vd 23 [] ⟨[0,1,2,3,4,5,6,7,8,9,13],[],v6u,v6w⟩ ⟨[],[.cells [.len (y7y aD v72 v74 v1 v2).length,.keep,.keep,.keep],.keep,.keep,.keep,.keep,.keep,.keep,.keep,.keep,.keep,.rowed 6 (y7y aD v72 v74 v1 v2).length (Zz (y7y aD v72 v74 v1 v2))],[]⟩ [true] (pp (xL (aD.length+1) (y7y aD v72 v74 v1 v2).length) (pp (xL (aD.length+1) (y7y aD v72 v74 v1 v2).length) (pp (xS (aD.length+1) (Zi (Zz aD) 0 aD.length 6 [(ii (rd v72 (tn v74)).a),(ii (rd v72 (tn v74)).b),(ii v1),(ii (rd v72 (tn v74)).c),(ii (rd v72 (tn v74)).d),(ii v2)]) (Zz (y7y aD v72 v74 v1 v2))) (pp (fl aH (pp (xF (Zi (Zz aD) 0 aD.length 6 [(ii (rd v72 (tn v74)).a),(ii (rd v72 (tn v74)).b),(ii v1),(ii (rd v72 (tn v74)).c),(ii (rd v72 (tn v74)).d),(ii v2)])) nn)) (ww o1 (ww o0 (tt k0 nn))))))))))) (fun k0=>(sl Vd 22 [] ⟨[1,2,3,4,0,5,6,7,8,10],[],u7p,u7r⟩ ⟨[],[],[]⟩ (bl 2 0) (pp (fl aH (fl aD nn)) (tt k0 nn)))))
 | .h5 v2 v8 cE bL aU aD aZ bA bX bK bT aB=>(lb (fun k0=>(lo fun o0=>(lo fun o1=>(sl Vd 34 [] ⟨(List.range 11),[],sckN5,sckM5⟩ ⟨[],[.cells [.len (y8b aD v8 v2).length,.keep,.keep,.keep],.rowed 6 (y8b aD v8 v2).length (Zz (y8b aD v8 v2)),.keep,.keep,.keep,.keep,.keep,.keep,.keep,.keep,.keep],[]⟩ [true] (pp (xL aD.length (y8b aD v8 v2).length) (pp (xL aD.length (y8b aD v8 v2).length) (pp (xS aD.length (Xi (Zz aD) (0+(tn v8)) 5 [(ii v2)]) (Zz (y8b aD v8 v2))) (pp (pp (xF (Xi (Zz aD) (0+(tn v8)) 5 [(ii v2)])) (fl bT nn)) (ww o1 (ww o0 (tt k0 nn))))))))))) (fun k0=>(sl Vd 36 [] ⟨[2,3,4,5,0,6,7,8,9,1],[],u7p,u7r⟩ ⟨[],[],[]⟩ (bl 2 0) (pp (fl bT (fl aD nn)) (tt k0 nn)))))
theorem x6z (l0:List R6):Xv prog (Zy prog 51) (sckC l0) (Zc prog 51 [(.dat l0.length (Zz l0))] true []) (y2h l0):=(lb (fun k0=>(lr 25 51 [1,0,1,0,0] 1 3 [(2,(ii 4))] (sl Vd 16 [] ⟨[],[],[some [2]],[]⟩ ⟨[],[],[]⟩ [true] (tt k0 nn)))) (fun k0=>(sl Vd 40 [] ⟨[],[],sckN0,sckM0⟩ ⟨[],[],[]⟩ [false] (tt k0 nn))))
theorem v6t (l0:List R6) (n:Nat) (vs:List AVal) (h:Yv (Xk l0) n (y2h l0)=.ret vs):Jt prog (Zy prog 51) (Zc prog 51 [(.dat l0.length (Zz l0))] true []) vs:=by have:=Ze (w5i l0) n _ (x6z l0);rwa [h] at this
end Go.Am
namespace Go.Am
open Go.Proofs.Tryz
open Go.Proofs Go.Sort Go.Shelf Go.RowKit Go.Lib
theorem x7s (l:List R4):(Zb l).length ≤400:=by
 unfold Zb;by_cases h:400<l.length
 ·rw [decide_eq_true h];exact Nat.zero_le _
 ·rw [decide_eq_false h];cases l.all Vw
  ·exact Nat.zero_le _
  ·show (bif decide (((D4.out l).length :Int)>400) then [] else D4.out l).length ≤400;by_cases h2:((D4.out l).length :Int)>400
   ·rw [decide_eq_true h2];exact Nat.zero_le _
   ·rw [decide_eq_false h2];show (D4.out l).length ≤400;omega
def D6 :Dim R6 R4:=⟨R6.c,R6.f,fun r=>⟨r.a,r.b,r.d,r.e⟩,fun x x' s=>⟨s.a,s.b,x,s.c,s.d,x'⟩,fun x r=>⟨r.a,r.b,r.c,r.d,r.e,x⟩,Zb,Jv⟩
theorem u6f (l:List R6) (x:Int):(D6.sec l x).length ≤1000:=Nat.le_trans (x7s _) (by omega)
def sckErr :List AVal:=[.int .i64 8]
def x3i (l out:List R6):List AVal:=bif decide ((out.length:Int)>400) then [.int .i64 8] else bif Kx out l then [.int .i64 0] else [.int .i64 8]
def v5f (l:List R6) (x:Int):Bool:=Xc (D6.inn l x) != 0
def okF (l:List R6):Nat→Nat→Bool
 | 0,_=>true
 | k+1,i=>bif v5f l (rd (D6.cuts l) i) then false else okF l k (i+1)
section
variable (l:List R6) (hl:l.length≤400)
include hl
theorem u2m (i:Nat) (out:List R6) (last:List R4) (first fin x x':Int): ∀(k j:Nat) (acc:List R4),j+k=l.length→acc.length≤j→
  ∃n,∀N,Yv (Xk l) (N+n) (.to (.h3 (i:Int) (j:Int) out last first fin ((D6.cuts l).length) (Wh (Xm (D6.ends l))) x x' acc))=Yv (Xk l) N (.to (.h3 (i:Int) (l.length:Int) out last first fin ((D6.cuts l).length) (Wh (Xm (D6.ends l))) x x' (acc++D6.inn (l.drop j) x)))
 | 0,j,acc,h,ha=>by refine ⟨0,fun N=> ?_⟩;rw [List.drop_eq_nil_of_le (by omega),show D6.inn ([]:List R6) x=[] from rfl,List.append_nil,Nat.add_zero,show j=l.length by omega]
 | k+1,j,acc,h,ha=>by
  have hj:j<l.length:=by omega
  obtain ⟨n,hn⟩:=u2m i out last first fin x x' k (j+1) (acc++D6.inn [rd l j] x) (by omega) (by have:=D6.inn_length [rd l j] x;simp only [List.length_append,List.length_singleton] at*;omega)
  refine ⟨n+1,fun N=> ?_⟩;have e:D6.inn (l.drop j) x=D6.inn [rd l j] x++D6.inn (l.drop (j+1)) x:=by rw [Ym hj,←D6.inn_append];rfl
  rw [e,←Nat.add_assoc,Zv,←List.append_assoc,←hn N];by_cases h1:D6.lo (rd l j)≤x
  ·by_cases h2:x<D6.hi (rd l j)
   ·rw [D6.inn_t _ _ h1 h2];simp only [D6] at h1 h2 ⊢;simp (disch:=omega) only [Xk,Xs,Za,Zk,Zt,Yz,Yc,Yk,Yp,Zh,Zq,Zx,Yg,Zj,Nat.zero_add,decide_true,Bool.and_true,Bool.true_and,cond_true,cond_false]
   ·rw [D6.inn_f2 _ _ h2,List.append_nil];simp only [D6] at h1 h2;simp (disch:=omega) only [Xk,Xs,Yx,Za,Zk,Zt,Yz,Yc,Yk,Yp,Zh,Zq,Zx,Yg,Zj,Nat.zero_add,decide_true,Bool.and_true,Bool.true_and,cond_true,cond_false]
  ·rw [D6.inn_f1 _ _ h1,List.append_nil];simp only [D6] at h1;simp (disch:=omega) only [Xk,w0f,Za,Zk,Zt,Yz,Yc,Yk,Yp,Zh,Zq,Zx,Yg,Zj,Nat.zero_add,decide_true,Bool.and_true,Bool.true_and,cond_true,cond_false]
theorem u2l (i:Nat) (hi:i≤1000) (x x':Int) (s last:List R4) (first:Int) (inn:List R4) (hs:s.length≤1000): ∀(k j:Nat) (out:List R6),j+k=s.length→out.length≤10000000+j→
  ∃n,∀N,Yv (Xk l) (N+n) (.to (.h4 x x' s (s.length:Int) (j:Int) s (i:Int) out last first ((D6.cuts l).length) (Wh (Xm (D6.ends l))) inn))=Yv (Xk l) N (.to (.h2 ((i+1:Nat):Int) (out++(s.drop j).map (D6.put x x')) last first x' ((D6.cuts l).length) (Wh (Xm (D6.ends l)))))
 | 0,j,out,h,ho=>by have _u:=hl;refine ⟨1,fun N=> ?_⟩;rw [List.drop_eq_nil_of_le (by omega),Zv];simp (disch:=omega) only [Xk,Yx,Zq,Zx,cond_false,List.map_nil,List.append_nil]
 | k+1,j,out,h,ho=>by
  obtain ⟨n,hn⟩:=u2l i hi x x' s last first inn hs k (j+1) (out++[D6.put x x' (rd s j)]) (by omega) (by simp;omega)
  refine ⟨n+1,fun N=> ?_⟩;have:=hn N;rw [Ym (show j<s.length by omega),List.map_cons,←Nat.add_assoc,Zv];simp (disch:=omega) only [Xk,Za,Zk,Zt,Yz,Yc,Yk,Yp,Zh,Zq,Zx,Yg,Zj,Nat.zero_add,decide_true,Bool.and_true,Bool.true_and,cond_true,cond_false];rw [List.append_assoc] at this;exact this
theorem u2k (i:Nat) (hi:i≤1000) (x x' fin:Int) (s last:List R4) (first:Int) (inn:List R4): ∀(k j:Nat) (out:List R6),j+k=out.length→out.length≤10000000→
  ∃n,∀N,Yv (Xk l) (N+n) (.to (.h5 x' (j:Int) x s (i:Int) out last first fin ((D6.cuts l).length) (Wh (Xm (D6.ends l))) inn))=Yv (Xk l) N (.to (.h2 ((i+1:Nat):Int) (D6.grow out j x') last first x' ((D6.cuts l).length) (Wh (Xm (D6.ends l)))))
 | 0,j,out,h,ho=>by have _u:=hl;refine ⟨1,fun N=> ?_⟩;rw [D6.grow_nil _ _ _ (by omega),Zv];simp (disch:=omega) only [Xk,Yx,Zq,Zx,cond_false]
 | k+1,j,out,h,ho=>by
  obtain ⟨n,hn⟩:=u2k i hi x x' fin s last first inn k (j+1) (out.set j (D6.ext x' (rd out j))) (by simp;omega) (by simpa using ho)
  refine ⟨n+1,fun N=> ?_⟩;have:=hn N;rw [D6.grow_set out j _ (by omega)] at this;rw [←Nat.add_assoc,Zv];simp (disch:=omega) only [Xk,Za,Zk,Zt,Yz,Yc,Yk,Yp,Zh,Zq,Zx,Yg,Zj,Nat.zero_add,decide_true,Bool.and_true,Bool.true_and,cond_true,cond_false];exact this
theorem w9t : ∀(k i:Nat) (s:Sw R6 R4),k=(D6.cuts l).length - 1 - i→i≤(D6.cuts l).length →s.out.length≤i*1000→s.last.length≤1000→s.first≤s.out.length→
  ∃n,Yv (Xk l) n (.to (.h2 ((i+1:Nat):Int) s.out s.last (s.first:Int) s.fin ((D6.cuts l).length) (Wh (Xm (D6.ends l)))))=.ret ((bif okF l k i then x3i l (D6.go l k i s).out else sckErr))
 | 0,i,s,h,hi,ho,hla,hf=>by
  have hc:=D6.cuts_length l;refine ⟨1,?_⟩;rw [Zv,show D6.go l 0 i s=s from rfl,show okF l 0 i=true from rfl,cond_true];unfold x3i;by_cases q:(s.out.length:Int)>400
  ·simp (disch:=omega) only [Xk,Yx,Yo,cond_true,cond_false,Zm]
  ·have e:lst R6 s.out.length (fun k=>(Zz s.out) k)=s.out:=Zk s.out;have w:Ve s.out l=true:=decide_eq_true (by omega);have f:Qq (Zz s.out)=true:=Xu _;rcases Ye (Kx s.out l) with q2 | q2 <;>
   simp (disch:=omega) only [Xk,Za,e,w,f,q2,Yx,Xp,Yc,Yg,Nat.zero_add,Bool.not_true,Bool.not_false,Bool.and_true,cond_true,cond_false,Zm]
 | k +1,i,s,h,hi,ho,hla,hf=>by
  have hc:=D6.cuts_length l;have hi1:i+1<(D6.cuts l).length :=by omega
  have hpl:(Wh (Xm (D6.ends l))).length =2*l.length:=by rw [Uo,Ww,D6.ends_length]
  have r0:rd (Wh (Xm (D6.ends l))) i=rd (D6.cuts l) i:=z4h _ _ (by show i<(D6.cuts l).length;omega);have r1:rd (Wh (Xm (D6.ends l))) (i+1)=rd (D6.cuts l) (i+1):=z4h _ _ (by show i+1<(D6.cuts l).length;omega);have hbig:i*1000≤1000*1000:=Nat.mul_le_mul_right _ (by omega);have hsl:=u6f l (rd (D6.cuts l) i);have hsd:D6.sec l (rd (D6.cuts l) i)=Zb (D6.inn l (rd (D6.cuts l) i)):=rfl;obtain ⟨n3,h3⟩:=u2m l hl (i+1) s.out s.last (s.first:Int) s.fin (rd (D6.cuts l) i) (rd (D6.cuts l) (i+1)) l.length 0 [] (Nat.zero_add _) (Nat.le_refl _);simp only [List.drop_zero,List.nil_append,z4u] at h3;have w1:Uh (D6.inn l (rd (D6.cuts l) i))=true:=rfl;have w2:Wb s.last (Zb (D6.inn l (rd (D6.cuts l) i)))=true:=decide_eq_true (by omega);have ol:=D6.one_length l (rd (D6.cuts l) i) (rd (D6.cuts l) (i+1)) s;have st0: ∀N,Yv (Xk l) (N+n3+1) (.to (.h2 ((i+1:Nat):Int) s.out s.last (s.first:Int) s.fin ((D6.cuts l).length) (Wh (Xm (D6.ends l)))))=Yv (Xk l) N (.to (.h3 ((i+1:Nat):Int) (l.length:Int) s.out s.last (s.first:Int) s.fin ((D6.cuts l).length) (Wh (Xm (D6.ends l))) (rd (D6.cuts l) i) (rd (D6.cuts l) (i+1)) (D6.inn l (rd (D6.cuts l) i)))):=fun N=>by
   rw [←h3 N,Zv];have e1:IntKind.wrap .i64 (((i+1:Nat):Int) - 1)=(i:Int):=by rw [Zr];exact Zq (by omega)
   simp (disch:=omega) only [Xk,e1,r0,r1,Za,Zk,Zt,Yz,Yc,Yk,Yp,Zh,Zq,Zx,Yg,Zj,Nat.zero_add,decide_true,Bool.and_true,Bool.true_and,cond_true,cond_false]
  rcases Ye (v5f l (rd (D6.cuts l) i)) with q0 | q0
  ·refine ⟨1+n3+1,?_⟩;rw [st0 1,Zv];simp only [okF,q0,cond_true,cond_false];have q0':(Xc (D6.inn l (rd (D6.cuts l) i)) != 0)=true:=q0;simp (disch:=omega) only [Xk,Za,Zk,Yx,q0',w1,cond_true,cond_false,Zm];rfl
  have q0':(Xc (D6.inn l (rd (D6.cuts l) i)) != 0)=false:=q0;rcases Ye (decide (0<(D6.sec l (rd (D6.cuts l) i)).length)&&((s.fin == rd (D6.cuts l) i)&&D6.same s.last (D6.sec l (rd (D6.cuts l) i)))) with q | q
  ·obtain ⟨n5,h5⟩:=u2k l hl (i+1) (by omega) (rd (D6.cuts l) i) (rd (D6.cuts l) (i+1)) s.fin (D6.sec l (rd (D6.cuts l) i)) s.last (s.first:Int) (D6.inn l (rd (D6.cuts l) i)) (s.out.length - s.first) s.first s.out (by omega) (by omega)
   have e:D6.one l (rd (D6.cuts l) i) (rd (D6.cuts l) (i+1)) s=⟨D6.grow s.out s.first (rd (D6.cuts l) (i+1)),s.last,s.first,rd (D6.cuts l) (i+1)⟩:=by unfold Dim.one;rw [q];rfl
   obtain ⟨n0,h0⟩:=w9t k (i+1) (D6.one l (rd (D6.cuts l) i) (rd (D6.cuts l) (i+1)) s) (by omega) (by omega) (by omega) (by rw [e];exact hla) (by rw [e];simpa [Dim.grow_length] using hf);refine ⟨n0+n5+1+n3+1,?_⟩;rw [st0 (n0+n5+1),Zv];simp only [Bool.and_eq_true,decide_eq_true_eq] at q;obtain ⟨q1,q2,q3⟩:=q;have q3':Jv s.last (Zb (D6.inn l (rd (D6.cuts l) i)))=true:=q3;rw [hsd] at q1;simp (disch:=omega) only [Xk,Za,Zk,Yx,Yo,q0',q2,q3',w1,w2,cond_true,cond_false];rw [←hsd,h5 n0];simp only [okF,q0,cond_false];simp only [Dim.go];rw [e] at h0 ⊢;exact h0
  ·obtain ⟨n4,h4⟩:=u2l l hl (i+1) (by omega) (rd (D6.cuts l) i) (rd (D6.cuts l) (i+1)) (D6.sec l (rd (D6.cuts l) i)) (D6.sec l (rd (D6.cuts l) i)) (s.out.length:Int) (D6.inn l (rd (D6.cuts l) i)) hsl (D6.sec l (rd (D6.cuts l) i)).length 0 s.out (Nat.zero_add _) (by omega);simp only [List.drop_zero,z4u] at h4;have e:D6.one l (rd (D6.cuts l) i) (rd (D6.cuts l) (i+1)) s=⟨s.out++(D6.sec l (rd (D6.cuts l) i)).map (D6.put (rd (D6.cuts l) i) (rd (D6.cuts l) (i+1))),D6.sec l (rd (D6.cuts l) i),s.out.length,rd (D6.cuts l) (i+1)⟩:=by unfold Dim.one;rw [q];rfl
   obtain ⟨n0,h0⟩:=w9t k (i+1) (D6.one l (rd (D6.cuts l) i) (rd (D6.cuts l) (i+1)) s) (by omega) (by omega) (by omega) (by rw [e];exact hsl) (by rw [e];simp);have hg:Yv (Xk l) 1 (.to (.h3 ((i+1:Nat):Int) (l.length:Int) s.out s.last (s.first:Int) s.fin ((D6.cuts l).length) (Wh (Xm (D6.ends l))) (rd (D6.cuts l) i) (rd (D6.cuts l) (i+1)) (D6.inn l (rd (D6.cuts l) i))))=.to (.h4 (rd (D6.cuts l) i) (rd (D6.cuts l) (i+1)) (D6.sec l (rd (D6.cuts l) i)) ((D6.sec l (rd (D6.cuts l) i)).length :Int) 0 (D6.sec l (rd (D6.cuts l) i)) ((i+1:Nat):Int) s.out (D6.sec l (rd (D6.cuts l) i)) (s.out.length:Int) ((D6.cuts l).length) (Wh (Xm (D6.ends l))) (D6.inn l (rd (D6.cuts l) i))):=by
    rw [show (1:Nat)=0+1 from rfl,Zv];rw [hsd] at q ⊢;have e3:D6.same s.last (Zb (D6.inn l (rd (D6.cuts l) i)))=Jv s.last (Zb (D6.inn l (rd (D6.cuts l) i))):=rfl;rw [e3] at q;by_cases q1:0<(Zb (D6.inn l (rd (D6.cuts l) i))).length
    ·rw [decide_eq_true q1,Bool.true_and] at q;rcases Ye (s.fin == rd (D6.cuts l) i) with q2 | q2
     ·rw [q2,Bool.true_and] at q;simp (disch:=omega) only [Xk,Za,Zk,Yx,Yo,q0',q2,q,w1,w2,cond_true,cond_false];rfl
     ·simp (disch:=omega) only [Xk,Za,Zk,Yx,Yo,q0',q2,w1,w2,cond_true,cond_false];rfl
    ·simp (disch:=omega) only [Xk,Za,Zk,Yx,Xp,q0',w1,w2,cond_true,cond_false];rfl
   refine ⟨n0+n4+1+n3+1,?_⟩;rw [st0 (n0+n4+1),z8f _ (n0+n4) 1,hg,h4 n0];simp only [okF,q0,cond_false];simp only [Dim.go];rw [e] at h0 ⊢;exact h0
theorem u2n : ∀(k i:Nat) (acc:List Int),i+k=l.length→acc=D6.ends (l.take i)→ ∃n,Yv (Xk l) n (.to (.h1 (i:Int) acc))=.ret ((bif okF l ((D6.cuts l).length - 1) 0 then x3i l (D6.go l ((D6.cuts l).length - 1) 0 ⟨[],[],0,0⟩).out else sckErr))
 | 0,i,acc,h,ha=>by
  have e:acc=D6.ends l:=by rw [ha,List.take_of_length_le (by omega)]
  subst e;have hle:=D6.ends_length l;obtain ⟨n,hn⟩:=w9t l hl ((D6.cuts l).length - 1) 0 ⟨[],[],0,0⟩ (by omega) (Nat.zero_le _) (Nat.zero_le _) (Nat.zero_le _) (Nat.zero_le _);refine ⟨n+1,?_⟩;rw [Zv];simp (disch:=omega) only [Xk,Wd,z0a,y0f,Yx,Yk,Yp,decide_true,cond_true,cond_false];exact hn
 | k+1,i,acc,h,ha=>by
  have hle:=D6.ends_length (l.take i);have fN:acc.length≤2*i:=by rw [ha,hle];simp;omega
  obtain ⟨n,hn⟩:=u2n k (i+1) (acc++D6.ends [rd l i]) (by omega) (by
   rw [ha,List.take_add_one];have:l[i]? =some (rd l i):=by rw [Xy (show i<l.length by omega)];exact List.getElem?_eq_getElem _
   rw [this,D6.ends_append];rfl)
  refine ⟨n+1,?_⟩;rw [Zv];simp (disch:=omega) only [Xk,Za,Zk,Zt,Yz,Yc,Yk,Yp,Zh,Zq,Zx,Yg,Zj,Nat.zero_add,decide_true,Bool.and_true,Bool.true_and,cond_true,cond_false];exact hn
theorem u2o : ∀(k i:Nat),i+k=l.length→(∀s∈l.take i,Ko s=true)→ ∃n,Yv (Xk l) n (.to (.h0 (i:Int)))=.ret (bif l.all Ko then (bif okF l ((D6.cuts l).length - 1) 0 then x3i l (D6.go l ((D6.cuts l).length - 1) 0 ⟨[],[],0,0⟩).out else sckErr) else sckErr)
 | 0,i,h,ht=>by have hv:l.all Ko=true:=List.all_eq_true.2 fun s hs=>ht s (by rw [List.take_of_length_le (by omega)];exact hs);obtain ⟨n,hn⟩:=u2n l hl l.length 0 [] (Nat.zero_add _) rfl;refine ⟨n+1,?_⟩;rw [Zv,hv,cond_true];simp (disch:=omega) only [Xk,Yx,cond_false];exact hn
 | k+1,i,h,ht=>by
  have hi:i<l.length:=by omega
  have hs:Xk l (.h0 (i:Int))=bif Ko (rd l i) then .to (.h0 ((i+1:Nat):Int)) else .ret sckErr:=by have e:u6i (rd l i).a (rd l i).b (rd l i).c (rd l i).d (rd l i).e (rd l i).f =Ko (rd l i):=rfl;simp (disch:=omega) only [Xk,e,z6x,x5d,x5e,Yz,Zq,Zx,Zj,Bool.and_true,cond_true,cond_false];rfl
  rcases Ye (Ko (rd l i)) with q | q
  ·obtain ⟨n,hn⟩:=u2o k (i+1) (by omega) (fun s hs=>by
    rw [List.take_add_one] at hs;have e:l[i]? =some (rd l i):=by rw [Xy hi];exact List.getElem?_eq_getElem _
    rw [e] at hs;simp only [Option.toList_some,List.mem_append,List.mem_singleton] at hs;rcases hs with hs | rfl
    ·exact ht s hs
    ·exact q)
   refine ⟨n+1,?_⟩;rw [Zv,hs,q,cond_true];exact hn
  ·have hv:l.all Ko=false:=Bool.eq_false_iff.2 fun e=>by have:=List.all_eq_true.1 e (rd l i) (by rw [Xy hi];exact List.getElem_mem hi);rw [this] at q;cases q
   refine ⟨1,?_⟩;rw [Zv,hv,cond_false,hs,q,cond_false,Zm]
end
def Yr (l:List R6):Int:=bif decide (400<l.length) then 4 else bif l.all Ko then (bif okF l ((D6.cuts l).length - 1) 0 then (bif decide (((D6.out l).length :Int)>400) then 8 else bif Kx (D6.out l) l then 0 else 8) else 8) else 8
def w9v (l:List R6):Bool:=true
theorem u7o (l:List R6): ∃n,Yv (Xk l) n (y2h l)=.ret [.int .i64 (Yr l)]:=by
 unfold y2h Yr;by_cases h:400<l.length
 ·refine ⟨0,?_⟩;rw [decide_eq_true h,Yo (show (l.length:Int)>400 by omega)];rfl
 ·obtain ⟨n,hn⟩:=u2o l (by omega) l.length 0 (Nat.zero_add _) (fun s hs=>by simp at hs);refine ⟨n,?_⟩;rw [decide_eq_false h,Xp (show¬(l.length:Int)>400 by omega),cond_false,cond_false];rw [z4u] at hn;rw [hn];unfold sckErr x3i;cases l.all Ko <;> simp only [cond_true,cond_false];cases okF l ((D6.cuts l).length - 1) 0 <;> simp only [cond_true,cond_false];show Xb.ret (bif decide (((D6.out l).length :Int)>400) then _ else bif Kx (D6.out l) l then _ else _)=_;cases decide (((D6.out l).length :Int)>400) <;> simp only [cond_true,cond_false];cases Kx (D6.out l) l <;> rfl
def fSck :List AVal→Option (AVal×Bool)
 | [a1]=>match asL R6 a1 with
  | some (L1,g1,n1)=>some (.int .i64 (Yr L1),isT R6 n1 g1&&w9v L1)
  | _=>none
 | _=>none
theorem j1f {S:Specs} (hS:Zu prog S):Zu prog (S.with x4i fSck):=by
 refine z2d hS (by kernel_rfl) fun args v h=> ?_;unfold fSck at h;split at h
 ·rename_i a1;split at h
  ·rename_i L1 g1 n1 e1;simp only [Option.some.injEq,Prod.mk.injEq,Bool.and_eq_true] at h;obtain ⟨rfl,ho1,hw⟩:=h;obtain ⟨N,hN⟩:=u7o L1;exact ⟨_,_,(.cons (asL_le e1 ho1) .nil),rfl,v6t L1 N _ hN,3,rfl⟩
  ·cases h
 ·cases h
def T8 :Specs:=T7v.with x4i fSck
theorem z0p :Zu prog T8:=j1f Vd
end Go.Am
namespace Go.Am
open Go.Proofs.Tryz
open Go.Proofs
inductive rchkS where
 | h0 (v3:Int)
def u8v (l0:List R6):rchkS→Cfg
 | .h0 v3=>⟨⟨34,0,true⟩,none,(Zd prog 53 [1,1,0,1,0,0] 0),none,(Zy prog 3),⟨Yd [(0,(.dat l0.length (Zz l0))),(3,(ii v3))],Uw [] 0,0,[],true⟩,[],.leaf⟩
def u3x :List (Option (List Nat)):=[some [0,3]]
def u3y :List (Option (List Nat)):=[]
def z0w (l0:List R6):rchkS→Xb rchkS
 | .h0 v3=>(bif (decide (v3<(l0.length:Int))) then (bif ((decide (0≤v3∧v3<(l0.length:Int)))&&true) then (bif (decide ((rd l0 v3.toNat).a ≥(-1000000))) then (bif (decide ((rd l0 v3.toNat).b ≥(-1000000))) then (bif (decide ((rd l0 v3.toNat).c ≥(-1000000))) then (bif (decide ((rd l0 v3.toNat).a ≤1000000)) then (bif (decide ((rd l0 v3.toNat).b ≤1000000)) then (bif (decide ((rd l0 v3.toNat).c ≤1000000)) then (bif (decide ((rd l0 v3.toNat).d ≥(-1000000))) then (bif (decide ((rd l0 v3.toNat).e ≥(-1000000))) then (bif (decide ((rd l0 v3.toNat).f ≥(-1000000))) then (bif (decide ((rd l0 v3.toNat).d ≤1000000)) then (bif (decide ((rd l0 v3.toNat).e ≤1000000)) then (bif (decide ((rd l0 v3.toNat).f ≤1000000)) then (bif (decide ((rd l0 v3.toNat).a <(rd l0 v3.toNat).d)) then (bif (decide ((rd l0 v3.toNat).b <(rd l0 v3.toNat).e)) then (bif (!(decide ((rd l0 v3.toNat).c <(rd l0 v3.toNat).f))) then (.ret [(.int .i64 8)]) else (.to (.h0 (IntKind.wrap .i64 (v3+1))))) else (.ret [(.int .i64 8)])) else (.ret [(.int .i64 8)])) else (.ret [(.int .i64 8)])) else (.ret [(.int .i64 8)])) else (.ret [(.int .i64 8)])) else (.ret [(.int .i64 8)])) else (.ret [(.int .i64 8)])) else (.ret [(.int .i64 8)])) else (.ret [(.int .i64 8)])) else (.ret [(.int .i64 8)])) else (.ret [(.int .i64 8)])) else (.ret [(.int .i64 8)])) else (.ret [(.int .i64 8)])) else (.ret [(.int .i64 8)])) else .stuck) else (bif (y3e 2 (cvT l0) ([]:List R6)) then (bif (!(x4s 2 (cvT l0) ([]:List R6))) then (.ret [(.int .i64 8)]) else (bif (Ve (cvT (z6p 2 (cvT l0) ([]:List R6))) (cvT l0)) then (bif (!(Kx (cvT (z6p 2 (cvT l0) ([]:List R6))) (cvT l0))) then (.ret [(.int .i64 8)]) else (.ret [(.int .i64 0)])) else .stuck)) else .stuck))
def z7r (l0:List R6):Xb rchkS:=(bif (decide ((l0.length:Int)>400)) then (.ret [(.int .i64 4)]) else (.to (.h0 0)))
theorem x7y (l0:List R6): ∀s,Xv prog (Zy prog 53) (u8v l0) (u8v l0 s) (z0w l0 s)
 | .h0 v3=>(lb (fun k0=>(lo fun aF=>(lb (fun k1=>(lb (fun k2=>(lb (fun k3=>(lb (fun k4=>(lb (fun k5=>(lb (fun k6=>(lb (fun k7=>(lb (fun k8=>(lb (fun k9=>(lb (fun k10=>(lb (fun k11=>(lb (fun k12=>(lb (fun k13=>(lb (fun k14=>(lb (fun k15=>(lr 34 53 [1,1,0,1,0,0,1,0,0,1,0,0] 1 3 [(2,(ii 8))] (sl z0p 158 [] ⟨[],[],[some [2]],[]⟩ ⟨[],[],[]⟩ (trs 60 []) (tt k15 (tt k14 (tt k13 (tt k12 (tt k11 (tt k10 (tt k9 (tt k8 (tt k7 (tt k6 (tt k5 (tt k4 (tt k3 (tt k2 (tt k1 (ww aF (tt k0 nn)))))))))))))))))))) (fun k15=>(sl z0p 162 [] ⟨[],[],u3x,u3y⟩ ⟨[],[],[]⟩ (trs 59 [false]) (tt k15 (tt k14 (tt k13 (tt k12 (tt k11 (tt k10 (tt k9 (tt k8 (tt k7 (tt k6 (tt k5 (tt k4 (tt k3 (tt k2 (tt k1 (ww aF (tt k0 nn))))))))))))))))))))) (fun k14=>(lr 34 53 [1,1,0,1,0,0,1,0,0,1,0,0] 1 3 [(2,(ii 8))] (sl z0p 158 [] ⟨[],[],[some [2]],[]⟩ ⟨[],[],[]⟩ (trs 52 (bl 8 128)) (tt k14 (tt k13 (tt k12 (tt k11 (tt k10 (tt k9 (tt k8 (tt k7 (tt k6 (tt k5 (tt k4 (tt k3 (tt k2 (tt k1 (ww aF (tt k0 nn))))))))))))))))))))) (fun k13=>(lr 34 53 [1,1,0,1,0,0,1,0,0,1,0,0] 1 3 [(2,(ii 8))] (sl z0p 158 [] ⟨[],[],[some [2]],[]⟩ ⟨[],[],[]⟩ (trs 45 (bl 15 16384)) (tt k13 (tt k12 (tt k11 (tt k10 (tt k9 (tt k8 (tt k7 (tt k6 (tt k5 (tt k4 (tt k3 (tt k2 (tt k1 (ww aF (tt k0 nn)))))))))))))))))))) (fun k12=>(lr 34 53 [1,1,0,1,0,0,1,0,0,1,0,0] 1 3 [(2,(ii 8))] (sl z0p 158 [] ⟨[],[],[some [2]],[]⟩ ⟨[],[],[]⟩ (trs 38 (bl 22 2097152)) (tt k12 (tt k11 (tt k10 (tt k9 (tt k8 (tt k7 (tt k6 (tt k5 (tt k4 (tt k3 (tt k2 (tt k1 (ww aF (tt k0 nn))))))))))))))))))) (fun k11=>(lr 34 53 [1,1,0,1,0,0,1,0,0,1,0,0] 1 3 [(2,(ii 8))] (sl z0p 158 [] ⟨[],[],[some [2]],[]⟩ ⟨[],[],[]⟩ (trs 35 (bl 25 16777216)) (tt k11 (tt k10 (tt k9 (tt k8 (tt k7 (tt k6 (tt k5 (tt k4 (tt k3 (tt k2 (tt k1 (ww aF (tt k0 nn)))))))))))))))))) (fun k10=>(lr 34 53 [1,1,0,1,0,0,1,0,0,1,0,0] 1 3 [(2,(ii 8))] (sl z0p 158 [] ⟨[],[],[some [2]],[]⟩ ⟨[],[],[]⟩ (trs 32 (bl 28 134217728)) (tt k10 (tt k9 (tt k8 (tt k7 (tt k6 (tt k5 (tt k4 (tt k3 (tt k2 (tt k1 (ww aF (tt k0 nn))))))))))))))))) (fun k9=>(lr 34 53 [1,1,0,1,0,0,1,0,0,1,0,0] 1 3 [(2,(ii 8))] (sl z0p 158 [] ⟨[],[],[some [2]],[]⟩ ⟨[],[],[]⟩ (trs 29 (bl 31 1073741824)) (tt k9 (tt k8 (tt k7 (tt k6 (tt k5 (tt k4 (tt k3 (tt k2 (tt k1 (ww aF (tt k0 nn)))))))))))))))) (fun k8=>(lr 34 53 [1,1,0,1,0,0,1,0,0,1,0,0] 1 3 [(2,(ii 8))] (sl z0p 158 [] ⟨[],[],[some [2]],[]⟩ ⟨[],[],[]⟩ (trs 25 (bl 35 17179869184)) (tt k8 (tt k7 (tt k6 (tt k5 (tt k4 (tt k3 (tt k2 (tt k1 (ww aF (tt k0 nn))))))))))))))) (fun k7=>(lr 34 53 [1,1,0,1,0,0,1,0,0,1,0,0] 1 3 [(2,(ii 8))] (sl z0p 158 [] ⟨[],[],[some [2]],[]⟩ ⟨[],[],[]⟩ (trs 21 (bl 39 274877906944)) (tt k7 (tt k6 (tt k5 (tt k4 (tt k3 (tt k2 (tt k1 (ww aF (tt k0 nn)))))))))))))) (fun k6=>(lr 34 53 [1,1,0,1,0,0,1,0,0,1,0,0] 1 3 [(2,(ii 8))] (sl z0p 117 [] ⟨[],[],[some [2]],[]⟩ ⟨[],[],[]⟩ (trs 18 (bl 25 16777216)) (tt k6 (tt k5 (tt k4 (tt k3 (tt k2 (tt k1 (ww aF (tt k0 nn))))))))))))) (fun k5=>(lr 34 53 [1,1,0,1,0,0,1,0,0,1,0,0] 1 3 [(2,(ii 8))] (sl z0p 117 [] ⟨[],[],[some [2]],[]⟩ ⟨[],[],[]⟩ (trs 15 (bl 28 134217728)) (tt k5 (tt k4 (tt k3 (tt k2 (tt k1 (ww aF (tt k0 nn)))))))))))) (fun k4=>(lr 34 53 [1,1,0,1,0,0,1,0,0,1,0,0] 1 3 [(2,(ii 8))] (sl z0p 117 [] ⟨[],[],[some [2]],[]⟩ ⟨[],[],[]⟩ (trs 12 (bl 31 1073741824)) (tt k4 (tt k3 (tt k2 (tt k1 (ww aF (tt k0 nn))))))))))) (fun k3=>(lr 34 53 [1,1,0,1,0,0,1,0,0,1,0,0] 1 3 [(2,(ii 8))] (sl z0p 117 [] ⟨[],[],[some [2]],[]⟩ ⟨[],[],[]⟩ (trs 9 (bl 34 8589934592)) (tt k3 (tt k2 (tt k1 (ww aF (tt k0 nn)))))))))) (fun k2=>(lr 34 53 [1,1,0,1,0,0,1,0,0,1,0,0] 1 3 [(2,(ii 8))] (sl z0p 117 [] ⟨[],[],[some [2]],[]⟩ ⟨[],[],[]⟩ (trs 5 (bl 38 137438953472)) (tt k2 (tt k1 (ww aF (tt k0 nn))))))))) (fun k1=>(lr 34 53 [1,1,0,1,0,0,1,0,0,1,0,0] 1 3 [(2,(ii 8))] (sl z0p 117 [] ⟨[],[],[some [2]],[]⟩ ⟨[],[],[]⟩ (bl 43 4398046511105) (tt k1 (ww aF (tt k0 nn))))))))) (fun k0=>(lo fun aF=>(lb (fun k1=>(lr 34 53 [1,1,1,1,0,1,0,0] 1 3 [(2,(ii 8))] (sl z0p 37 [] ⟨[],[],[some [2]],[]⟩ ⟨[],[],[]⟩ (bl 6 62) (tt k1 (pp (pp (xr l0) (pp (xI R6 0 (fun _=>[])) (xw aF))) (tt k0 nn)))))) (fun k1=>(lo fun cG=>(lb (fun k2=>(lr 34 53 [1,1,1,1,0,1,0,0] 1 3 [(2,(ii 8))] (sl z0p 37 [] ⟨[],[],[some [2]],[]⟩ ⟨[],[],[]⟩ (bl 6 32) (tt k2 (pp (pp (xI R6 (z6p 2 (cvT l0) ([]:List R6)).length (Zz (z6p 2 (cvT l0) ([]:List R6)))) (pp (xr l0) (xw cG))) (tt k1 (pp (pp (xr l0) (pp (xI R6 0 (fun _=>[])) (xw aF))) (tt k0 nn)))))))) (fun k2=>(lr 34 3 [1,1,1,1,1,1,1,0] 1 3 [(2,(ii 0))] (sl z0p 38 [] ⟨[],[],[some [2]],[]⟩ ⟨[],[],[]⟩ (bl 6 0) (tt k2 (pp (pp (xI R6 (z6p 2 (cvT l0) ([]:List R6)).length (Zz (z6p 2 (cvT l0) ([]:List R6)))) (pp (xr l0) (xw cG))) (tt k1 (pp (pp (xr l0) (pp (xI R6 0 (fun _=>[])) (xw aF))) (tt k0 nn)))))))))))))))
theorem x3w (l0:List R6):Xv prog (Zy prog 53) (u8v l0) (Zc prog 53 [(.dat l0.length (Zz l0))] true []) (z7r l0):=(lb (fun k0=>(lr 34 53 [1,0,1,0,0] 1 3 [(2,(ii 4))] (sl z0p 16 [] ⟨[],[],[some [2]],[]⟩ ⟨[],[],[]⟩ [true] (tt k0 nn)))) (fun k0=>(sl z0p 20 [] ⟨[],[],u3x,u3y⟩ ⟨[],[],[]⟩ [false] (tt k0 nn))))
theorem v1e (l0:List R6) (n:Nat) (vs:List AVal) (h:Yv (z0w l0) n (z7r l0)=.ret vs):Jt prog (Zy prog 53) (Zc prog 53 [(.dat l0.length (Zz l0))] true []) vs:=by have:=Ze (x7y l0) n _ (x3w l0);rwa [h] at this
end Go.Am
namespace Go.Am
open Go.Proofs.Tryz
open Go.Proofs
def w4m (r:R6):Bool:=decide (r.a≥ -1000000)&&(decide (r.b≥ -1000000)&&(decide (r.c≥ -1000000)&&(decide (r.a≤1000000)&&(decide (r.b≤1000000)&&(decide (r.c≤1000000)&&(decide (r.d≥ -1000000)&&(decide (r.e≥ -1000000)&&(decide (r.f≥ -1000000)&&(decide (r.d≤1000000)&&(decide (r.e≤1000000)&&(decide (r.f≤1000000)&&(decide (r.a<r.d)&&(decide (r.b<r.e)&&decide (r.c<r.f))))))))))))))
def rckF (l:List R6):Int:=bif x4s 2 l [] then (bif Kx (z6p 2 l []) l then 0 else 8) else 8
def y0z (l:List R6):Int:=bif decide (400<l.length) then 4 else bif l.all w4m then rckF l else 8
def v1c (l:List R6):Bool:=true
theorem w7d (k:Int) (l m:List R6):(z6p k l m).length ≤400∨x4s k l m=false:=by
 unfold z6p x4s;cases jsO k l m with
 | none=>exact .inl (Nat.zero_le _)
 | some out=>
  by_cases h:(out.length:Int)≤400
  ·left;show out.length≤400;omega
  ·right;exact decide_eq_false h
section
variable (l:List R6) (hl:l.length≤400)
include hl
theorem v1d : ∀(k i:Nat),i+k=l.length→(∀s∈l.take i,w4m s=true)→ ∃n,Yv (z0w l) n (.to (.h0 (i:Int)))=.ret [.int .i64 (bif l.all w4m then rckF l else 8)]
 | 0,i,h,ht=>by
  have hv:l.all w4m=true:=List.all_eq_true.2 fun s hs=>ht s (by rw [List.take_of_length_le (by omega)];exact hs);have w1:y3e 2 l []=true:=decide_eq_true ⟨by omega,by simp⟩;refine ⟨1,?_⟩;rw [Zv,hv,cond_true];unfold rckF;rcases Ye (x4s 2 l []) with q | q
  ·have w2:Ve (z6p 2 l []) l=true:=decide_eq_true (by
    rcases w7d 2 l [] with h | h
    ·omega
    ·rw [h] at q;cases q)
   rcases Ye (Kx (z6p 2 l []) l) with q2 | q2 <;>
   simp (disch:=omega) only [z0w,Za,Yx,q,q2,w1,w2,Bool.not_true,Bool.not_false,cond_true,cond_false,Zm]
  ·simp (disch:=omega) only [z0w,Za,Yx,q,w1,Bool.not_true,Bool.not_false,cond_true,cond_false,Zm]
 | k+1,i,h,ht=>by
  have hi:i<l.length:=by omega
  have hs:z0w l (.h0 (i:Int))=bif w4m (rd l i) then .to (.h0 ((i+1:Nat):Int)) else .ret [.int .i64 8]:=by simp (disch:=omega) only [z0w,w4m,y6a,z6x,x5d,Yz,Zq,Zx,Zj,Bool.and_true,cond_true,cond_false]
  rcases Ye (w4m (rd l i)) with q | q
  ·obtain ⟨n,hn⟩:=v1d k (i+1) (by omega) (fun s hs=>by
    rw [List.take_add_one] at hs;have e:l[i]? =some (rd l i):=by rw [Xy hi];exact List.getElem?_eq_getElem _
    rw [e] at hs;simp only [Option.toList_some,List.mem_append,List.mem_singleton] at hs;rcases hs with hs | rfl
    ·exact ht s hs
    ·exact q)
   refine ⟨n+1,?_⟩;rw [Zv,hs,q,cond_true];exact hn
  ·have hv:l.all w4m=false:=Bool.eq_false_iff.2 fun e=>by have:=List.all_eq_true.1 e (rd l i) (by rw [Xy hi];exact List.getElem_mem hi);rw [this] at q;cases q
   refine ⟨1,?_⟩;rw [Zv,hv,cond_false,hs,q,cond_false,Zm]
end
theorem v8b (l:List R6): ∃n,Yv (z0w l) n (z7r l)=.ret [.int .i64 (y0z l)]:=by
 unfold z7r y0z;by_cases h:400<l.length
 ·refine ⟨0,?_⟩;rw [decide_eq_true h,Yo (show (l.length:Int)>400 by omega)];rfl
 ·obtain ⟨n,hn⟩:=v1d l (by omega) l.length 0 (Nat.zero_add _) (fun s hs=>by simp at hs);refine ⟨n,?_⟩;rw [decide_eq_false h,Xp (show¬(l.length:Int)>400 by omega),cond_false,cond_false];exact hn
def fRck :List AVal→Option (AVal×Bool)
 | [a1]=>match asL R6 a1 with
  | some (L1,g1,n1)=>some (.int .i64 (y0z L1),isT R6 n1 g1&&v1c L1)
  | _=>none
 | _=>none
theorem j1j {S:Specs} (hS:Zu prog S):Zu prog (S.with v1z fRck):=by
 refine z2d hS (by kernel_rfl) fun args v h=> ?_;unfold fRck at h;split at h
 ·rename_i a1;split at h
  ·rename_i L1 g1 n1 e1;simp only [Option.some.injEq,Prod.mk.injEq,Bool.and_eq_true] at h;obtain ⟨rfl,ho1,hw⟩:=h;obtain ⟨N,hN⟩:=v8b L1;exact ⟨_,_,(.cons (asL_le e1 ho1) .nil),rfl,v1e L1 N _ hN,3,rfl⟩
  ·cases h
 ·cases h
def T9 :Specs:=T8.with v1z fRck
theorem z5q :Zu prog T9:=j1j z0p
end Go.Am
namespace Go.Am
open Go.Proofs Go.Sort Go.Shelf Go.RowKit Go.Lib
def pt (L:List R2) (y:Int):Prop:= ∃s∈L,s.a≤y∧y<s.b
structure Can (L:List R2):Prop where
 pos: ∀s∈L,s.a<s.b
 sep:L.Pairwise fun s t=>s.b<t.a
theorem Can.nil :Can []:=⟨by simp,.nil⟩
theorem Can.tail {s:R2} {L:List R2} (h:Can (s::L)):Can L:=⟨fun t ht=>h.pos t (List.mem_cons_of_mem _ ht),(List.pairwise_cons.1 h.sep).2⟩
theorem Can.head {s:R2} {L:List R2} (h:Can (s::L)): ∀t∈L,s.b<t.a:=(List.pairwise_cons.1 h.sep).1
theorem u5y {s:R2} {L:List R2} (h:Can (s::L)) {y:Int} (hy:pt (s::L) y):s.a≤y:=by
 obtain ⟨t,ht,h1,h2⟩:=hy;rcases List.mem_cons.1 ht with rfl | ht
 ·exact h1
 ·have:=h.head t ht;have:=h.pos s (by simp);omega
theorem v5c : ∀(L M:List R2),Can L→Can M→(∀y,pt L y↔pt M y)→L=M
 | [],[],_,_,_=>rfl
 | [],t::M,_,hM,h=>by have:=(h t.a).2 ⟨t,by simp,Int.le_refl _,hM.pos t (by simp)⟩;obtain ⟨s,hs,_⟩:=this;cases hs
 | s::L,[],hL,_,h=>by have:=(h s.a).1 ⟨s,by simp,Int.le_refl _,hL.pos s (by simp)⟩;obtain ⟨s,hs,_⟩:=this;cases hs
 | s::L,t::M,hL,hM,h=>by
  have p1:=hL.pos s (by simp);have p2:=hM.pos t (by simp);have a1:t.a≤s.a:=u5y hM ((h s.a).1 ⟨s,by simp,Int.le_refl _,p1⟩);have a2:s.a≤t.a:=u5y hL ((h t.a).2 ⟨t,by simp,Int.le_refl _,p2⟩);have b1: ¬s.b<t.b:=fun hb=>by
   obtain ⟨u,hu,h1,h2⟩:=(h s.b).2 ⟨t,by simp,by omega,hb⟩;rcases List.mem_cons.1 hu with rfl | hu
   ·omega
   ·have:=hL.head u hu;omega
  have b2: ¬t.b<s.b:=fun hb=>by
   obtain ⟨u,hu,h1,h2⟩:=(h t.b).1 ⟨s,by simp,by omega,hb⟩;rcases List.mem_cons.1 hu with rfl | hu
   ·omega
   ·have:=hM.head u hu;omega
  have e:s=t:=by
   obtain ⟨sa,sb⟩:=s;obtain ⟨ta,tb⟩:=t;simp only at a1 a2 b1 b2;have:sa=ta:=by omega
   have:sb=tb:=by omega
   subst_vars;rfl
  subst e
  congr 1
  refine v5c L M hL.tail hM.tail fun y=>⟨fun hy=> ?_,fun hy=> ?_⟩
  ·obtain ⟨u,hu,h1,h2⟩:=hy;have g:=hL.head u hu;obtain ⟨v,hv,h3,h4⟩:=(h y).1 ⟨u,by simp [hu],h1,h2⟩;rcases List.mem_cons.1 hv with rfl | hv
   ·omega
   ·exact ⟨v,hv,h3,h4⟩
  ·obtain ⟨u,hu,h1,h2⟩:=hy;have g:=hM.head u hu;obtain ⟨v,hv,h3,h4⟩:=(h y).2 ⟨u,by simp [hu],h1,h2⟩;rcases List.mem_cons.1 hv with rfl | hv
   ·omega
   ·exact ⟨v,hv,h3,h4⟩
def push (out:List R2) (x x':Int):List R2:=
 bif decide (0<out.length)&&((rd out (out.length - 1)).b == x) then out.set (out.length - 1) ⟨(rd out (out.length - 1)).a,x'⟩ else out++[⟨x,x'⟩]
theorem v1h (out:List R2) (s:R2) (x x':Int):push (out++[s]) x x'=bif s.b == x then out++[⟨s.a,x'⟩] else out++[s]++[⟨x,x'⟩]:=by
 have e:rd (out++[s]) ((out++[s]).length - 1)=s:=by rw [Ui (by simp)];simp [rd]
 unfold push;rw [e,decide_eq_true (by simp),Bool.true_and];cases (s.b == x)
 ·rfl
 ·simp
theorem w2m {out:List R2} {x x':Int} (hc:Can out) (hb: ∀s∈out,s.b≤x) (hx:x<x'):
  Can (push out x x')∧(∀s∈push out x x',s.b≤x')∧ ∀y,pt (push out x x') y↔pt out y∨(x≤y∧y<x'):=by
 rcases List.eq_nil_or_concat out with rfl | ⟨L,s,rfl⟩
 ·refine ⟨⟨?_,?_⟩,?_,fun y=> ?_⟩
  ·intro s hs;simp [push] at hs;subst hs;exact hx
  ·simp [push]
  ·intro s hs;simp [push] at hs;subst hs;exact Int.le_refl _
  ·simp [push,pt]
 ·rw [List.concat_eq_append] at*;rw [v1h];have hs:=hb s (by simp);have hp:=hc.pos s (by simp);have sep:=List.pairwise_append.1 hc.sep;rcases Ye (s.b == x) with q | q
  ·rw [q,cond_true];have q:s.b=x:=by simpa using q
   refine ⟨⟨?_,?_⟩,?_,fun y=> ?_⟩
   ·intro t ht;rcases List.mem_append.1 ht with ht | ht
    ·exact hc.pos t (by simp [ht])
    ·rw [List.mem_singleton.1 ht];show s.a<x';omega
   ·refine List.pairwise_append.2 ⟨sep.1,List.pairwise_singleton _ _,fun t ht u hu=> ?_⟩;rw [List.mem_singleton.1 hu];exact sep.2.2 t ht s (by simp)
   ·intro t ht;rcases List.mem_append.1 ht with ht | ht
    ·have:=hb t (by simp [ht]);omega
    ·rw [List.mem_singleton.1 ht];exact Int.le_refl _
   ·constructor
    ·rintro ⟨t,ht,h1,h2⟩;rcases List.mem_append.1 ht with ht | ht
     ·exact .inl ⟨t,by simp [ht],h1,h2⟩
     ·rw [List.mem_singleton.1 ht] at h1 h2;by_cases hy:y<s.b
      ·exact .inl ⟨s,by simp,h1,hy⟩
      ·exact .inr ⟨by omega,h2⟩
    ·rintro (⟨t,ht,h1,h2⟩ | ⟨h1,h2⟩)
     ·rcases List.mem_append.1 ht with ht | ht
      ·exact ⟨t,by simp [ht],h1,h2⟩
      ·rw [List.mem_singleton.1 ht] at h1 h2;exact ⟨⟨s.a,x'⟩,by simp,h1,by show y<x';omega⟩
     ·exact ⟨⟨s.a,x'⟩,by simp,by show s.a≤y;omega,h2⟩
  ·rw [q,cond_false];have q:s.b≠x:=by simpa using q
   refine ⟨⟨?_,?_⟩,?_,fun y=> ?_⟩
   ·intro t ht;rcases List.mem_append.1 ht with ht | ht
    ·exact hc.pos t ht
    ·rw [List.mem_singleton.1 ht];exact hx
   ·refine List.pairwise_append.2 ⟨hc.sep,List.pairwise_singleton _ _,fun t ht u hu=> ?_⟩;rw [List.mem_singleton.1 hu];show t.b<x;rcases List.mem_append.1 ht with h | h
    ·have h1:=sep.2.2 t h s (by simp);omega
    ·rw [List.mem_singleton.1 h];omega
   ·intro t ht;rcases List.mem_append.1 ht with ht | ht
    ·have:=hb t ht;omega
    ·rw [List.mem_singleton.1 ht];exact Int.le_refl _
   ·constructor
    ·rintro ⟨t,ht,h1,h2⟩;rcases List.mem_append.1 ht with ht | ht
     ·exact .inl ⟨t,ht,h1,h2⟩
     ·rw [List.mem_singleton.1 ht] at h1 h2;exact .inr ⟨h1,h2⟩
    ·rintro (⟨t,ht,h1,h2⟩ | ⟨h1,h2⟩)
     ·exact ⟨t,List.mem_append.2 (.inl ht),h1,h2⟩
     ·exact ⟨⟨x,x'⟩,by simp,h1,h2⟩
theorem y6z {l:List Int} (h:l.Pairwise (· < ·)) {i j:Nat} (hij:i<j) (hj:j<l.length):rd l i<rd l j:=by rw [Xy (by omega),Xy hj];exact List.pairwise_iff_getElem.1 h i j (by omega) hj hij
theorem x2g (cuts:List Int) (ins:List Bool) (hc:cuts.Pairwise (· < ·)): ∀(k i:Nat) (out:List R2),i+k<cuts.length∨k=0→Can out→(∀s∈out,s.b≤rd cuts i)→
  Can (w8r cuts ins k i out)∧ ∀y,pt (w8r cuts ins k i out) y↔pt out y∨ ∃j,i≤j∧j<i+k∧rd ins j=true∧rd cuts j≤y∧y<rd cuts (j+1)
 | 0,i,out,h,ho,hb=>⟨ho,fun y=>⟨.inl,fun hy=>hy.elim id fun ⟨j,h1,h2,_⟩=>by omega⟩⟩
 | k +1,i,out,h,ho,hb=>by
  have hlt:rd cuts i<rd cuts (i+1):=y6z hc (Nat.lt_succ_self _) (by omega);obtain ⟨p1,p2,p3⟩:=w2m ho hb hlt;have e:w8r cuts ins (k+1) i out=w8r cuts ins k (i+1) (bif rd ins i then push out (rd cuts i) (rd cuts (i+1)) else out):=rfl;rw [e];rcases Ye (rd ins i) with q | q
  ·rw [q,cond_true];obtain ⟨r1,r2⟩:=x2g cuts ins hc k (i+1) (push out (rd cuts i) (rd cuts (i+1))) (by omega) p1 p2;refine ⟨r1,fun y=> ?_⟩;rw [r2,p3];constructor
   ·rintro ((h | h) | ⟨j,h1,h2,h3⟩)
    ·exact .inl h
    ·exact .inr ⟨i,Nat.le_refl _,by omega,q,h⟩
    ·exact .inr ⟨j,by omega,by omega,h3⟩
   ·rintro (h | ⟨j,h1,h2,h3⟩)
    ·exact .inl (.inl h)
    ·rcases Nat.eq_or_lt_of_le h1 with rfl | h1
     ·exact .inl (.inr h3.2)
     ·exact .inr ⟨j,h1,by omega,h3⟩
  ·rw [q,cond_false];obtain ⟨r1,r2⟩:=x2g cuts ins hc k (i+1) out (by omega) ho (fun s hs=>by have:=hb s hs;omega);refine ⟨r1,fun y=> ?_⟩;rw [r2];constructor
   ·rintro (h | ⟨j,h1,h2,h3⟩)
    ·exact .inl h
    ·exact .inr ⟨j,by omega,by omega,h3⟩
   ·rintro (h | ⟨j,h1,h2,h3⟩)
    ·exact .inl h
    ·rcases Nat.eq_or_lt_of_le h1 with rfl | h1
     ·rw [q] at h3;cases h3.1
     ·exact .inr ⟨j,h1,by omega,h3⟩
theorem w0r {cuts:List Int}: ∀(k:Nat),k<cuts.length→ ∀y,rd cuts 0≤y→y<rd cuts k→ ∃j,j<k∧rd cuts j≤y∧y<rd cuts (j+1)
 | 0,_,y,h1,h2=>by omega
 | k+1,hk,y,h1,h2=>by
  by_cases h:rd cuts k≤y
  ·exact ⟨k,Nat.lt_succ_self _,h,h2⟩
  ·obtain ⟨j,h3,h4⟩:=w0r k (by omega) y h1 (by omega);exact ⟨j,by omega,h4⟩
theorem u1a (cuts:List Int) (hc:cuts.Pairwise (· < ·)) (P:Int→Bool) (S:List R2) (hS: ∀s∈S,s.a∈cuts∧s.b∈cuts) (hP: ∀y,P y=true↔pt S y):
  Can (y1p cuts (cuts.map P))∧ ∀y,pt (y1p cuts (cuts.map P)) y↔pt S y:=by
 obtain ⟨r1,r2⟩:=x2g cuts (cuts.map P) hc (cuts.length - 1) 0 [] (by omega) .nil (by simp);refine ⟨r1,fun y=> ?_⟩;unfold y1p;rw [r2];have hin: ∀x,x∈cuts→ ∃i,i<cuts.length∧rd cuts i=x:=fun x hx=>by obtain ⟨i,hi,h⟩:=List.getElem_of_mem hx;exact ⟨i,hi,by rw [Xy hi];exact h⟩
 have hmap: ∀j,j<cuts.length→rd (cuts.map P) j=P (rd cuts j):=fun j hj=>by rw [Xy (by simpa using hj),Xy hj,List.getElem_map]
 have le_of: ∀i j,i<cuts.length→j<cuts.length→i≤j→rd cuts i≤rd cuts j:=fun i j hi hj hij=>by
  rcases Nat.eq_or_lt_of_le hij with rfl | h
  ·exact Int.le_refl _
  ·exact Int.le_of_lt (y6z hc h hj)
 constructor
 ·rintro (⟨s,hs,_⟩ | ⟨j,h1,h2,h3,h4,h5⟩)
  ·cases hs
  ·have hj:j+1<cuts.length:=by omega
   rw [hmap j (by omega)] at h3;obtain ⟨s,hs,a1,a2⟩:=(hP _).1 h3;obtain ⟨ca,cb⟩:=hS s hs;obtain ⟨m,hm,em⟩:=hin s.b cb;refine ⟨s,hs,by omega,?_⟩;have:j<m:=by
    rcases Nat.lt_or_ge j m with h | h
    ·exact h
    ·have:=le_of m j hm (by omega) h;omega
   have:=le_of (j+1) m hj hm this;omega
 ·rintro ⟨s,hs,a1,a2⟩;right;obtain ⟨ca,cb⟩:=hS s hs;obtain ⟨n,hn,en⟩:=hin s.a ca;obtain ⟨m,hm,em⟩:=hin s.b cb;have h0:=le_of 0 n (by omega) hn (Nat.zero_le _);obtain ⟨j,h1,h2,h3⟩:=w0r m hm y (by omega) (by omega);refine ⟨j,Nat.zero_le _,by omega,?_,h2,h3⟩;rw [hmap j (by omega),hP];refine ⟨s,hs,?_,?_⟩
  ·have:n≤j:=by
    rcases Nat.lt_or_ge j n with h | h
    ·have:=le_of (j+1) n (by omega) hn h;omega
    ·exact h
   have:=le_of n j hn (by omega) this;omega
  ·omega
end Go.Am
namespace Go.Am
open Go.Proofs Go.Sort Go.Shelf Go.RowKit Go.Lib
def net (E:List R3) (y:Int):Int:=(E.map fun e=>if e.a≤y then e.c else 0).sum
theorem Qi (e:R3) (E:List R3) (y:Int):net (e::E) y=(if e.a≤y then e.c else 0)+net E y:=by simp [net]
theorem v8n {E F:List R3} (h:E.Perm F) (y:Int):net E y=net F y:=by
 induction h with
 | nil=>rfl
 | cons e _ ih=>rw [Qi,Qi,ih]
 | swap a b l=>simp only [Qi];omega
 | trans _ _ i1 i2=>rw [i1,i2]
theorem w2p (E:List R3) (y:Int) (h: ∀e∈E,y<e.a):net E y=0:=by
 induction E with
 | nil=>rfl
 | cons e E ih=>rw [Qi,if_neg (by have:=h e (by simp);omega),ih fun f hf=>h f (by simp [hf])];rfl
theorem v4x (out:List R2) (last:Int) (inn:Bool) (x:Int):Vc out last inn x=bif inn&& !(last == x) then push out last x else out:=by
 unfold Vc push;cases inn
 ·rfl
 ·cases (last == x) <;> rfl
theorem y9w {out:List R2} {last x:Int} (inn:Bool) (hc:Can out) (hb: ∀s∈out,s.b≤last) (hx:last≤x):
  Can (Vc out last inn x)∧(∀s∈Vc out last inn x,s.b≤x)∧ ∀y,pt (Vc out last inn x) y↔pt out y∨(inn=true∧last≤y∧y<x):=by
 rw [v4x];rcases Ye (inn&& !(last == x)) with q | q
 ·rw [q,cond_true];simp only [Bool.and_eq_true,Bool.not_eq_true',beq_eq_false_iff_ne,ne_eq] at q;obtain ⟨p1,p2,p3⟩:=w2m hc hb (show last<x by omega);refine ⟨p1,p2,fun y=> ?_⟩;rw [p3];simp [q.1]
 ·rw [q,cond_false];refine ⟨hc,fun s hs=>by have:=hb s hs;omega,fun y=>⟨.inl,fun h=>h.elim id fun ⟨h1,h2,h3⟩=> ?_⟩⟩;rw [h1,Bool.true_and] at q;have:last=x:=by simpa using q
  omega
def Asc (E:List R3):Prop:=E.Pairwise fun e f=>e.a≤f.a
theorem w8z : ∀(E:List R3) (o last:Int) (out:List R2),Asc E→(∀e∈E,last≤e.a)→Can out→(∀s∈out,s.b≤last)→
  Can (swF E o last (decide (o>0)) out)∧ ∀y,pt (swF E o last (decide (o>0)) out) y↔pt out y∨(last≤y∧0<o+net E y∧ ∃e∈E,y<e.a)
 | [],o,last,out,_,_,hc,_=>⟨hc,fun y=>⟨.inl,fun h=>h.elim id fun ⟨_,_,e,he,_⟩=>by cases he⟩⟩
 | e ::r,o,last,out,hE,hl,hc,hb=>by
  have he:=hl e (by simp);have hr:=List.pairwise_cons.1 hE;obtain ⟨p1,p2,p3⟩:=y9w (decide (o>0)) hc hb he;obtain ⟨q1,q2⟩:=w8z r (o+e.c) e.a (Vc out last (decide (o>0)) e.a) hr.2 hr.1 p1 p2;rw [y2b];refine ⟨q1,fun y=> ?_⟩;rw [q2,p3,Qi];constructor
  ·rintro ((h | ⟨h1,h2,h3⟩) | ⟨h1,h2,f,hf,h3⟩)
   ·exact .inl h
   ·right;have h1:=of_decide_eq_true h1;refine ⟨h2,?_,e,by simp,h3⟩;rw [if_neg (by omega),w2p r y fun f hf=>by have:=hr.1 f hf;omega];omega
   ·right;refine ⟨by omega,?_,f,by simp [hf],h3⟩;rw [if_pos h1];omega
  ·rintro (h | ⟨h1,h2,f,hf,h3⟩)
   ·exact .inl (.inl h)
   ·by_cases hy:e.a≤y
    ·right;rw [if_pos hy] at h2;refine ⟨hy,by omega,f,?_,h3⟩;rcases List.mem_cons.1 hf with rfl | hf
     ·omega
     ·exact hf
    ·left;right;rw [if_neg hy,w2p r y fun f hf=>by have:=hr.1 f hf;omega] at h2;exact ⟨decide_eq_true (by omega),h1,by omega⟩
theorem v8o (l:List R2) (hv: ∀s∈l,s.a<s.b) (y:Int):0≤net (Kp l) y∧(0<net (Kp l) y↔pt l y):=by
 induction l with
 | nil=>exact ⟨Int.le_refl _,by simp [net,Kp,pt]⟩
 | cons s l ih=>
  obtain ⟨i1,i2⟩:=ih fun t ht=>hv t (by simp [ht]);have hs:=hv s (by simp);have e:net (Kp (s::l)) y=(if s.a≤y∧y<s.b then 1 else 0)+net (Kp l) y:=by
   show net (⟨s.a,0,1⟩::⟨s.b,0,-1⟩::Kp l) y=_;rw [Qi,Qi];show (if s.a≤y then (1:Int) else 0)+((if s.b≤y then (-1:Int) else 0)+net (Kp l) y)=_;by_cases h1:s.a≤y
   ·by_cases h2:s.b≤y
    ·rw [if_pos h1,if_pos h2,if_neg (show¬(s.a≤y∧y<s.b) by omega)];omega
    ·rw [if_pos h1,if_neg h2,if_pos (show s.a≤y∧y<s.b by omega)];omega
   ·rw [if_neg h1,if_neg (show¬s.b≤y by omega),if_neg (show¬(s.a≤y∧y<s.b) by omega)];omega
  rw [e];by_cases h:s.a≤y∧y<s.b
  ·rw [if_pos h];exact ⟨by omega,⟨fun _=>⟨s,by simp,h⟩,fun _=>by omega⟩⟩
  ·rw [if_neg h];refine ⟨by omega,?_⟩;rw [Int.zero_add,i2];constructor
   ·rintro ⟨t,ht,h2⟩;exact ⟨t,by simp [ht],h2⟩
   ·rintro ⟨t,ht,h2⟩;rcases List.mem_cons.1 ht with rfl | ht
    ·exact absurd h2 h
    ·exact ⟨t,ht,h2⟩
theorem y5p {l:List R2} {s:R2} (h:s∈l):(⟨s.b,0,-1⟩:R3)∈Kp l∧(⟨s.a,0,1⟩:R3)∈Kp l:=
 ⟨List.mem_flatMap.2 ⟨s,h,by simp⟩,List.mem_flatMap.2 ⟨s,h,by simp⟩⟩
theorem w1r (l:List R3) (h:y1q l=true):Asc (z0v l):=by refine List.pairwise_iff_getElem.2 fun i j hi hj hij=> ?_;have:=(Ks l h).2 i j hij hj;rwa [Xy hi,Xy hj] at this
theorem x6l (l:List R2) (hv:l.all z0u=true):Can (swV l)∧ ∀y,pt (swV l) y↔pt l y:=by
 have hb:y1q (Kp l)=true:=List.all_eq_true.2 fun e he=>by obtain ⟨s,hs,h1⟩:=List.mem_flatMap.1 he;have hv:=List.all_eq_true.1 hv s hs;simp only [z0u,Bool.and_eq_true,decide_eq_true_eq] at hv;simp only [List.mem_cons,List.not_mem_nil,or_false] at h1;rcases h1 with rfl | rfl <;> exact decide_eq_true (by simp only;omega)
 have hpos: ∀s∈l,s.a<s.b:=fun s hs=>by have:=List.all_eq_true.1 hv s hs;simp only [z0u,Bool.and_eq_true,decide_eq_true_eq] at this;exact this.1
 obtain ⟨hp,_⟩:=Ks (Kp l) hb;have ha:=w1r (Kp l) hb;have hn: ∀y,net (z0v (Kp l)) y=net (Kp l) y:=fun y=>v8n hp y;unfold swV;generalize z0v (Kp l)=E at hp ha hn;cases E with
 | nil=>refine ⟨.nil,fun y=>⟨fun ⟨s,hs,_⟩=>(by cases hs),fun ⟨s,hs,_⟩=> ?_⟩⟩;have:=hp.mem_iff.2 (y5p hs).1;cases this
 | cons e r=>
  have hr:=List.pairwise_cons.1 ha;rw [y2b,Int.zero_add];have e0:Vc [] 0 false e.a=[]:=rfl;rw [e0];obtain ⟨q1,q2⟩:=w8z r e.c e.a [] hr.2 hr.1 .nil (by simp);refine ⟨q1,fun y=> ?_⟩;rw [q2];obtain ⟨n1,n2⟩:=v8o l hpos y;rw [←n2,←hn,Qi];constructor
  ·rintro (⟨s,hs,_⟩ | ⟨h1,h2,_⟩)
   ·cases hs
   ·rw [if_pos h1];omega
  ·intro h;have hpt:=n2.1 (by rw [←hn,Qi];exact h);obtain ⟨s,hs,s1,s2⟩:=hpt;have m1:=hp.mem_iff.2 (y5p hs).1;have m2:=hp.mem_iff.2 (y5p hs).2;have hea:e.a≤y:=by
    rcases List.mem_cons.1 m2 with h' | h'
    ·rw [←h'];exact s1
    ·have h'':e.a≤s.a:=hr.1 _ h';omega
   right;rw [if_pos hea] at h;refine ⟨hea,h,⟨s.b,0,-1⟩,?_,s2⟩;rcases List.mem_cons.1 m1 with h' | h'
   ·have h'':e.a=s.b:=(by rw [←h']);omega
   ·exact h'
theorem x4b (out:List Int) (hs:out.Pairwise (· < ·)) (x:Int): ∀k,k≤out.length→x8e out x k≤k∧(∀i,x8e out x k≤i→i<k→x<rd out i)∧(0<x8e out x k→rd out (x8e out x k - 1)≤x)
 | 0,_=>⟨Nat.le_refl _,fun i h1 h2=>by omega,fun h=>by simp [x8e] at h⟩
 | k+1,hk=>by
  unfold x8e;rcases Ye (decide (rd out k>x)) with q | q
  ·rw [q,cond_true];obtain ⟨h1,h2,h3⟩:=x4b out hs x k (by omega);refine ⟨by omega,fun i a b=> ?_,h3⟩;rcases Nat.eq_or_lt_of_le (Nat.le_of_lt_succ b) with rfl | b
   ·exact of_decide_eq_true q
   ·exact h2 i a b
  ·rw [q,cond_false];exact ⟨Nat.le_refl _,fun i a b=>by omega,fun _=>by have:=of_decide_eq_false q;simp only [Nat.add_sub_cancel];omega⟩
theorem v3f (out:List Int) (hs:out.Pairwise (· < ·)) (x:Int):(y5f out x).Pairwise (· < ·)∧ ∀y,y∈y5f out x↔y∈out∨y=x:=by
 obtain ⟨h1,h2,h3⟩:=x4b out hs x out.length (Nat.le_refl _);unfold y5f;split
 ·rename_i h0;rw [h0] at h2;refine ⟨List.pairwise_cons.2 ⟨fun y hy=> ?_,hs⟩,fun y=>by simp [or_comm]⟩;obtain ⟨i,hi,rfl⟩:=List.getElem_of_mem hy;have:=h2 i (Nat.zero_le _) hi;rwa [Xy hi] at this
 ·rename_i k hk;rw [hk] at h1 h2 h3;have h3:rd out k≤x:=h3 (Nat.succ_pos _);have hkl:k<out.length:=by omega
  rcases Ye (rd out k == x) with q | q
  ·rw [q,cond_true];have q:rd out k=x:=by simpa using q
   refine ⟨hs,fun y=>⟨.inl,fun h=>h.elim id fun e=> ?_⟩⟩;rw [e,←q,Xy hkl];exact List.getElem_mem hkl
  ·rw [q,cond_false];have q:rd out k≠x:=by simpa using q
   refine ⟨?_,fun y=> ?_⟩
   ·have st:(out.take (k+1)).Pairwise (· < ·):=hs.sublist (List.take_sublist _ _);have sd:(out.drop (k+1)).Pairwise (· < ·):=hs.sublist (List.drop_sublist _ _);have ht: ∀y∈out.take (k+1),y<x:=fun y hy=>by
     obtain ⟨i,hi,rfl⟩:=List.getElem_of_mem hy;have hi':i<k+1:=by simp at hi;omega
     rw [List.getElem_take];have:rd out i≤rd out k:=by
      rcases Nat.eq_or_lt_of_le (Nat.le_of_lt_succ hi') with rfl | h
      ·exact Int.le_refl _
      ·exact Int.le_of_lt (y6z hs h hkl)
     rw [Xy (show i<out.length by omega)] at this;omega
    have hd: ∀y∈out.drop (k+1),x<y:=fun y hy=>by
     obtain ⟨i,hi,rfl⟩:=List.getElem_of_mem hy;have hi':k+1+i<out.length:=by simp at hi;omega
     rw [List.getElem_drop,←Xy hi'];exact h2 _ (by omega) hi'
    refine List.pairwise_append.2 ⟨st,List.pairwise_cons.2 ⟨hd,sd⟩,fun a ha b hb=> ?_⟩;rcases List.mem_cons.1 hb with rfl | hb
    ·exact ht a ha
    ·exact Int.lt_trans (ht a ha) (hd b hb)
   ·rw [List.mem_append,List.mem_cons];constructor
    ·rintro (h | h | h)
     ·exact .inl (List.mem_of_mem_take h)
     ·exact .inr h
     ·exact .inl (List.mem_of_mem_drop h)
    ·rintro (h | h)
     ·rw [←List.take_append_drop (k+1) out,List.mem_append] at h;exact h.elim .inl fun h=>.inr (.inr h)
     ·exact .inr (.inl h)
theorem Xn (l:List Int):(z3o l).Pairwise (· < ·)∧ ∀y,y∈z3o l↔y∈l:=by
 have: ∀(l out:List Int),out.Pairwise (· < ·)→(l.foldl y5f out).Pairwise (· < ·)∧ ∀y,y∈l.foldl y5f out↔y∈out∨y∈l:=by
  intro l
  induction l with
  | nil=>intro out h;exact ⟨h,fun y=>by simp⟩
  | cons x l ih=>intro out h;obtain ⟨a,b⟩:=v3f out h x;obtain ⟨c,d⟩:=ih (y5f out x) a;refine ⟨c,fun y=> ?_⟩;show y∈l.foldl y5f (y5f out x)↔_;rw [d,b,List.mem_cons,or_assoc]
 obtain ⟨a,b⟩:=this l [] .nil;exact ⟨a,fun y=>by rw [z3o,b];simp⟩
theorem y1f : ∀(l m:List Int),l.Pairwise (· < ·)→m.Pairwise (· < ·)→(∀x,x∈l↔x∈m)→l=m
 | [],[],_,_,_=>rfl
 | [],b::m,_,_,h=>by have:=(h b).2 (by simp);cases this
 | a::l,[],_,_,h=>by have:=(h a).1 (by simp);cases this
 | a::l,b::m,hl,hm,h=>by
  obtain ⟨a1,a2⟩:=List.pairwise_cons.1 hl;obtain ⟨b1,b2⟩:=List.pairwise_cons.1 hm;have e:a=b:=by
   have x1:=(h a).1 (by simp);have x2:=(h b).2 (by simp);rcases List.mem_cons.1 x1 with x1 | x1
   ·exact x1
   rcases List.mem_cons.1 x2 with x2 | x2
   ·exact x2.symm
   have:=b1 a x1;have:=a1 b x2;omega
  subst e
  congr 1
  refine y1f l m a2 b2 fun x=>⟨fun hx=> ?_,fun hx=> ?_⟩
  ·rcases List.mem_cons.1 ((h x).1 (by simp [hx])) with e | e
   ·have:=a1 x hx;omega
   ·exact e
  ·rcases List.mem_cons.1 ((h x).2 (by simp [hx])) with e | e
   ·have:=b1 x hx;omega
   ·exact e
theorem y1i (zs:List Int) (hs:zs.Pairwise (· ≤ ·)): ∀m,m≤zs.length→(compactUpTo zs.toArray m).Pairwise (· < ·)∧ ∀x,x∈compactUpTo zs.toArray m↔x∈zs.take m
 | 0,_=>by simp [compactUpTo]
 | m +1,h=>by
  obtain ⟨h1,h2⟩:=y1i zs hs m (by omega);have hg: ∀j (hj:j<zs.length),zs.toArray[j]! =zs[j]:=fun j hj=>by simp [hj]
  have hle: ∀i j (hi:i<zs.length) (hj:j<zs.length),i<j→zs[i]≤zs[j]:=fun i j hi hj hij=>List.pairwise_iff_getElem.1 hs i j hi hj hij;have hm:m<zs.length:=by omega
  rw [compactUpTo_succ,hg m hm,List.take_succ_eq_append_getElem hm];by_cases hk:keeps zs.toArray m=true
  ·rw [if_pos hk];refine ⟨List.pairwise_append.2 ⟨h1,List.pairwise_singleton _ _,fun x hx y hy=> ?_⟩,fun x=>by rw [List.mem_append,List.mem_append,h2 x]⟩;rw [List.mem_singleton.1 hy];obtain ⟨i,hi,rfl⟩:=List.getElem_of_mem ((h2 x).1 hx);have hi':i<m:=by simp at hi;omega
   rw [List.getElem_take];simp only [keeps,decide_eq_true_eq] at hk;rcases hk with hk | hk
   ·omega
   ·rw [hg m hm,hg (m - 1) (by omega)] at hk;have k1:zs[i]≤zs[m - 1]:=by
     rcases Nat.lt_or_ge i (m - 1) with q | q
     ·exact hle i (m - 1) _ _ q
     ·have e:i=m - 1:=(by omega);subst e;exact Int.le_refl _
    have k2:=hle (m - 1) m (by omega) hm (by omega);omega
  ·rw [if_neg hk,List.append_nil];refine ⟨h1,fun x=> ?_⟩;rw [h2 x,List.mem_append,List.mem_singleton];refine ⟨.inl,fun hx=>hx.elim id fun e=> ?_⟩;simp only [keeps,decide_eq_true_eq,not_or,Decidable.not_not] at hk;rw [hg m hm,hg (m - 1) (by omega)] at hk;rw [e,hk.2];have:m - 1<(zs.take m).length :=by simp;omega
   have e2:(zs.take m)[m - 1]=zs[m - 1]:=List.getElem_take;rw [←e2];exact List.getElem_mem this
theorem srt_le (zs:List Int):(Xm zs).Pairwise (· ≤ ·):=by have:=List.pairwise_mergeSort (le:=fun x y:Int=>decide (x≤y)) (fun a b c h1 h2=>by simp at*;omega) (fun a b=>by simp;omega) zs;exact this.imp fun h=>by simpa using h
theorem u6t (zs:List Int) (x:Int):x∈Xm zs↔x∈zs:=List.mem_mergeSort
theorem Jz (zs:List Int):Jj zs=z3o zs:=by obtain ⟨h1,h2⟩:=y1i (Xm zs) (srt_le zs) (Xm zs).length (Nat.le_refl _);obtain ⟨s1,s2⟩:=Xn zs;refine y1f _ _ h1 s1 fun x=> ?_;rw [show Jj zs=compactUpTo (Xm zs).toArray (Xm zs).length from rfl,h2 x,List.take_length,u6t,s2]
end Go.Am
namespace Go.Am
open Go.Proofs Go.Sort Go.Shelf Go.RowKit Go.Lib
namespace Dim
variable {α β:Type} (D:Dim α β)
def ref (sec:Int→List β) (cs:List Int):Nat→Nat→List α→List β→Nat→List α
 | 0,_,out,_,_=>out
 | k+1,i,out,last,first=>
  bif decide (0<i)&&D.same (sec (rd cs i)) last then ref sec cs k (i+1) (D.grow out first (rd cs (i+1))) last first
  else ref sec cs k (i+1) (out++(sec (rd cs i)).map (D.put (rd cs i) (rd cs (i+1)))) (sec (rd cs i)) out.length
theorem ref_eq (hs: ∀a b,D.same a b=true↔a=b) (l:List α): ∀(k i:Nat) (s:Sw α β) (out:List α) (last:List β) (first:Nat),
  s.out=out→s.last=last→(last≠ []→s.first=first)→(last=[]→out.length≤first)→(0<i→s.fin=rd (D.cuts l) i)→(i=0→last=[])→
  (D.go l k i s).out =D.ref (D.sec l) (D.cuts l) k i out last first
 | 0,i,s,out,last,first,h1,h2,h3,h4,h5,h6=>h1
 | k +1,i,s,out,last,first,h1,h2,h3,h4,h5,h6=>by
  subst h1 h2;have e1:D.go l (k+1) i s=D.go l k (i+1) (D.one l (rd (D.cuts l) i) (rd (D.cuts l) (i+1)) s):=rfl;rw [e1];unfold ref;rcases Ye (decide (0<(D.sec l (rd (D.cuts l) i)).length)&&((s.fin == rd (D.cuts l) i)&&D.same s.last (D.sec l (rd (D.cuts l) i)))) with q | q
  ·have e:D.one l (rd (D.cuts l) i) (rd (D.cuts l) (i+1)) s=⟨D.grow s.out s.first (rd (D.cuts l) (i+1)),s.last,s.first,rd (D.cuts l) (i+1)⟩:=by unfold one;rw [q];rfl
   simp only [Bool.and_eq_true,decide_eq_true_eq] at q;obtain ⟨q1,q2,q3⟩:=q;have q3:=(hs _ _).1 q3;have hne:s.last≠ []:=fun h=>by rw [h] at q3;rw [←q3] at q1;exact Nat.lt_irrefl _ q1
   have hi:0<i:=Nat.pos_of_ne_zero fun h=>hne (h6 h);have e2:(decide (0<i)&&D.same (D.sec l (rd (D.cuts l) i)) s.last)=true:=by rw [decide_eq_true hi,Bool.true_and,hs,q3]
   rw [e2,cond_true,e];refine ref_eq hs l k (i+1) _ _ _ _ ?_ rfl h3 (fun h=>absurd h hne) (fun _=>rfl) (fun h=>by omega);rw [h3 hne]
  ·have e:D.one l (rd (D.cuts l) i) (rd (D.cuts l) (i+1)) s=⟨s.out++(D.sec l (rd (D.cuts l) i)).map (D.put (rd (D.cuts l) i) (rd (D.cuts l) (i+1))),D.sec l (rd (D.cuts l) i),s.out.length,rd (D.cuts l) (i+1)⟩:=by unfold one;rw [q];rfl
   rcases Ye (decide (0<i)&&D.same (D.sec l (rd (D.cuts l) i)) s.last) with q2 | q2
   ·rw [q2,cond_true,e];simp only [Bool.and_eq_true,decide_eq_true_eq] at q2;obtain ⟨hi,q3⟩:=q2;have q3:=(hs _ _).1 q3;rw [(hs s.last (D.sec l (rd (D.cuts l) i))).2 q3.symm,Bool.and_true,h5 hi] at q;have hz:D.sec l (rd (D.cuts l) i)=[]:=by
     cases h:D.sec l (rd (D.cuts l) i) with
     | nil=>rfl
     | cons a b=>rw [h] at q;simp at q
    have hl:s.last=[]:=(by rw [←q3,hz]);have hf:=h4 hl;rw [hz,List.map_nil,List.append_nil];refine ref_eq hs l k (i+1) _ _ _ _ ?_ hl.symm (fun h=>absurd hl h) (fun _=> ?_) (fun _=>rfl) (fun h=>by omega)
    ·exact (D.grow_nil _ _ _ hf).symm
    ·rw [D.grow_length];exact hf
   ·rw [q2,cond_false,e];exact ref_eq hs l k (i+1) _ _ _ _ rfl rfl (fun _=>rfl) (fun h=>by rw [h];simp) (fun _=>rfl) (fun h=>by omega)
theorem out_eq (hs: ∀a b,D.same a b=true↔a=b) (l:List α):D.out l=D.ref (D.sec l) (D.cuts l) ((D.cuts l).length - 1) 0 [] [] 0:=
 D.ref_eq hs l _ 0 _ [] [] 0 rfl rfl (fun _=>rfl) (fun _=>Nat.le_refl _) (fun h=>absurd h (Nat.lt_irrefl _)) (fun _=>rfl)
end Dim
theorem j3k (l:List R4):D4.cuts l=xsV l []:=by unfold Dim.cuts xsV;rw [Jz,show z3t ([]:List R4)=[] from rfl,List.append_nil];rfl
theorem j2r (l:List R4) (x y:Int):u0y 2 l [] x y=has4V l x y:=by unfold u0y y5h;show (has4V l x y||has4V [] x y)=_;rw [show has4V [] x y=false from rfl,Bool.or_false]
theorem x1u {l:List R4} {x:Int} {s:R2} (h:s∈D4.inn l x): ∃r∈l,r.a≤x∧x<r.c∧s=⟨r.b,r.d⟩:=by obtain ⟨r,hr,e⟩:=List.mem_map.1 h;obtain ⟨h1,h2⟩:=List.mem_filter.1 hr;simp only [Bool.and_eq_true,decide_eq_true_eq] at h2;exact ⟨r,h1,h2.1,h2.2,e.symm⟩
theorem u9w {l:List R4} {x:Int} {r:R4} (h:r∈l) (h1:r.a≤x) (h2:x<r.c):(⟨r.b,r.d⟩:R2)∈D4.inn l x:=by refine List.mem_map.2 ⟨r,List.mem_filter.2 ⟨h,?_⟩,rfl⟩;simp only [Bool.and_eq_true,decide_eq_true_eq];exact ⟨h1,h2⟩
theorem sec_eq (l:List R4) (hv:l.all Vw=true) (hl:l.length≤400) (x:Int):D4.sec l x=w1v 2 l [] x:=by
 have hin:=D4.inn_length l x;have hvi:(D4.inn l x).all z0u=true:=List.all_eq_true.2 fun s hs=>by obtain ⟨r,hr,_,_,rfl⟩:=x1u hs;have:=List.all_eq_true.1 hv r hr;simp only [Vw,z0u,Bool.and_eq_true,decide_eq_true_eq] at this ⊢;omega
 have e1:D4.sec l x=swV (D4.inn l x):=by show Xd (D4.inn l x)=_;unfold Xd;rw [decide_eq_false (by omega),hvi];rfl
 obtain ⟨c1,c2⟩:=x6l _ hvi;obtain ⟨y1,y2⟩:=Xn (z2l l++z2l []);have e2:w1v 2 l [] x=y1p (ysV l []) ((ysV l []).map fun y=>has4V l x y):=by
  unfold w1v
  congr 1
  exact List.map_congr_left fun y _=>j2r l x y
 obtain ⟨d1,d2⟩:=u1a (ysV l []) y1 (fun y=>has4V l x y) (D4.inn l x) (fun s hs=>by
  obtain ⟨r,hr,_,_,rfl⟩:=x1u hs;unfold ysV;exact ⟨(y2 _).2 (List.mem_append.2 (.inl (List.mem_flatMap.2 ⟨r,hr,by simp⟩))),(y2 _).2 (List.mem_append.2 (.inl (List.mem_flatMap.2 ⟨r,hr,by simp⟩)))⟩) (fun y=>by
  unfold has4V;rw [List.any_eq_true];constructor
  ·rintro ⟨r,hr,h⟩;simp only [in4,Bool.and_eq_true,decide_eq_true_eq] at h;exact ⟨_,u9w hr h.1 h.2.1,h.2.2.1,h.2.2.2⟩
  ·rintro ⟨s,hs,h1,h2⟩;obtain ⟨r,hr,r1,r2,rfl⟩:=x1u hs;refine ⟨r,hr,?_⟩;simp only [in4,Bool.and_eq_true,decide_eq_true_eq];exact ⟨r1,r2,h1,h2⟩)
 rw [e1,e2];exact v5c _ _ c1 d1 fun y=>by rw [c2,d2]
theorem v3a (l:List R4): ∀(k i:Nat) (out:List R4) (last:List R2) (first:Nat),jF 2 l [] k i out last first=D4.ref (w1v 2 l []) (xsV l []) k i out last first
 | 0,_,_,_,_=>rfl
 | k+1,i,out,last,first=>by unfold jF Dim.ref;rw [v3a l k,v3a l k];rfl
theorem joV_eq (l:List R4) (hv:l.all Vw=true) (hl:l.length≤400):D4.out l=joV 2 l []:=by
 rw [D4.out_eq (fun a b=>decide_eq_true_iff) l,joV,v3a,←j3k]
 congr 1
 funext x
 exact sec_eq l hv hl x
theorem v5x (l:List R6):D6.cuts l=Vk l []:=by unfold Dim.cuts Vk;rw [Jz,show z3s ([]:List R6)=[] from rfl,List.append_nil];rfl
theorem u6g (l:List R6) (z:Int):D6.inn l z=atV l z:=rfl
theorem w8w (r:R6):Ko r=w4m r:=by
 unfold Ko w4m;simp only [x1x,x1y];rw [Bool.eq_iff_iff];simp only [Bool.and_eq_true,decide_eq_true_eq];have m1: ∀x y z:Int,x≤min y z↔x≤y∧x≤z:=fun x y z=>by omega
 have m2: ∀x y z:Int,max y z≤x↔y≤x∧z≤x:=fun x y z=>by omega
 simp only [ge_iff_le,m1,m2];constructor <;> intro h <;> (repeat' apply And.intro) <;> omega
theorem v5g (l:List R6) (hv:l.all Ko=true) (z:Int):(atV l z).all Vw=true:=List.all_eq_true.2 fun s hs=>by
 obtain ⟨r,hr,rfl⟩:=List.mem_map.1 hs;have:=List.all_eq_true.1 hv r (List.mem_filter.1 hr).1;rw [w8w] at this;simp only [w4m,Bool.and_eq_true,decide_eq_true_eq] at this;show Vw ⟨r.a,r.b,r.d,r.e⟩=true;simp only [Vw,Bool.and_eq_true,decide_eq_true_eq]
 (repeat' apply And.intro) <;> omega
section
variable (l:List R6) (hv:l.all Ko=true) (hl:l.length≤400)
include hv hl
theorem u6b (z:Int):D4.out (atV l z)=joV 2 (atV l z) []:=joV_eq _ (v5g l hv z) (Nat.le_trans (z2g l z) hl)
theorem u6a (z:Int):v5f l z=y1o 2 l [] z:=by
 have h1:=u6b l hv hl z;have h2:=z2g l z;have e:joV 2 (atV [] z) []=[]:=rfl;unfold v5f y1o x2w;rw [e,show atV ([]:List R6) z=[] from rfl,u6g];unfold Xc;rw [decide_eq_false (by omega),v5g l hv z,h1,cond_false,cond_true];by_cases h:400<(joV 2 (atV l z) []).length
 ·rw [decide_eq_true (show ((joV 2 (atV l z) []).length :Int)>400 by omega),decide_eq_true h];rfl
 ·rw [decide_eq_false (show¬((joV 2 (atV l z) []).length :Int)>400 by omega),decide_eq_false h];rfl
theorem u7m (z:Int) (h:v5f l z=false):D6.sec l z=x2w 2 l [] z:=by
 have h1:=u6b l hv hl z;have h2:=z2g l z;rw [u6a l hv hl] at h;show Zb (D6.inn l z)=joV 2 (atV l z) (atV [] z);rw [u6g];unfold Zb;have h3: ¬400<(joV 2 (atV l z) []).length :=fun hh=>by unfold y1o x2w at h;rw [show atV ([]:List R6) z=[] from rfl,decide_eq_true hh] at h;cases h
 rw [decide_eq_false (by omega),v5g l hv z,h1,cond_false,cond_true,decide_eq_false (by omega)];rfl
theorem x9j : ∀(k i:Nat) (out:List R6) (last:List R4) (first:Nat),jsF 2 l [] k i out last first=bif okF l k i then some (D6.ref (D6.sec l) (D6.cuts l) k i out last first) else none
 | 0,_,_,_,_=>rfl
 | k+1,i,out,last,first=>by
  unfold jsF okF Dim.ref;rw [←v5x,←u6a l hv hl];rcases Ye (v5f l (rd (D6.cuts l) i)) with q | q
  ·rw [q];rfl
  ·have:=u7m l hv hl _ q;rw [q,cond_false,cond_false,this,x9j k,x9j k];have e:D6.same (x2w 2 l [] (rd (D6.cuts l) i)) last=Jv (x2w 2 l [] (rd (D6.cuts l) i)) last:=rfl;rw [e];cases (decide (0<i)&&Jv (x2w 2 l [] (rd (D6.cuts l) i)) last) <;> rfl
theorem jsO_eq :jsO 2 l []=bif okF l ((D6.cuts l).length - 1) 0 then some (D6.out l) else none:=by unfold jsO;rw [x9j l hv hl,←v5x,D6.out_eq (fun a b=>decide_eq_true_iff) l]
end
theorem u0z (l:List R6):Yr l=y0z l:=by
 unfold Yr y0z;by_cases h:400<l.length
 ·rw [decide_eq_true h];rfl
 ·rw [decide_eq_false h,cond_false,cond_false,show l.all w4m=l.all Ko from by congr 1;funext r;exact (w8w r).symm];rcases Ye (l.all Ko) with hv | hv
  ·rw [hv,cond_true,cond_true];unfold rckF x4s z6p;rw [jsO_eq l hv (by omega)];rcases Ye (okF l ((D6.cuts l).length - 1) 0) with q | q
   ·rw [q,cond_true,cond_true];show _=bif decide (((D6.out l).length :Int)≤400) then (bif Kx (D6.out l) l then 0 else 8) else 8;by_cases h2:((D6.out l).length :Int)>400
    ·rw [decide_eq_true h2,decide_eq_false (by omega)];rfl
    ·rw [decide_eq_false h2,decide_eq_true (by omega)];rfl
   ·rw [q];rfl
  ·rw [hv];rfl
end Go.Am
namespace Go.Am
def Cg (x y:Int):Prop:=(18446744073709551616:Int)∣x - y
theorem Cg.refl (x:Int):Cg x x:=by unfold Cg;rw [Int.sub_self];exact Int.dvd_zero _
theorem Cg.symm {x y:Int} (h:Cg x y):Cg y x:=by unfold Cg at*;omega
theorem Cg.trans {x y z:Int} (h:Cg x y) (k:Cg y z):Cg x z:=by unfold Cg at*;omega
theorem Cg.add {x y u v:Int} (h:Cg x y) (k:Cg u v):Cg (x+u) (y+v):=by unfold Cg at*;omega
theorem Cg.sub {x y u v:Int} (h:Cg x y) (k:Cg u v):Cg (x - u) (y - v):=by unfold Cg at*;omega
theorem Cg.mul {x y u v:Int} (h:Cg x y) (k:Cg u v):Cg (x*u) (y*v):=by
 unfold Cg at*;have:x*u - y*v=(x - y)*u+y*(u - v):=by rw [Int.sub_mul,Int.mul_sub];omega
 rw [this];exact Int.dvd_add (Int.dvd_mul_of_dvd_left h) (Int.dvd_mul_of_dvd_right k)
theorem Cg.wrap (x:Int):Cg (IntKind.wrap .i64 x) x:=by rw [w64];unfold Cg;omega
theorem Cg.eq {x y:Int} (h:Cg x y):IntKind.wrap .i64 x=IntKind.wrap .i64 y:=by rw [w64,w64];unfold Cg at h;omega
theorem Cg.w {x y:Int} (h:Cg x y):Cg (IntKind.wrap .i64 x) y:=(Cg.wrap x).trans h
theorem Cg.is {x y:Int} (h:Cg x y) (hx: -9223372036854775808≤x∧x≤9223372036854775807) (hy: -9223372036854775808≤y∧y≤9223372036854775807):x=y:=by unfold Cg at h;omega
def bxV (r:R6):Int:=(r.d - r.a)*(r.e - r.b)*(r.f - r.c)
def ovl (a b c d:Int):Int:=max 0 (min b d - max a c)
def ov (r s:R6):Int:=ovl r.a r.d s.a s.d*ovl r.b r.e s.b s.e*ovl r.c r.f s.c s.f
theorem Jb (a b c d:Int):ovl a b c d=ovl c d a b:=by unfold ovl;omega
def nx (d:Int) (r:R6):R6:=
 let t:=1 - 2*Int.tmod d 2
 bif Int.tdiv d 2 == 0 then ⟨r.a+t,r.b,r.c,r.d+t,r.e,r.f⟩ else bif Int.tdiv d 2 == 1 then ⟨r.a,r.b+t,r.c,r.d,r.e+t,r.f⟩ else ⟨r.a,r.b,r.c+t,r.d,r.e,r.f+t⟩
def rv (d:Int):Int:=d+1 - 2*Int.tmod d 2
theorem x8g (d:Int) (h:0≤d∧d≤5) (r s:R6):ov (nx d r) s=ov (nx (rv d) s) r:=by
 have:d=0∨d=1∨d=2∨d=3∨d=4∨d=5:=by omega
 have e: ∀(t a b c d:Int),ovl (a+t) (b+t) c d=ovl (c+ -t) (d+ -t) a b:=fun t a b c d=>by unfold ovl;omega
 rcases this with rfl | rfl | rfl | rfl | rfl | rfl
 ·show ovl (r.a+1) (r.d+1) s.a s.d*ovl r.b r.e s.b s.e*ovl r.c r.f s.c s.f=ovl (s.a+ -1) (s.d+ -1) r.a r.d*ovl s.b s.e r.b r.e*ovl s.c s.f r.c r.f;rw [e,Jb r.b,Jb r.c]
 ·show ovl (r.a+ -1) (r.d+ -1) s.a s.d*ovl r.b r.e s.b s.e*ovl r.c r.f s.c s.f=ovl (s.a+1) (s.d+1) r.a r.d*ovl s.b s.e r.b r.e*ovl s.c s.f r.c r.f;rw [e,Jb r.b,Jb r.c];rfl
 ·show ovl r.a r.d s.a s.d*ovl (r.b+1) (r.e+1) s.b s.e*ovl r.c r.f s.c s.f=ovl s.a s.d r.a r.d*ovl (s.b+ -1) (s.e+ -1) r.b r.e*ovl s.c s.f r.c r.f;rw [e,Jb r.a,Jb r.c]
 ·show ovl r.a r.d s.a s.d*ovl (r.b+ -1) (r.e+ -1) s.b s.e*ovl r.c r.f s.c s.f=ovl s.a s.d r.a r.d*ovl (s.b+1) (s.e+1) r.b r.e*ovl s.c s.f r.c r.f;rw [e,Jb r.a,Jb r.c];rfl
 ·show ovl r.a r.d s.a s.d*ovl r.b r.e s.b s.e*ovl (r.c+1) (r.f+1) s.c s.f=ovl s.a s.d r.a r.d*ovl s.b s.e r.b r.e*ovl (s.c+ -1) (s.f+ -1) r.c r.f;rw [e,Jb r.a,Jb r.b]
 ·show ovl r.a r.d s.a s.d*ovl r.b r.e s.b s.e*ovl (r.c+ -1) (r.f+ -1) s.c s.f=ovl s.a s.d r.a r.d*ovl s.b s.e r.b r.e*ovl (s.c+1) (s.f+1) r.c r.f;rw [e,Jb r.a,Jb r.b];rfl
def sm {α:Type} (l:List α) (f:α→Int):Int:=(l.map f).sum
theorem z1o {α:Type} (f:α→Int):sm ([]:List α) f=0:=rfl
theorem Xf {α:Type} (x:α) (l:List α) (f:α→Int):sm (x::l) f=f x+sm l f:=by simp [sm]
theorem Ug {α:Type} (l m:List α) (f:α→Int):sm (l++m) f=sm l f+sm m f:=by simp [sm]
theorem Zs {α:Type} {l:List α} {f g:α→Int} (h: ∀x∈l,f x=g x):sm l f=sm l g:=by unfold sm;rw [List.map_congr_left h]
theorem z3p {α:Type} (l:List α) (f g:α→Int):sm l (fun x=>f x+g x)=sm l f+sm l g:=by
 induction l with
 | nil=>rfl
 | cons x l ih=>simp only [Xf,ih];omega
theorem z3y {α:Type} (l:List α) (f g:α→Int):sm l (fun x=>f x - g x)=sm l f - sm l g:=by
 induction l with
 | nil=>rfl
 | cons x l ih=>simp only [Xf,ih];omega
theorem w1s {α:Type} (l:List α) (f:α→Int) (c:Int):sm l (fun x=>f x*c)=sm l f*c:=by
 induction l with
 | nil=>simp [sm]
 | cons x l ih=>simp only [Xf,ih,Int.add_mul]
theorem z2o {α:Type} (l:List α) (f:α→Int) (c:Int):sm l (fun x=>c*f x)=c*sm l f:=by
 induction l with
 | nil=>simp [sm]
 | cons x l ih=>simp only [Xf,ih,Int.mul_add]
theorem z0d {α:Type} (l:List α):sm l (fun _=>0)=0:=by
 induction l with
 | nil=>rfl
 | cons x l ih=>rw [Xf,ih];rfl
theorem z0e {α β:Type} (l:List α) (m:List β) (f:α→β→Int):sm l (fun x=>sm m (f x))=sm m (fun y=>sm l fun x=>f x y):=by
 induction l with
 | nil=>simp only [z1o,z0d]
 | cons x l ih=>simp only [Xf,ih,z3p]
theorem u7a {α:Type} {l:List α} {f g:α→Int} (h: ∀x∈l,f x≤g x):sm l f≤sm l g:=by
 induction l with
 | nil=>exact Int.le_refl _
 | cons x l ih=>rw [Xf,Xf];exact Int.add_le_add (h x (by simp)) (ih fun y hy=>h y (by simp [hy]))
theorem x3g {α:Type} {l:List α} {f:α→Int} (h: ∀x∈l,0≤f x):0≤sm l f:=by have:=u7a h;rwa [z0d] at this
theorem w5c {α:Type} {l:List α} {f:α→Int} (h: ∀x∈l,0≤f x) (h0:sm l f=0): ∀x∈l,f x=0:=by
 induction l with
 | nil=>intro x hx;cases hx
 | cons y l ih=>
  rw [Xf] at h0;have h1:=h y (by simp);have h2:=x3g fun x hx=>h x (List.mem_cons_of_mem y hx);intro x hx;rcases List.mem_cons.1 hx with rfl | hx
  ·omega
  ·exact ih (fun z hz=>h z (by simp [hz])) (by omega) x hx
theorem w5b {α β:Type} (l:List α) (g:α→List β) (f:β→Int):sm (l.flatMap g) f=sm l fun x=>sm (g x) f:=by
 induction l with
 | nil=>rfl
 | cons x l ih=>rw [List.flatMap_cons,Ug,Xf,ih]
theorem w9o {α β:Type} (l:List α) (g:α→β) (f:β→Int):sm (l.map g) f=sm l fun x=>f (g x):=by simp [sm,Function.comp_def]
def S2 (X Y:List R6):Int:=sm X fun x=>sm Y fun y=>ov x y
def E2 (d:Int) (X Y:List R6):Int:=sm X fun x=>sm Y fun y=>ov (nx d x) y
theorem E2_map (d:Int) (X Y:List R6):S2 (X.map (nx d)) Y=E2 d X Y:=by unfold S2 E2;rw [w9o]
theorem w1l (d:Int) (h:0≤d∧d≤5) (X Y:List R6):E2 d X Y=E2 (rv d) Y X:=by unfold E2;rw [z0e];exact Zs fun y _=>Zs fun x _=>x8g d h x y
def Eqv (B B':List R6):Prop:= ∀f,sm B f=sm B' f
theorem Eqv.refl (X:List R6):Eqv X X:=fun _=>rfl
def c1 (d:Int) (X Y B:List R6):Int:=(E2 d X Y - E2 d B Y) - (E2 d X B - E2 d B B)
end Go.Am
namespace Go.Am
open Go.Proofs Go.Sort Go.Shelf Go.RowKit Go.Lib
namespace Dim
variable {α β:Type} (D:Dim α β)
structure Fair :Prop where
 lo_put: ∀x x' b,D.lo (D.put x x' b)=x
 hi_put: ∀x x' b,D.hi (D.put x x' b)=x'
 pr_put: ∀x x' b,D.pr (D.put x x' b)=b
 ext_put: ∀x x' x'' b,D.ext x'' (D.put x x' b)=D.put x x'' b
def Ap (R:β→β→Prop) (a b:α):Prop:=D.hi a≤D.lo b∨D.hi b≤D.lo a∨R (D.pr a) (D.pr b)
theorem v0x {D:Dim α β} (hD:D.Fair) (R:β→β→Prop) (sec:Int→List β) (cs:List Int) (hc:cs.Pairwise (· < ·)) (eI: ∀x,(sec x).Pairwise R):
  ∀(k i:Nat) (pre:List α) (last:List β) (x0:Int),(i+k<cs.length∨k=0)→pre.Pairwise (D.Ap R)→(∀a∈pre,D.hi a≤x0)→(last≠ []→x0≤rd cs i)→(last=[]→x0≤rd cs i)→last.Pairwise R→
  (D.ref sec cs k i (pre++last.map (D.put x0 (rd cs i))) last pre.length).Pairwise (D.Ap R):=by
 have fin: ∀(pre:List α) (last:List β) (x0 x':Int),pre.Pairwise (D.Ap R)→(∀a∈pre,D.hi a≤x0)→last.Pairwise R→(pre++last.map (D.put x0 x')).Pairwise (D.Ap R):=fun pre last x0 x' h1 h2 h3=>by
  refine List.pairwise_append.2 ⟨h1,?_,fun a ha b hb=> ?_⟩
  ·refine List.pairwise_map.2 (h3.imp fun {a b} h=>.inr (.inr ?_));rw [hD.pr_put,hD.pr_put];exact h
  ·obtain ⟨c,_,rfl⟩:=List.mem_map.1 hb;exact .inl (by rw [hD.lo_put];exact h2 a ha)
 intro k
 induction k with
 | zero=>intro i pre last x0 _ h1 h2 _ _ h3;exact fin pre last x0 _ h1 h2 h3
 | succ k ih=>
  intro i pre last x0 hk h1 h2 h4 h5 h3;have hlt:rd cs i<rd cs (i+1):=y6z hc (Nat.lt_succ_self _) (by omega);unfold ref;cases hq:(decide (0<i)&&D.same (sec (rd cs i)) last) with
  | true=>
   rw [cond_true];have e:D.grow (pre++last.map (D.put x0 (rd cs i))) pre.length (rd cs (i+1))=pre++last.map (D.put x0 (rd cs (i+1))):=by
    unfold grow;rw [List.take_left,List.drop_left,List.map_map]
    congr 1
    exact List.map_congr_left fun b _=>hD.ext_put _ _ _ _
   rw [e];exact ih (i+1) pre last x0 (by omega) h1 h2 (fun h=>by have:=h4 h;omega) (fun h=>by have:=h5 h;omega) h3
  | false=>
   rw [cond_false];refine ih (i+1) (pre++last.map (D.put x0 (rd cs i))) (sec (rd cs i)) (rd cs i) (by omega) (fin pre last x0 _ h1 h2 h3) (fun a ha=> ?_) (fun _=>by omega) (fun _=>by omega) (eI _);rcases List.mem_append.1 ha with ha | ha
   ·have:=h2 a ha;by_cases e:last=[]
    ·have:=h5 e;omega
    ·have:=h4 e;omega
   ·obtain ⟨c,_,rfl⟩:=List.mem_map.1 ha;rw [hD.hi_put];exact Int.le_refl _
theorem out_apart {D:Dim α β} (hD:D.Fair) (R:β→β→Prop) (hs: ∀a b,D.same a b=true↔a=b) (l:List α) (eI: ∀x,(D.sec l x).Pairwise R):(D.out l).Pairwise (D.Ap R):=by
 rw [D.out_eq hs l];have hc:(D.cuts l).Pairwise (· < ·):=by show (Jj (D.ends l)).Pairwise (· < ·);rw [Jz];exact (Xn _).1
 have:=v0x hD R (D.sec l) (D.cuts l) hc eI ((D.cuts l).length - 1) 0 [] [] (rd (D.cuts l) 0) (by omega) .nil (by simp) (fun _=>Int.le_refl _) (fun _=>Int.le_refl _) .nil;exact this
end Dim
theorem y6p :D4.Fair:=⟨fun _ _ _=>rfl,fun _ _ _=>rfl,fun _ _ _=>rfl,fun _ _ _ _=>rfl⟩
theorem z3n :D6.Fair:=⟨fun _ _ _=>rfl,fun _ _ _=>rfl,fun _ _ _=>rfl,fun _ _ _ _=>rfl⟩
def Ap2 (s t:R2):Prop:=s.b≤t.a∨t.b≤s.a
def Ap4 (s t:R4):Prop:=s.c≤t.a∨t.c≤s.a∨s.d≤t.b∨t.d≤s.b
def Ap6 (s t:R6):Prop:=s.d≤t.a∨t.d≤s.a∨s.e≤t.b∨t.e≤s.b∨s.f≤t.c∨t.f≤s.c
theorem w9g (l:List R2):(Xd l).Pairwise Ap2:=by
 unfold Xd;by_cases h:400<l.length
 ·rw [decide_eq_true h];exact .nil
 ·rw [decide_eq_false h,cond_false];cases hv:l.all z0u with
  | false=>exact .nil
  | true=>rw [cond_true];exact (x6l l hv).1.sep.imp fun {s t} h=>.inl (by omega)
theorem v0q (l:List R4):(Zb l).Pairwise Ap4:=by
 have key:(D4.out l).Pairwise Ap4:=(Dim.out_apart y6p Ap2 (fun a b=>decide_eq_true_iff) l fun x=>w9g _).imp fun {s t} h=>by
  rcases h with h | h | h | h
  ·exact .inl h
  ·exact .inr (.inl h)
  ·exact .inr (.inr (.inl h))
  ·exact .inr (.inr (.inr h))
 unfold Zb;by_cases h:400<l.length
 ·rw [decide_eq_true h];exact .nil
 ·rw [decide_eq_false h,cond_false];cases l.all Vw with
  | false=>exact .nil
  | true=>
   rw [cond_true];cases decide (((D4.out l).length :Int)>400) with
   | true=>exact .nil
   | false=>exact key
theorem Wu {l:List R6} (h:Yr l=0):l.length≤400∧(∀r∈l,Ko r=true)∧l=D6.out l∧l.Pairwise Ap6:=by
 unfold Yr at h;by_cases h1:400<l.length
 ·rw [decide_eq_true h1] at h;cases h
 ·rw [decide_eq_false h1,cond_false] at h;cases hv:l.all Ko with
  | false=>rw [hv] at h;cases h
  | true=>
   rw [hv,cond_true] at h;cases ho:okF l ((D6.cuts l).length - 1) 0 with
   | false=>rw [ho] at h;cases h
   | true=>
    rw [ho,cond_true] at h;cases h2:decide (((D6.out l).length :Int)>400) with
    | true=>rw [h2] at h;cases h
    | false=>
     rw [h2,cond_false] at h;cases h3:Kx (D6.out l) l with
     | false=>rw [h3] at h;cases h
     | true=>
      have e:D6.out l=l:=of_decide_eq_true h3;refine ⟨by omega,fun r hr=>List.all_eq_true.1 hv r hr,e.symm,?_⟩;have:=(Dim.out_apart z3n Ap4 (fun a b=>decide_eq_true_iff) l fun x=>v0q _).imp (S:=Ap6) fun {s t} h=>by
       rcases h with h | h | h | h | h | h
       ·exact .inr (.inr (.inr (.inr (.inl h))))
       ·exact .inr (.inr (.inr (.inr (.inr h))))
       ·exact .inl h
       ·exact .inr (.inl h)
       ·exact .inr (.inr (.inl h))
       ·exact .inr (.inr (.inr (.inl h)))
      rwa [e] at this
theorem Kz {r:R6} (h:Ko r=true):r.a<r.d∧r.b<r.e∧r.c<r.f∧ -1000000≤r.a∧ -1000000≤r.b∧ -1000000≤r.c∧r.d≤1000000∧r.e≤1000000∧r.f≤1000000:=by rw [w8w] at h;simp only [w4m,Bool.and_eq_true,decide_eq_true_eq] at h;omega
end Go.Am
namespace Go.Am
open Go.Proofs Go.Sort Go.Shelf Go.RowKit Go.Lib
structure z0c (β:Type) where
 a:Int
 b:Int
 s:List β
def ptL {β γ:Type} (inB:β→γ→Prop) (s:List β) (q:γ):Prop:= ∃r∈s,inB r q
theorem z4i {β γ:Type} (inB:β→γ→Prop) (q:γ): ¬ptL inB [] q:=fun ⟨_,h,_⟩=>by cases h
structure Sem (β γ:Type) where
 can:List β→Prop
 inB:β→γ→Prop
 uniq: ∀s t,can s→can t→(∀q,ptL inB s q↔ptL inB t q)→s=t
 some: ∀s,can s→s≠ []→ ∃q,ptL inB s q
 nil:can []
section
variable {β γ:Type} (M:Sem β γ)
def OkS (g:z0c β):Prop:=g.a<g.b∧M.can g.s∧g.s≠ []
def Nxt (g h:z0c β):Prop:=g.b≤h.a∧(g.b=h.a→g.s≠h.s)
inductive z2k :List (z0c β)→Prop
 | nil:z2k []
 | one (g:z0c β) (h:OkS M g):z2k [g]
 | cons (g h:z0c β) (r:List (z0c β)) (ok:OkS M g) (nx:Nxt g h) (k:z2k (h::r)):z2k (g::h::r)
def ptG (G:List (z0c β)) (x:Int) (q:γ):Prop:= ∃g∈G,g.a≤x∧x<g.b∧ptL M.inB g.s q
variable {M}
theorem z2k.head {g:z0c β} {r:List (z0c β)} (h:z2k M (g::r)):OkS M g:=by cases h <;> assumption
theorem z2k.tail {g:z0c β} {r:List (z0c β)} (h:z2k M (g::r)):z2k M r:=by
 cases h with
 | one=>exact .nil
 | cons _ _ _ _ _ k=>exact k
theorem z2k.later {g:z0c β} {r:List (z0c β)} (h:z2k M (g::r)): ∀k∈r,g.b≤k.a:=by
 induction r generalizing g with
 | nil=>intro k hk;cases hk
 | cons k r ih=>
  cases h with
  | cons _ _ _ ok nx kk=>
   intro m hm;rcases List.mem_cons.1 hm with rfl | hm
   ·exact nx.1
   ·have h1:=ih kk m hm;have h2:=kk.head.1;have h3:=nx.1;omega
theorem z2k.all {G:List (z0c β)} (h:z2k M G): ∀g∈G,OkS M g:=by
 induction G with
 | nil=>intro g hg;cases hg
 | cons k r ih=>
  intro g hg;rcases List.mem_cons.1 hg with rfl | hg
  ·exact h.head
  ·exact ih h.tail g hg
theorem z2k.before {G:List (z0c β)} {g:z0c β} (k:z2k M (G++[g])): ∀m∈G,m.b≤g.a:=by
 induction G with
 | nil=>intro m hm;cases hm
 | cons m r ih=>
  intro n hn;rcases List.mem_cons.1 hn with rfl | hn
  ·exact k.later g (by simp)
  ·exact ih k.tail n hn
theorem z2k.snoc {G:List (z0c β)} {g h:z0c β} (k:z2k M (G++[g])) (ok:OkS M h) (nx:Nxt g h):z2k M (G++[g]++[h]):=by
 induction G with
 | nil=>exact .cons g h [] k.head nx (.one h ok)
 | cons m r ih=>
  have i:=ih k.tail;cases r with
  | nil=>
   cases k with
   | cons _ _ _ ok1 nx1 k1=>exact .cons m g [h] ok1 nx1 i
  | cons m2 r=>
   cases k with
   | cons _ _ _ ok1 nx1 k1=>exact .cons m m2 _ ok1 nx1 i
theorem z2k.stretch {G:List (z0c β)} {g:z0c β} {x:Int} (k:z2k M (G++[g])) (hx:g.b≤x):z2k M (G++[⟨g.a,x,g.s⟩]):=by
 induction G with
 | nil=>have:=k.head;exact .one _ ⟨by have:=this.1;show g.a<x;omega,this.2⟩
 | cons m r ih=>
  have i:=ih k.tail;cases r with
  | nil=>
   cases k with
   | cons _ _ _ ok1 nx1 k1=>exact .cons m _ [] ok1 nx1 i
  | cons m2 r=>
   cases k with
   | cons _ _ _ ok1 nx1 k1=>exact .cons m m2 _ ok1 nx1 i
theorem z7t (g:z0c β) (G:List (z0c β)) (x:Int) (q:γ):ptG M (g::G) x q↔(g.a≤x∧x<g.b∧ptL M.inB g.s q)∨ptG M G x q:=by
 constructor
 ·rintro ⟨k,hk,h⟩;rcases List.mem_cons.1 hk with rfl | hk
  ·exact .inl h
  ·exact .inr ⟨k,hk,h⟩
 ·rintro (h | ⟨k,hk,h⟩)
  ·exact ⟨g,by simp,h⟩
  ·exact ⟨k,by simp [hk],h⟩
theorem y8q (G H:List (z0c β)) (x:Int) (q:γ):ptG M (G++H) x q↔ptG M G x q∨ptG M H x q:=by
 constructor
 ·rintro ⟨k,hk,h⟩;rcases List.mem_append.1 hk with hk | hk
  ·exact .inl ⟨k,hk,h⟩
  ·exact .inr ⟨k,hk,h⟩
 ·rintro (⟨k,hk,h⟩ | ⟨k,hk,h⟩)
  ·exact ⟨k,List.mem_append.2 (.inl hk),h⟩
  ·exact ⟨k,List.mem_append.2 (.inr hk),h⟩
theorem z2k.low {g:z0c β} {r:List (z0c β)} (h:z2k M (g::r)) {x:Int} {q:γ} (hp:ptG M (g::r) x q):g.a≤x:=by
 rcases (z7t g r x q).1 hp with hp | ⟨k,hk,h1,_⟩
 ·exact hp.1
 ·have:=h.later k hk;have:=h.head.1;omega
theorem z2k.rest {g:z0c β} {r:List (z0c β)} (h:z2k M (g::r)) (x:Int) (q:γ):ptG M r x q↔g.b≤x∧ptG M (g::r) x q:=by
 constructor
 ·rintro ⟨k,hk,h1,h2⟩;have:=h.later k hk;exact ⟨by omega,k,by simp [hk],h1,h2⟩
 ·rintro ⟨hx,hp⟩;rcases (z7t g r x q).1 hp with hp | hp
  ·omega
  ·exact hp
theorem z2k.sec0 {g:z0c β} {r:List (z0c β)} (h:z2k M (g::r)) {x:Int} (hx:g.a≤x∧x<g.b) (q:γ):ptG M (g::r) x q↔ptL M.inB g.s q:=by
 rw [z7t];constructor
 ·rintro (h1 | ⟨k,hk,h1,_⟩)
  ·exact h1.2.2
  ·have:=h.later k hk;omega
 ·exact fun h1=>.inl ⟨hx.1,hx.2,h1⟩
theorem x5h : ∀(G H:List (z0c β)),z2k M G→z2k M H→(∀x q,ptG M G x q↔ptG M H x q)→G=H
 | [],[],_,_,_=>rfl
 | [],h::H,_,hH,e=>by obtain ⟨q,hq⟩:=M.some _ hH.head.2.1 hH.head.2.2;have:=(e h.a q).2 ((hH.sec0 ⟨Int.le_refl _,hH.head.1⟩ q).2 hq);obtain ⟨k,hk,_⟩:=this;cases hk
 | g::G,[],hG,_,e=>by obtain ⟨q,hq⟩:=M.some _ hG.head.2.1 hG.head.2.2;have:=(e g.a q).1 ((hG.sec0 ⟨Int.le_refl _,hG.head.1⟩ q).2 hq);obtain ⟨k,hk,_⟩:=this;cases hk
 | g::G,h::H,hG,hH,e=>by
  have og:=hG.head;have oh:=hH.head;obtain ⟨q,hq⟩:=M.some _ og.2.1 og.2.2;obtain ⟨p,hp⟩:=M.some _ oh.2.1 oh.2.2;have a1:h.a≤g.a:=hH.low ((e g.a q).1 ((hG.sec0 ⟨Int.le_refl _,og.1⟩ q).2 hq));have a2:g.a≤h.a:=hG.low ((e h.a p).2 ((hH.sec0 ⟨Int.le_refl _,oh.1⟩ p).2 hp));have a3:g.a=h.a:=by omega
  have s1:g.s=h.s:=M.uniq _ _ og.2.1 oh.2.1 fun q=>by rw [←hG.sec0 (x:=g.a) ⟨Int.le_refl _,og.1⟩,e,hH.sec0 (x:=g.a) ⟨by omega,by have:=oh.1;omega⟩]
  have key: ∀(g h:z0c β) (G H:List (z0c β)),z2k M (g::G)→z2k M (h::H)→(∀x q,ptG M (g::G) x q↔ptG M (h::H) x q)→g.a=h.a→g.s=h.s→ ¬g.b<h.b:=fun g h G H hG hH e ea es hlt=>by
   have og:=hG.head;have oh:=hH.head;have at_: ∀q,ptG M (g::G) g.b q↔ptL M.inB h.s q:=fun q=>by rw [e,hH.sec0 ⟨by have:=og.1;omega,hlt⟩]
   obtain ⟨q,hq⟩:=M.some _ oh.2.1 oh.2.2;have:=(hG.rest g.b q).2 ⟨Int.le_refl _,(at_ q).2 hq⟩;cases hG with
   | one=>obtain ⟨k,hk,_⟩:=this;cases hk
   | cons _ k r ok nx kk=>
    have hk:k.a≤g.b:=kk.low this;have hk2:g.b=k.a:=by have:=nx.1;omega
    refine nx.2 hk2 ?_;rw [es];refine M.uniq _ _ oh.2.1 kk.head.2.1 fun p=> ?_;rw [←at_,←kk.sec0 (x:=g.b) ⟨by omega,by have:=kk.head.1;omega⟩];constructor
    ·exact fun hp=>((z2k.cons g k r ok nx kk).rest g.b p).2 ⟨Int.le_refl _,hp⟩
    ·exact fun hp=>(((z2k.cons g k r ok nx kk).rest g.b p).1 hp).2
  have b1:=key g h G H hG hH e a3 s1;have b2:=key h g H G hH hG (fun x q=>(e x q).symm) a3.symm s1.symm;have b3:g.b=h.b:=by omega
  have eg:g=h:=by
   obtain ⟨ga,gb,gs⟩:=g;obtain ⟨ha,hb,hs⟩:=h;simp only at a3 b3 s1
   subst_vars;rfl
  subst eg
  congr 1
  exact x5h G H hG.tail hH.tail fun x q=>by rw [hG.rest,hH.rest,e]
end
namespace Dim
variable {α β:Type} (D:Dim α β)
def flat (G:List (z0c β)):List α:=G.flatMap fun g=>g.s.map (D.put g.a g.b)
theorem flat_append (G H:List (z0c β)):D.flat (G++H)=D.flat G++D.flat H:=by simp [flat]
theorem flat_one (g:z0c β):D.flat [g]=g.s.map (D.put g.a g.b):=by simp [flat]
def inA {γ:Type} (inB:β→γ→Prop) (r:α) (p:Int×γ):Prop:=D.lo r≤p.1∧p.1<D.hi r∧inB (D.pr r) p.2
variable {D}
theorem flat_pt (hD:D.Fair) {γ:Type} (M:Sem β γ) (G:List (z0c β)) (x:Int) (q:γ):ptL (D.inA M.inB) (D.flat G) (x,q)↔ptG M G x q:=by
 constructor
 ·rintro ⟨r,hr,h⟩;obtain ⟨g,hg,hr⟩:=List.mem_flatMap.1 hr;obtain ⟨b,hb,rfl⟩:=List.mem_map.1 hr;unfold inA at h;rw [hD.lo_put,hD.hi_put,hD.pr_put] at h;exact ⟨g,hg,h.1,h.2.1,b,hb,h.2.2⟩
 ·rintro ⟨g,hg,h1,h2,b,hb,h3⟩;refine ⟨D.put g.a g.b b,List.mem_flatMap.2 ⟨g,hg,List.mem_map.2 ⟨b,hb,rfl⟩⟩,?_⟩;unfold inA;rw [hD.lo_put,hD.hi_put,hD.pr_put];exact ⟨h1,h2,h3⟩
def can {γ:Type} (M:Sem β γ) (l:List α):Prop:= ∃G,z2k M G∧l=D.flat G
def sem (hD:D.Fair) {γ:Type} (M:Sem β γ):Sem α (Int×γ) where
 can:=D.can M
 inB:=D.inA M.inB
 uniq:=fun s t ⟨G,hG,e1⟩ ⟨H,hH,e2⟩ h=>by subst e1 e2;rw [x5h G H hG hH fun x q=>by rw [←flat_pt hD,←flat_pt hD];exact h (x,q)]
 some:=fun s ⟨G,hG,e1⟩ hs=>by
  subst e1;cases G with
  | nil=>exact absurd rfl hs
  | cons g G=>obtain ⟨q,hq⟩:=M.some _ hG.head.2.1 hG.head.2.2;exact ⟨(g.a,q),(flat_pt hD M _ _ _).2 ((hG.sec0 ⟨Int.le_refl _,hG.head.1⟩ q).2 hq)⟩
 nil:=⟨[],.nil,rfl⟩
variable (D)
def oneS (sec:List β) (x x':Int) (s:Sw α β):Sw α β:=
 bif decide (0<sec.length)&&((s.fin == x)&&D.same s.last sec) then ⟨D.grow s.out s.first x',s.last,s.first,x'⟩
 else ⟨s.out++sec.map (D.put x x'),sec,s.out.length,x'⟩
def goS (sec:Int→List β) (cs:List Int):Nat→Nat→Sw α β→Sw α β
 | 0,_,s=>s
 | k+1,i,s=>goS sec cs k (i+1) (D.oneS (sec (rd cs i)) (rd cs i) (rd cs (i+1)) s)
theorem go_goS (l:List α): ∀(k i:Nat) (s:Sw α β),D.go l k i s=D.goS (D.sec l) (D.cuts l) k i s
 | 0,_,_=>rfl
 | k+1,i,s=>go_goS l k (i+1) _
variable {D}
structure Inv {γ:Type} (M:Sem β γ) (sec:Int→List β) (cs:List Int) (i:Nat) (s:Sw α β) (G:List (z0c β)):Prop where
 can:z2k M G
 out:s.out=D.flat G
 gap:s.last=[]→ ∀g∈G,g.b<rd cs i
 end_ : s.last ≠ [] → ∃ Gp g, G = Gp ++ [g] ∧ g.s = s.last ∧ g.b = rd cs i ∧ s.fin = rd cs i ∧ s.first = (D.flat Gp).length
 pts: ∀x q,ptG M G x q↔ ∃j,j<i∧rd cs j≤x∧x<rd cs (j+1)∧ptL M.inB (sec (rd cs j)) q
theorem u0a (hD:D.Fair) (hs: ∀a b,D.same a b=true↔a=b) {γ:Type} (M:Sem β γ) {sec:Int→List β} {cs:List Int} (hc:cs.Pairwise (· < ·)) (eI: ∀x,M.can (sec x)) {i:Nat} (hi:i+1<cs.length) {s:Sw α β} {G:List (z0c β)} (h:Inv (D:=D) M sec cs i s G):
  ∃G',Inv (D:=D) M sec cs (i+1) (D.oneS (sec (rd cs i)) (rd cs i) (rd cs (i+1)) s) G':=by
 have hlt:rd cs i<rd cs (i+1):=y6z hc (Nat.lt_succ_self _) hi;unfold oneS;rcases Ye (decide (0<(sec (rd cs i)).length)&&((s.fin == rd cs i)&&D.same s.last (sec (rd cs i)))) with q | q
 ·rw [q,cond_true];simp only [Bool.and_eq_true,decide_eq_true_eq] at q;obtain ⟨q1,q2,q3⟩:=q;have q3:=(hs _ _).1 q3;have hne:s.last≠ []:=fun e=>by rw [e] at q3;rw [←q3] at q1;exact Nat.lt_irrefl _ q1
  obtain ⟨Gp,g,e1,e2,e3,e4,e5⟩:=h.end_ hne;subst e1;refine ⟨Gp++[⟨g.a,rd cs (i+1),g.s⟩],h.can.stretch (by omega),?_,fun e=>absurd e hne,fun _=>⟨Gp,_,rfl,e2,rfl,rfl,e5⟩,fun x p=> ?_⟩
  ·show D.grow s.out s.first (rd cs (i+1))=_
   rw [h.out,e5];unfold grow;rw [D.flat_append,D.flat_append,D.flat_one,D.flat_one,List.take_left,List.drop_left,List.map_map]
   congr 1
   exact List.map_congr_left fun b _=>hD.ext_put _ _ _ _
  ·have hp:=h.pts x p;rw [y8q,z7t] at hp ⊢;have z: ¬ptG M ([]:List (z0c β)) x p:=fun ⟨_,hk,_⟩=>by cases hk
   constructor
   ·rintro (h1 | h1 | h1)
    ·obtain ⟨j,j1,j2⟩:=hp.1 (.inl h1);exact ⟨j,by omega,j2⟩
    ·simp only at h1;by_cases hx:x<g.b
     ·obtain ⟨j,j1,j2⟩:=hp.1 (.inr (.inl ⟨h1.1,hx,h1.2.2⟩));exact ⟨j,by omega,j2⟩
     ·exact ⟨i,Nat.lt_succ_self _,by omega,h1.2.1,by rw [←q3,←e2];exact h1.2.2⟩
    ·exact absurd h1 z
   ·rintro ⟨j,j1,j2,j3,j4⟩;rcases Nat.eq_or_lt_of_le (Nat.le_of_lt_succ j1) with rfl | j1
    ·refine .inr (.inl ⟨?_,j3,?_⟩)
     ·have:=(h.can.all g (by simp)).1;show g.a≤x;omega
     ·show ptL M.inB g.s p;rw [e2,q3];exact j4
    ·rcases hp.2 ⟨j,j1,j2,j3,j4⟩ with h1 | h1 | h1
     ·exact .inl h1
     ·exact .inr (.inl ⟨h1.1,by show x<rd cs (i+1);omega,h1.2.2⟩)
     ·exact absurd h1 z
 ·rw [q,cond_false];by_cases he:sec (rd cs i)=[]
  ·rw [he];refine ⟨G,h.can,?_,fun _ g hg=> ?_,fun e=>absurd rfl e,fun x p=> ?_⟩
   ·show s.out++[].map _=_;rw [List.map_nil,List.append_nil,h.out]
   ·by_cases hl:s.last=[]
    ·have:=h.gap hl g hg;omega
    ·obtain ⟨Gp,g',e1,e2,e3,_⟩:=h.end_ hl;subst e1;rcases List.mem_append.1 hg with hg | hg
     ·have:=h.can.before g hg;have:=(h.can.all g' (by simp)).1;omega
     ·rw [List.mem_singleton.1 hg];omega
   ·rw [h.pts];constructor
    ·rintro ⟨j,j1,j2⟩;exact ⟨j,by omega,j2⟩
    ·rintro ⟨j,j1,j2,j3,j4⟩;rcases Nat.eq_or_lt_of_le (Nat.le_of_lt_succ j1) with rfl | j1
     ·rw [he] at j4;exact absurd j4 (z4i _ _)
     ·exact ⟨j,j1,j2,j3,j4⟩
  ·have ok:OkS M (⟨rd cs i,rd cs (i+1),sec (rd cs i)⟩:z0c β):=⟨hlt,eI _,he⟩
   have hcan:z2k M (G++[⟨rd cs i,rd cs (i+1),sec (rd cs i)⟩]):=by
    rcases List.eq_nil_or_concat G with rfl | ⟨Gp,g,rfl⟩
    ·exact .one _ ok
    ·rw [List.concat_eq_append] at*;refine h.can.snoc ok ?_;by_cases hl:s.last=[]
     ·have:=h.gap hl g (by simp);exact ⟨by show g.b≤rd cs i;omega,fun e=>by simp only at e;omega⟩
     ·obtain ⟨Gp',g',e1,e2,e3,e4,_⟩:=h.end_ hl;obtain ⟨rfl,e⟩:=List.append_inj' e1 rfl;obtain rfl:g=g':=by simpa using e
      refine ⟨by show g.b≤rd cs i;omega,fun _ e=> ?_⟩;rw [decide_eq_true (show 0<(sec (rd cs i)).length from List.length_pos_iff.2 he),e4,(hs _ _).2 (e2.symm.trans e)] at q;simp at q
   refine ⟨_,hcan,?_,fun e=>absurd e he,fun _=>⟨G,_,rfl,rfl,rfl,rfl,by show s.out.length=_;rw [h.out]⟩,fun x p=> ?_⟩
   ·show s.out++_=_;rw [D.flat_append,D.flat_one,h.out]
   ·rw [y8q,z7t,h.pts];have z: ¬ptG M ([]:List (z0c β)) x p:=fun ⟨_,hk,_⟩=>by cases hk
    constructor
    ·rintro (⟨j,j1,j2⟩ | h1 | h1)
     ·exact ⟨j,by omega,j2⟩
     ·exact ⟨i,Nat.lt_succ_self _,h1⟩
     ·exact absurd h1 z
    ·rintro ⟨j,j1,j2,j3,j4⟩;rcases Nat.eq_or_lt_of_le (Nat.le_of_lt_succ j1) with rfl | j1
     ·exact .inr (.inl ⟨j2,j3,j4⟩)
     ·exact .inl ⟨j,j1,j2,j3,j4⟩
theorem u5n (hD:D.Fair) (hs: ∀a b,D.same a b=true↔a=b) {γ:Type} (M:Sem β γ) {sec:Int→List β} {cs:List Int} (hc:cs.Pairwise (· < ·)) (eI: ∀x,M.can (sec x)): ∀(k i:Nat) (s:Sw α β) (G:List (z0c β)),i+k<cs.length∨k=0→Inv (D:=D) M sec cs i s G→
  ∃G',Inv (D:=D) M sec cs (i+k) (D.goS sec cs k i s) G'
 | 0,i,s,G,_,h=>⟨G,h⟩
 | k+1,i,s,G,hk,h=>by obtain ⟨G1,h1⟩:=u0a hD hs M hc eI (show i+1<cs.length by omega) h;obtain ⟨G2,h2⟩:=u5n hD hs M hc eI k (i+1) _ G1 (by omega) h1;exact ⟨G2,by rw [show i+(k+1)=i+1+k by omega];exact h2⟩
theorem goS_can (hD:D.Fair) (hs: ∀a b,D.same a b=true↔a=b) {γ:Type} (M:Sem β γ) {sec:Int→List β} {cs:List Int} (hc:cs.Pairwise (· < ·)) (eI: ∀x,M.can (sec x)):
  (D.sem hD M).can (D.goS sec cs (cs.length - 1) 0 ⟨[],[],0,0⟩).out ∧ ∀x q,ptL (D.sem hD M).inB (D.goS sec cs (cs.length - 1) 0 ⟨[],[],0,0⟩).out (x,q)↔ ∃j,j+1<cs.length∧rd cs j≤x∧x<rd cs (j+1)∧ptL M.inB (sec (rd cs j)) q:=by
 obtain ⟨G,h⟩:=u5n hD hs M hc eI (cs.length - 1) 0 ⟨[],[],0,0⟩ [] (by omega) ⟨.nil,rfl,fun _ g hg=>by (cases hg),fun e=>absurd rfl e,fun x q=>⟨fun ⟨_,hg,_⟩=>(by cases hg),fun ⟨j,hj,_⟩=>absurd hj (Nat.not_lt_zero _)⟩⟩;refine ⟨⟨G,h.can,h.out⟩,fun x q=> ?_⟩;rw [h.out];rw [show ptL (D.sem hD M).inB (D.flat G) (x,q)↔ptG M G x q from flat_pt hD M G x q,h.pts];constructor
 ·rintro ⟨j,h1,h2⟩;exact ⟨j,by omega,h2⟩
 ·rintro ⟨j,h1,h2⟩;exact ⟨j,by omega,h2⟩
end Dim
end Go.Am
namespace Go.Am
open Go.Proofs Go.Sort Go.Shelf Go.RowKit Go.Lib
def y7w :Sem R2 Int where
 can:=Can
 inB s y:=s.a≤y∧y<s.b
 uniq:=v5c
 some s hs hn:=by
  cases s with
  | nil=>exact absurd rfl hn
  | cons r l=>exact ⟨r.a,r,by simp,Int.le_refl _,hs.pos r (by simp)⟩
 nil:=.nil
def Wy :Sem R4 (Int×Int):=Dim.sem y6p y7w
def w1u :Sem R6 (Int×Int×Int):=Dim.sem z3n Wy
namespace Dim
variable {α β:Type} {D:Dim α β}
theorem inn_slab (l m:List α) (hl: ∀r∈m,r∈l) {j:Nat} (hj:j+1<(D.cuts l).length) {x:Int} (h1:rd (D.cuts l) j≤x) (h2:x<rd (D.cuts l) (j+1)):D.inn m (rd (D.cuts l) j)=D.inn m x:=by
 have hc:(D.cuts l).Pairwise (· < ·):=by show (Jj (D.ends l)).Pairwise (· < ·);rw [Jz];exact (Xn _).1
 have fJ: ∀r∈m,D.lo r∈D.cuts l∧D.hi r∈D.cuts l:=fun r hr=>by show D.lo r∈Jj (D.ends l)∧D.hi r∈Jj (D.ends l);rw [Jz,(Xn _).2,(Xn _).2];exact ⟨List.mem_flatMap.2 ⟨r,hl r hr,by simp⟩,List.mem_flatMap.2 ⟨r,hl r hr,by simp⟩⟩
 have side: ∀c,c∈D.cuts l→(c≤rd (D.cuts l) j↔c≤x):=fun c hcm=>by
  obtain ⟨i,hi,rfl⟩:=List.getElem_of_mem hcm;rw [←Xy hi];rcases Nat.lt_or_ge j i with h | h
  ·have:rd (D.cuts l) (j+1)≤rd (D.cuts l) i:=by
    rcases Nat.eq_or_lt_of_le (show j+1≤i from h) with e | e
    ·rw [e];exact Int.le_refl _
    ·exact Int.le_of_lt (y6z hc e hi)
   have:=y6z hc (Nat.lt_succ_self j) hj;constructor <;> intro <;> omega
  ·have:rd (D.cuts l) i≤rd (D.cuts l) j:=by
    rcases Nat.eq_or_lt_of_le h with e | e
    ·rw [e];exact Int.le_refl _
    ·exact Int.le_of_lt (y6z hc e (by omega))
   constructor <;> intro <;> omega
 unfold inn
 congr 1
 refine List.filter_congr fun r hr=> ?_;obtain ⟨m1,m2⟩:=fJ r hr;have s1:=side _ m1;have s2:=side _ m2;have e1:decide (D.lo r≤rd (D.cuts l) j)=decide (D.lo r≤x):=decide_eq_decide.2 s1;have e2:decide (rd (D.cuts l) j<D.hi r)=decide (x<D.hi r):=decide_eq_decide.2 (by constructor <;> intro <;> omega);rw [e1,e2]
theorem inn_out (l m:List α) (hl: ∀r∈m,r∈l) {x:Int} (h: ∀j,j+1<(D.cuts l).length → ¬(rd (D.cuts l) j≤x∧x<rd (D.cuts l) (j+1))):D.inn m x=[]:=by
 unfold inn;rw [List.map_eq_nil_iff,List.filter_eq_nil_iff];intro r hr hb;simp only [Bool.and_eq_true,decide_eq_true_eq] at hb;have fJ:D.lo r∈D.cuts l∧D.hi r∈D.cuts l:=by show D.lo r∈Jj (D.ends l)∧D.hi r∈Jj (D.ends l);rw [Jz,(Xn _).2,(Xn _).2];exact ⟨List.mem_flatMap.2 ⟨r,hl r hr,by simp⟩,List.mem_flatMap.2 ⟨r,hl r hr,by simp⟩⟩
 have hc:(D.cuts l).Pairwise (· < ·):=by show (Jj (D.ends l)).Pairwise (· < ·);rw [Jz];exact (Xn _).1
 obtain ⟨i,hi,e1⟩:=List.getElem_of_mem fJ.1;obtain ⟨k,hk,e2⟩:=List.getElem_of_mem fJ.2;rw [←Xy hi] at e1;rw [←Xy hk] at e2;have h0:rd (D.cuts l) 0≤rd (D.cuts l) i:=by
  rcases Nat.eq_or_lt_of_le (Nat.zero_le i) with e | e
  ·rw [←e];exact Int.le_refl _
  ·exact Int.le_of_lt (y6z hc e hi)
 obtain ⟨j,j1,j2,j3⟩:=w0r k hk x (by omega) (by omega);exact h j (by omega) ⟨j2,j3⟩
theorem goJ_can (hD:D.Fair) (hs: ∀a b,D.same a b=true↔a=b) {γ:Type} (M:Sem β γ) (a b:List α) (J:List β→List β→List β) (hJ: ∀x,M.can (J (D.inn a x) (D.inn b x))) (h0:J [] []=[]):
  (D.sem hD M).can (D.goS (fun x=>J (D.inn a x) (D.inn b x)) (D.cuts (a++b)) ((D.cuts (a++b)).length - 1) 0 ⟨[],[],0,0⟩).out ∧
  ∀x q,ptL (D.sem hD M).inB (D.goS (fun x=>J (D.inn a x) (D.inn b x)) (D.cuts (a++b)) ((D.cuts (a++b)).length - 1) 0 ⟨[],[],0,0⟩).out (x,q)↔ptL M.inB (J (D.inn a x) (D.inn b x)) q:=by
 have hc:(D.cuts (a++b)).Pairwise (· < ·):=by show (Jj (D.ends (a++b))).Pairwise (· < ·);rw [Jz];exact (Xn _).1
 obtain ⟨h1,h2⟩:=goS_can hD hs M (cs:=D.cuts (a++b)) hc hJ;refine ⟨h1,fun x q=> ?_⟩;rw [h2];constructor
 ·rintro ⟨j,j1,j2,j3,j4⟩;rwa [inn_slab (a++b) a (fun r hr=>List.mem_append.2 (.inl hr)) j1 j2 j3,inn_slab (a++b) b (fun r hr=>List.mem_append.2 (.inr hr)) j1 j2 j3] at j4
 ·intro hp;by_cases hx: ∃j,j+1<(D.cuts (a++b)).length ∧rd (D.cuts (a++b)) j≤x∧x<rd (D.cuts (a++b)) (j+1)
  ·obtain ⟨j,j1,j2,j3⟩:=hx;refine ⟨j,j1,j2,j3,?_⟩;rwa [inn_slab (a++b) a (fun r hr=>List.mem_append.2 (.inl hr)) j1 j2 j3,inn_slab (a++b) b (fun r hr=>List.mem_append.2 (.inr hr)) j1 j2 j3]
  ·have hx': ∀j,j+1<(D.cuts (a++b)).length → ¬(rd (D.cuts (a++b)) j≤x∧x<rd (D.cuts (a++b)) (j+1)):=fun j j1 j2=>hx ⟨j,j1,j2⟩;rw [inn_out (a++b) a (fun r hr=>List.mem_append.2 (.inl hr)) hx',inn_out (a++b) b (fun r hr=>List.mem_append.2 (.inr hr)) hx',h0] at hp;exact absurd hp (z4i _ _)
theorem pt_inn {γ:Type} (inB:β→γ→Prop) (l:List α) (x:Int) (q:γ):ptL inB (D.inn l x) q↔ptL (D.inA inB) l (x,q):=by
 constructor
 ·rintro ⟨b,hb,h⟩;obtain ⟨r,hr,rfl⟩:=List.mem_map.1 hb;obtain ⟨h1,h2⟩:=List.mem_filter.1 hr;simp only [Bool.and_eq_true,decide_eq_true_eq] at h2;exact ⟨r,h1,h2.1,h2.2,h⟩
 ·rintro ⟨r,hr,h1,h2,h3⟩;refine ⟨D.pr r,List.mem_map.2 ⟨r,List.mem_filter.2 ⟨hr,?_⟩,rfl⟩,h3⟩;simp only [Bool.and_eq_true,decide_eq_true_eq];exact ⟨h1,h2⟩
theorem out_goJ (l:List α):D.out l=(D.goS (fun x=>D.mak (D.inn l x)) (D.cuts (l++[])) ((D.cuts (l++[])).length - 1) 0 ⟨[],[],0,0⟩).out :=by rw [List.append_nil];unfold out;rw [go_goS];rfl
end Dim
theorem x3j (a b:List R4):D6.same a b=true↔a=b:=decide_eq_true_iff
theorem x3k (a b:List R2):D4.same a b=true↔a=b:=decide_eq_true_iff
theorem Vp {l:List R4} (h: ∀r∈l,Vw r=true) (x:Int):(D4.inn l x).all z0u=true:=List.all_eq_true.2 fun s hs=>by obtain ⟨r,hr,_,_,rfl⟩:=x1u hs;have:=h r hr;simp only [Vw,z0u,Bool.and_eq_true,decide_eq_true_eq] at this ⊢;omega
theorem w9f {l:List R2} (hv:l.all z0u=true) (hl:l.length≤400):y7w.can (Xd l)∧ ∀y,ptL y7w.inB (Xd l) y↔ptL y7w.inB l y:=by
 obtain ⟨c1,c2⟩:=x6l l hv;have e:Xd l=swV l:=by unfold Xd;rw [decide_eq_false (by omega),hv];rfl
 rw [e];exact ⟨c1,c2⟩
theorem z1t {β γ:Type} (M:Sem β γ) {l:List β} (h:M.can l) (hp: ∀q,¬ptL M.inB l q):l=[]:=Classical.byContradiction fun hn=>by obtain ⟨q,hq⟩:=M.some l h hn;exact hp q hq
theorem u6w :Xd []=[]:=by obtain ⟨h1,h2⟩:=w9f (l:=[]) rfl (Nat.zero_le _);exact z1t y7w h1 fun q hq=>z4i _ _ ((h2 q).1 hq)
theorem Dim.out_nil {α β:Type} (D:Dim α β):D.out []=[]:=by
 have h:(D.cuts []).length ≤2*0:=D.cuts_length [];have e:(D.cuts []).length - 1=0:=by omega
 unfold Dim.out;rw [e];rfl
theorem u8p :Zb []=[]:=by unfold Zb;rw [Dim.out_nil];cases decide (400<([]:List R4).length) <;> cases ([]:List R4).all Vw <;> rfl
theorem Qk {l:List R4} (hv: ∀r∈l,Vw r=true) (hl:l.length≤400):Wy.can (D4.out l)∧ ∀p,ptL Wy.inB (D4.out l) p↔ptL Wy.inB l p:=by rw [Dim.out_goJ];have hs: ∀x,y7w.can (D4.mak (D4.inn l x))∧ ∀y,ptL y7w.inB (D4.mak (D4.inn l x)) y↔ptL y7w.inB (D4.inn l x) y:=fun x=>w9f (Vp hv x) (Nat.le_trans (D4.inn_length l x) hl);obtain ⟨h1,h2⟩:=Dim.goJ_can y6p x3k y7w l [] (fun s _=>D4.mak s) (fun x=>(hs x).1) u6w;refine ⟨h1,fun ⟨x,y⟩=> ?_⟩;rw [show ptL Wy.inB _ (x,y)↔_ from h2 x y,(hs x).2,Dim.pt_inn];rfl
theorem y6b {l:List R6} (hv: ∀r∈l,Ko r=true) (z:Int): ∀r∈D6.inn l z,Vw r=true:=fun r hr=>by
 obtain ⟨s,hs,rfl⟩:=List.mem_map.1 hr;have:=Kz (hv s (List.mem_filter.1 hs).1);show Vw ⟨s.a,s.b,s.d,s.e⟩=true;simp only [Vw,Bool.and_eq_true,decide_eq_true_eq]
 (repeat' apply And.intro) <;> omega
def Secs (l:List R6):Prop:= ∀z,(D4.out (D6.inn l z)).length ≤400
theorem z7n {l:List R4} (hv: ∀r∈l,Vw r=true) (hl:l.length≤400) (h:(D4.out l).length ≤400):Zb l=D4.out l∧Xc l=0:=by have hv':l.all Vw=true:=List.all_eq_true.2 hv;unfold Zb Xc;rw [decide_eq_false (by omega),hv',decide_eq_false (by omega)];exact ⟨rfl,rfl⟩
theorem u6z {l:List R6} (hv: ∀r∈l,Ko r=true) (hl:l.length≤400) (hs:Secs l):w1u.can (D6.out l)∧ ∀p,ptL w1u.inB (D6.out l) p↔ptL w1u.inB l p:=by
 rw [Dim.out_goJ];have hq: ∀z,Wy.can (D6.mak (D6.inn l z))∧ ∀p,ptL Wy.inB (D6.mak (D6.inn l z)) p↔ptL Wy.inB (D6.inn l z) p:=fun z=>by show Wy.can (Zb (D6.inn l z))∧ ∀p,ptL Wy.inB (Zb (D6.inn l z)) p↔_;rw [(z7n (y6b hv z) (Nat.le_trans (D6.inn_length l z) hl) (hs z)).1];exact Qk (y6b hv z) (Nat.le_trans (D6.inn_length l z) hl)
 obtain ⟨h1,h2⟩:=Dim.goJ_can z3n x3j Wy l [] (fun s _=>D6.mak s) (fun x=>(hq x).1) u8p;refine ⟨h1,fun ⟨z,p⟩=> ?_⟩;rw [show ptL w1u.inB _ (z,p)↔_ from h2 z p,(hq z).2,Dim.pt_inn];rfl
end Go.Am
namespace Go.Am
open Go.Proofs Go.Sort Go.Shelf Go.RowKit Go.Lib
def opB (k:Nat) (a b:Bool):Bool:=match k with
 | 0=>a||b
 | 1=>a&&b
 | _=>a&& !b
theorem opB_ff (k:Nat):opB k false false=false:=by
 match k with
 | 0=>rfl
 | 1=>rfl
 | _+2=>rfl
def Wm (i:Int) (l:List R2):List R3:=l.flatMap fun s=>[⟨s.a,i,1⟩,⟨s.b,i,-1⟩]
def z5h (i:Int) (E:List R3) (y:Int):Int:=(E.map fun e=>if e.b=i∧e.a≤y then e.c else 0).sum
theorem Vs (i:Int) (e:R3) (E:List R3) (y:Int):z5h i (e::E) y=(if e.b=i∧e.a≤y then e.c else 0)+z5h i E y:=by simp [z5h]
theorem y4o (i:Int) (E F:List R3) (y:Int):z5h i (E++F) y=z5h i E y+z5h i F y:=by simp [z5h]
theorem x4e (i:Int) {E F:List R3} (h:E.Perm F) (y:Int):z5h i E y=z5h i F y:=by
 induction h with
 | nil=>rfl
 | cons e _ ih=>rw [Vs,Vs,ih]
 | swap a b l=>simp only [Vs];omega
 | trans _ _ i1 i2=>rw [i1,i2]
theorem v1s (i:Int) (E:List R3) (y:Int) (h: ∀e∈E,y<e.a):z5h i E y=0:=by
 induction E with
 | nil=>rfl
 | cons e E ih=>rw [Vs,if_neg (by have:=h e (by simp);omega),ih fun f hf=>h f (by simp [hf])];rfl
theorem x4f (i:Int) (l:List R2) (hv: ∀s∈l,s.a<s.b) (y:Int):0≤z5h i (Wm i l) y∧(0<z5h i (Wm i l) y↔pt l y):=by
 induction l with
 | nil=>exact ⟨Int.le_refl _,by simp [z5h,Wm,pt]⟩
 | cons s l ih=>
  obtain ⟨i1,i2⟩:=ih fun t ht=>hv t (by simp [ht]);have hs:=hv s (by simp);have e:z5h i (Wm i (s::l)) y=(if s.a≤y∧y<s.b then 1 else 0)+z5h i (Wm i l) y:=by
   show z5h i (⟨s.a,i,1⟩::⟨s.b,i,-1⟩::Wm i l) y=_;rw [Vs,Vs];show (if i=i∧s.a≤y then (1:Int) else 0)+((if i=i∧s.b≤y then (-1:Int) else 0)+z5h i (Wm i l) y)=_;by_cases h1:s.a≤y
   ·by_cases h2:s.b≤y
    ·rw [if_pos ⟨rfl,h1⟩,if_pos ⟨rfl,h2⟩,if_neg (show¬(s.a≤y∧y<s.b) by omega)];omega
    ·rw [if_pos ⟨rfl,h1⟩,if_neg (fun h=>h2 h.2),if_pos (show s.a≤y∧y<s.b by omega)];omega
   ·rw [if_neg (fun h=>h1 h.2),if_neg (fun h=>by have:=h.2;omega),if_neg (show¬(s.a≤y∧y<s.b) by omega)];omega
  rw [e];by_cases h:s.a≤y∧y<s.b
  ·rw [if_pos h];exact ⟨by omega,⟨fun _=>⟨s,by simp,h⟩,fun _=>by omega⟩⟩
  ·rw [if_neg h];refine ⟨by omega,?_⟩;rw [Int.zero_add,i2];constructor
   ·rintro ⟨t,ht,h2⟩;exact ⟨t,by simp [ht],h2⟩
   ·rintro ⟨t,ht,h2⟩;rcases List.mem_cons.1 ht with rfl | ht
    ·exact absurd h2 h
    ·exact ⟨t,ht,h2⟩
theorem y8v (i j:Int) (hij:i≠j) (l:List R2) (y:Int):z5h i (Wm j l) y=0:=by
 induction l with
 | nil=>rfl
 | cons s l ih=>show z5h i (⟨s.a,j,1⟩::⟨s.b,j,-1⟩::Wm j l) y=0;rw [Vs,Vs,if_neg (fun h=>hij h.1.symm),if_neg (fun h=>hij h.1.symm),ih];rfl
def sw2 (f:Bool→Bool→Bool):List R3→Int→Int→Int→Bool→List R2→List R2
 | [],_,_,_,_,out=>out
 | e::r,o,p,last,inn,out=>
  sw2 f r (bif e.b == 0 then o+e.c else o) (bif e.b == 0 then p else p+e.c) e.a (f (decide ((bif e.b == 0 then o+e.c else o)>0)) (decide ((bif e.b == 0 then p else p+e.c)>0))) (Vc out last inn e.a)
def Two (E:List R3):Prop:= ∀e∈E,e.b=0∨e.b=1
theorem w9a (f:Bool→Bool→Bool): ∀(E:List R3) (o p last:Int) (out:List R2),Asc E→Two E→(∀e∈E,last≤e.a)→Can out→(∀s∈out,s.b≤last)→
  Can (sw2 f E o p last (f (decide (o>0)) (decide (p>0))) out)∧ ∀y,pt (sw2 f E o p last (f (decide (o>0)) (decide (p>0))) out) y↔pt out y∨(last≤y∧f (decide (o+z5h 0 E y>0)) (decide (p+z5h 1 E y>0))=true∧ ∃e∈E,y<e.a)
 | [],o,p,last,out,_,_,_,hc,_=>⟨hc,fun y=>⟨.inl,fun h=>h.elim id fun ⟨_,_,e,he,_⟩=>by cases he⟩⟩
 | e ::r,o,p,last,out,hE,ht,hl,hc,hb=>by
  have he:=hl e (by simp);have hr:=List.pairwise_cons.1 hE;obtain ⟨p1,p2,p3⟩:=y9w (f (decide (o>0)) (decide (p>0))) hc hb he;have hz: ∀y,y<e.a→ ∀i,z5h i (e::r) y=0:=fun y hy i=>v1s i _ _ fun g hg=>by
   rcases List.mem_cons.1 hg with rfl | hg
   ·exact hy
   ·have:=hr.1 g hg;omega
  have main: ∀(o' p':Int),(∀y,e.a≤y→o'+z5h 0 r y=o+z5h 0 (e::r) y∧p'+z5h 1 r y=p+z5h 1 (e::r) y)→
    Can (sw2 f r o' p' e.a (f (decide (o'>0)) (decide (p'>0))) (Vc out last (f (decide (o>0)) (decide (p>0))) e.a))∧
    ∀y,pt (sw2 f r o' p' e.a (f (decide (o'>0)) (decide (p'>0))) (Vc out last (f (decide (o>0)) (decide (p>0))) e.a)) y↔pt out y∨(last≤y∧f (decide (o+z5h 0 (e::r) y>0)) (decide (p+z5h 1 (e::r) y>0))=true∧ ∃g∈e::r,y<g.a):=fun o' p' hop=>by
   obtain ⟨q1,q2⟩:=w9a f r o' p' e.a (Vc out last (f (decide (o>0)) (decide (p>0))) e.a) hr.2 (fun g hg=>ht g (by simp [hg])) hr.1 p1 p2;refine ⟨q1,fun y=> ?_⟩;rw [q2,p3];constructor
   ·rintro ((h | ⟨h1,h2,h3⟩) | ⟨h1,h2,g,hg,h3⟩)
    ·exact .inl h
    ·refine .inr ⟨h2,?_,e,by simp,h3⟩;rw [hz y h3,hz y h3,Int.add_zero,Int.add_zero];exact h1
    ·refine .inr ⟨by omega,?_,g,by simp [hg],h3⟩;obtain ⟨e1,e2⟩:=hop y h1;rw [←e1,←e2];exact h2
   ·rintro (h | ⟨h1,h2,g,hg,h3⟩)
    ·exact .inl (.inl h)
    ·by_cases hy:e.a≤y
     ·right;obtain ⟨e1,e2⟩:=hop y hy;refine ⟨hy,by rw [e1,e2];exact h2,g,?_,h3⟩;rcases List.mem_cons.1 hg with rfl | hg
      ·omega
      ·exact hg
     ·left;right;rw [hz y (by omega),hz y (by omega),Int.add_zero,Int.add_zero] at h2;exact ⟨h2,h1,by omega⟩
  show Can (sw2 f r _ _ _ _ _)∧ ∀y,pt (sw2 f r _ _ _ _ _) y↔_;rcases ht e (by simp) with h0 | h0
  ·have hb0:(e.b == 0)=true:=by rw [h0];rfl
   rw [hb0,cond_true,cond_true];refine main _ _ fun y hy=>⟨?_,?_⟩
   ·rw [Vs,if_pos ⟨h0,hy⟩];omega
   ·rw [Vs,if_neg (fun h=>by have:=h.1;omega)];omega
  ·have hb0:(e.b == 0)=false:=by rw [h0];rfl
   rw [hb0,cond_false,cond_false];refine main _ _ fun y hy=>⟨?_,?_⟩
   ·rw [Vs,if_neg (fun h=>by have:=h.1;omega)];omega
   ·rw [Vs,if_pos ⟨h0,hy⟩];omega
instance ptDec (l:List R2) (y:Int):Decidable (pt l y):=Classical.propDecidable _
theorem u6r (f:Bool→Bool→Bool) (hf:f false false=false) (a b:List R2) (ha: ∀s∈a,s.a<s.b) (hb: ∀s∈b,s.a<s.b) (E:List R3) (hp:E.Perm (Wm 0 a++Wm 1 b)) (hE:Asc E):
  Can (sw2 f E 0 0 0 false [])∧ ∀y,pt (sw2 f E 0 0 0 false []) y↔f (decide (pt a y)) (decide (pt b y))=true:=by
 have hn: ∀y,z5h 0 E y=z5h 0 (Wm 0 a) y∧z5h 1 E y=z5h 1 (Wm 1 b) y:=fun y=>by rw [x4e 0 hp,x4e 1 hp,y4o,y4o,y8v 0 1 (by decide),y8v 1 0 (by decide)];omega
 have hd: ∀y,decide (z5h 0 E y>0)=decide (pt a y)∧decide (z5h 1 E y>0)=decide (pt b y):=fun y=>by obtain ⟨e1,e2⟩:=hn y;exact ⟨decide_eq_decide.2 (by rw [e1];exact (x4f 0 a ha y).2),decide_eq_decide.2 (by rw [e2];exact (x4f 1 b hb y).2)⟩
 have ht:Two E:=fun e he=>by
  rcases List.mem_append.1 (hp.mem_iff.1 he) with h | h
  ·obtain ⟨s,_,h⟩:=List.mem_flatMap.1 h;simp only [List.mem_cons,List.not_mem_nil,or_false] at h;rcases h with rfl | rfl <;> exact .inl rfl
  ·obtain ⟨s,_,h⟩:=List.mem_flatMap.1 h;simp only [List.mem_cons,List.not_mem_nil,or_false] at h;rcases h with rfl | rfl <;> exact .inr rfl
 have cover: ∀y,f (decide (pt a y)) (decide (pt b y))=true→ ∃e∈E,y<e.a∧ ∃g∈E,g.a≤y:=fun y hy=>by
  by_cases h1:pt a y
  ·obtain ⟨s,hs,s1,s2⟩:=h1;exact ⟨⟨s.b,0,-1⟩,hp.mem_iff.2 (List.mem_append.2 (.inl (List.mem_flatMap.2 ⟨s,hs,by simp⟩))),s2,⟨s.a,0,1⟩,hp.mem_iff.2 (List.mem_append.2 (.inl (List.mem_flatMap.2 ⟨s,hs,by simp⟩))),s1⟩
  ·by_cases h2:pt b y
   ·obtain ⟨s,hs,s1,s2⟩:=h2;exact ⟨⟨s.b,1,-1⟩,hp.mem_iff.2 (List.mem_append.2 (.inr (List.mem_flatMap.2 ⟨s,hs,by simp⟩))),s2,⟨s.a,1,1⟩,hp.mem_iff.2 (List.mem_append.2 (.inr (List.mem_flatMap.2 ⟨s,hs,by simp⟩))),s1⟩
   ·rw [decide_eq_false h1,decide_eq_false h2,hf] at hy;cases hy
 cases E with
 | nil=>refine ⟨.nil,fun y=>⟨fun ⟨s,hs,_⟩=>(by cases hs),fun hy=> ?_⟩⟩;obtain ⟨e,he,_⟩:=cover y hy;cases he
 | cons e r=>
  have hr:=List.pairwise_cons.1 hE;have hz0:f (decide ((0:Int)>0)) (decide ((0:Int)>0))=false:=hf;have e0:sw2 f (e::r) 0 0 0 false []=sw2 f (e::r) 0 0 e.a (f (decide ((0:Int)>0)) (decide ((0:Int)>0))) []:=by rw [hz0];show sw2 f r _ _ _ _ (Vc [] 0 false e.a)=sw2 f r _ _ _ _ (Vc [] e.a false e.a);rfl
  rw [e0];obtain ⟨q1,q2⟩:=w9a f (e::r) 0 0 e.a [] hE ht (fun g hg=>by
   rcases List.mem_cons.1 hg with rfl | hg
   ·exact Int.le_refl _
   ·exact hr.1 g hg) .nil (by simp)
  refine ⟨q1,fun y=> ?_⟩;rw [q2,Int.zero_add,Int.zero_add,(hd y).1,(hd y).2];constructor
  ·rintro (⟨s,hs,_⟩ | ⟨_,h2,_⟩)
   ·cases hs
   ·exact h2
  ·intro hy;obtain ⟨g,hg,h1,k,hk,h2⟩:=cover y hy;refine .inr ⟨?_,hy,g,hg,h1⟩;rcases List.mem_cons.1 hk with rfl | hk
   ·exact h2
   ·have h3:e.a≤k.a:=hr.1 k hk;omega
end Go.Am
namespace Go.Am
open Go.Proofs Go.Sort Go.Shelf Go.RowKit Go.Lib
def tri :Nat→Nat
 | 0=>0
 | k+1=>tri k+k
theorem w8y : ∀n,tri (n+1)+tri n=n*n
 | 0=>rfl
 | n+1=>by have:=w8y n;show tri (n+1)+(n+1)+(tri n+n)=(n+1)*(n+1);rw [Nat.add_mul,Nat.mul_add];omega
def hat (n:Nat):Nat→Nat
 | 0=>0
 | v+1=>hat n v+min v (2*n - v)
theorem v3k (n:Nat): ∀v,v≤n+1→hat n v=tri v
 | 0,_=>rfl
 | v+1,h=>by show hat n v+min v (2*n - v)=tri v+v;rw [v3k n v (by omega)];omega
theorem y3i (n:Nat): ∀j,j≤n→hat n (n+1+j)+tri (n - j)=n*n
 | 0,_=>by rw [Nat.add_zero,v3k n _ (Nat.le_refl _)];exact w8y n
 | j+1,h=>by
  have:=y3i n j (by omega);show hat n (n+1+j)+min (n+1+j) (2*n - (n+1+j))+tri (n - (j+1))=_;have e:tri (n - j)=tri (n - (j+1))+(n - (j+1)):=by rw [show n - j=(n - (j+1))+1 by omega];rfl
  omega
theorem hat_le (n v:Nat):hat n v≤n*n:=by
 by_cases h1:v≤2*n+1
 ·by_cases h2:v≤n+1
  ·have h3:=y3i n 0 (Nat.zero_le _);have mono: ∀k v,hat n v≤hat n (v+k):=fun k v=>by
    induction k with
    | zero=>exact Nat.le_refl _
    | succ k ih=>exact Nat.le_trans ih (Nat.le_add_right _ _)
   have:=mono (n+1 - v) v;rw [show v+(n+1 - v)=n+1+0 by omega] at this;omega
  ·have:=y3i n (v - (n+1)) (by omega);rw [show n+1+(v - (n+1))=v by omega] at this;omega
 ·have h3:hat n (2*n+1)≤n*n:=by have:=y3i n n (Nat.le_refl _);rw [show n+1+n=2*n+1 by omega] at this;omega
  have: ∀k,hat n (2*n+1+k)=hat n (2*n+1):=fun k=>by
   induction k with
   | zero=>rfl
   | succ k ih=>show hat n (2*n+1+k)+min (2*n+1+k) (2*n - (2*n+1+k))=_;rw [ih];omega
  have h4:=this (v - (2*n+1));rw [show 2*n+1+(v - (2*n+1))=v by omega] at h4;omega
theorem w3p (n:Nat) (E:Nat→Nat): ∀k,(∀i,i+1<k→E i<E (i+1))→((List.range k).map fun i=>min (E i) (2*n - E i)).sum ≤(match k with | 0=>0 | k+1=>hat n (E k+1))
 | 0,_=>Nat.le_refl _
 | k+1,h=>by
  rw [List.range_succ,List.map_append,List.sum_append];have ih:=w3p n E k fun i hi=>h i (by omega);have mono: ∀k v,hat n v≤hat n (v+k):=fun k v=>by
   induction k with
   | zero=>exact Nat.le_refl _
   | succ k ih=>exact Nat.le_trans ih (Nat.le_add_right _ _)
  simp only [List.map_cons,List.map_nil,List.sum_cons,List.sum_nil,Nat.add_zero];show _≤hat n (E k)+min (E k) (2*n - E k);cases k with
  | zero=>simp only [List.range_zero,List.map_nil,List.sum_nil];omega
  | succ k=>have h1:=h k (by omega);have h2:=mono (E (k+1) - (E k+1)) (E k+1);rw [show E k+1+(E (k+1) - (E k+1))=E (k+1) by omega] at h2;simp only at ih;omega
def x6c (p:Int→Bool) (l:List Int):Nat:=(l.filter p).length
theorem z2f (p:Int→Bool) (x:Int) (l:List Int):x6c p (x::l)=(if p x=true then 1 else 0)+x6c p l:=by
 unfold x6c;rw [List.filter_cons];split
 ·simp;omega
 ·simp
theorem j2t (p:Int→Bool) (l:List Int):x6c p l≤l.length:=List.length_filter_le _ _
theorem v4w {p q:Int→Bool} (h: ∀x,p x=true→q x=true) (l:List Int):x6c p l≤x6c q l:=by
 induction l with
 | nil=>exact Nat.le_refl _
 | cons x l ih=>
  rw [z2f,z2f];by_cases h1:p x=true
  ·rw [if_pos h1,if_pos (h x h1)];omega
  ·rw [if_neg h1];omega
theorem j2s {p q:Int→Bool} (h: ∀x,p x=true→q x=true) {l:List Int} {y:Int} (hy:y∈l) (hq:q y=true) (hp:p y=false):x6c p l<x6c q l:=by
 induction l with
 | nil=>cases hy
 | cons x l ih=>
  rw [z2f,z2f];rcases List.mem_cons.1 hy with rfl | hy
  ·have:=v4w h l;rw [hp,hq];simp;omega
  ·have:=ih hy;by_cases h1:p x=true
   ·rw [if_pos h1,if_pos (h x h1)];omega
   ·rw [if_neg h1];omega
namespace Dim
variable {α β:Type} {D:Dim α β}
theorem inn_min (l:List α) (x:Int) (hv: ∀r∈l,D.lo r<D.hi r):(D.inn l x).length ≤min (x6c (fun y=>decide (y≤x)) (D.ends l)) (2*l.length - x6c (fun y=>decide (y≤x)) (D.ends l)):=by
 induction l with
 | nil=>exact Nat.zero_le _
 | cons r l ih=>
  have ih:=ih fun s hs=>hv s (by simp [hs]);have hr:=hv r (by simp);have hc:=j2t (fun y=>decide (y≤x)) (D.ends l);rw [D.ends_length] at hc;have e:x6c (fun y=>decide (y≤x)) (D.ends (r::l))=(if D.lo r≤x then 1 else 0)+((if D.hi r≤x then 1 else 0)+x6c (fun y=>decide (y≤x)) (D.ends l)):=by show x6c _ (D.lo r::D.hi r::D.ends l)=_;rw [z2f,z2f];simp only [decide_eq_true_eq]
  have e2:(D.inn (r::l) x).length =(if D.lo r≤x∧x<D.hi r then 1 else 0)+(D.inn l x).length :=by
   unfold inn;rw [List.filter_cons];by_cases h:D.lo r≤x∧x<D.hi r
   ·rw [if_pos (by simp [h.1,h.2]),if_pos h];simp;omega
   ·rw [if_neg (by simp;intro h1;exact Int.not_lt.1 fun h2=>h ⟨h1,h2⟩),if_neg h,Nat.zero_add]
  rw [e,e2,List.length_cons];by_cases h1:D.lo r≤x <;> by_cases h2:D.hi r≤x
  ·rw [if_pos h1,if_pos h2,if_neg (by omega)];omega
  ·rw [if_pos h1,if_neg h2,if_pos (by omega)];omega
  ·omega
  ·rw [if_neg h1,if_neg h2,if_neg (by omega)];omega
theorem open_sum (l:List α) (hv: ∀r∈l,D.lo r<D.hi r): ∀k,k≤(D.cuts l).length →((List.range k).map fun i=>(D.inn l (rd (D.cuts l) i)).length).sum ≤l.length*l.length:=fun k hk=>by
 have hc:(D.cuts l).Pairwise (· < ·):=by show (Jj (D.ends l)).Pairwise (· < ·);rw [Jz];exact (Xn _).1
 have hm: ∀i,i<(D.cuts l).length →rd (D.cuts l) i∈D.ends l:=fun i hi=>by
  have:rd (D.cuts l) i∈Jj (D.ends l):=by rw [Xy hi];exact List.getElem_mem hi
  rw [Jz,(Xn _).2] at this;exact this
 have h1:((List.range k).map fun i=>(D.inn l (rd (D.cuts l) i)).length).sum ≤((List.range k).map fun i=>min (x6c (fun y=>decide (y≤rd (D.cuts l) i)) (D.ends l)) (2*l.length - x6c (fun y=>decide (y≤rd (D.cuts l) i)) (D.ends l))).sum :=by
  induction k with
  | zero=>exact Nat.le_refl _
  | succ k ih=>rw [List.range_succ,List.map_append,List.map_append,List.sum_append,List.sum_append];have:=ih (by omega);have h2:=D.inn_min l (rd (D.cuts l) k) hv;simp only [List.map_cons,List.map_nil,List.sum_cons,List.sum_nil];omega
 refine Nat.le_trans h1 ?_;have h2:=w3p l.length (fun i=>x6c (fun y=>decide (y≤rd (D.cuts l) i)) (D.ends l)) k fun i hi=>by have hlt:=y6z hc (show i<i+1 by omega) (show i+1<_ by omega);refine j2s (fun x hx=> ?_) (hm (i+1) (by omega)) (decide_eq_true (Int.le_refl _)) (decide_eq_false (by omega));have:=of_decide_eq_true hx;exact decide_eq_true (by omega)
 refine Nat.le_trans h2 ?_;cases k with
 | zero=>exact Nat.zero_le _
 | succ k=>exact hat_le _ _
theorem goS_length (sec:Int→List β) (cs:List Int): ∀(k i:Nat) (s:Sw α β),(D.goS sec cs k i s).out.length ≤s.out.length+((List.range k).map fun j=>(sec (rd cs (i+j))).length).sum
 | 0,i,s=>Nat.le_refl _
 | k+1,i,s=>by
  have h1:=goS_length sec cs k (i+1) (D.oneS (sec (rd cs i)) (rd cs i) (rd cs (i+1)) s);have h2:(D.oneS (sec (rd cs i)) (rd cs i) (rd cs (i+1)) s).out.length ≤s.out.length+(sec (rd cs i)).length :=by
   unfold oneS;cases (decide (0<(sec (rd cs i)).length)&&((s.fin == rd cs i)&&D.same s.last (sec (rd cs i)))) with
   | true=>rw [cond_true,D.grow_length];omega
   | false=>rw [cond_false];simp
  rw [List.range_succ_eq_map,List.map_cons,List.map_map,List.sum_cons,show rd cs (i+0)=rd cs i from rfl];have e:((fun j=>(sec (rd cs (i+j))).length)∘Nat.succ)=fun j=>(sec (rd cs (i+1+j))).length :=by
   funext j;simp only [Function.comp];rw [show i+j.succ=i+1+j by omega]
  rw [e];show (D.goS sec cs k (i+1) _).out.length ≤_;omega
theorem goJ_length (a b:List α) (J:List β→List β→List β) (hJ: ∀x,(J (D.inn a x) (D.inn b x)).length ≤(D.inn a x).length +(D.inn b x).length) (hv: ∀r∈a++b,D.lo r<D.hi r):
  (D.goS (fun x=>J (D.inn a x) (D.inn b x)) (D.cuts (a++b)) ((D.cuts (a++b)).length - 1) 0 ⟨[],[],0,0⟩).out.length ≤(a.length+b.length)*(a.length+b.length):=by
 have h1:=D.goS_length (fun x=>J (D.inn a x) (D.inn b x)) (D.cuts (a++b)) ((D.cuts (a++b)).length - 1) 0 ⟨[],[],0,0⟩;have h2:=D.open_sum (a++b) hv ((D.cuts (a++b)).length - 1) (Nat.sub_le _ _);rw [List.length_append] at h2;refine Nat.le_trans h1 (Nat.le_trans ?_ h2);simp only [List.length_nil,Nat.zero_add];generalize (D.cuts (a++b)).length - 1=k
 induction k with
 | zero=>exact Nat.le_refl _
 | succ k ih=>rw [List.range_succ,List.map_append,List.map_append,List.sum_append,List.sum_append];have:=hJ (rd (D.cuts (a++b)) k);simp only [List.map_cons,List.map_nil,List.sum_cons,List.sum_nil];rw [D.inn_append,List.length_append];omega
end Dim
end Go.Am
namespace Go.Am
open Go.Proofs Go.Sort Go.Shelf Go.RowKit Go.Lib
def spJ (k:Nat) (a b:List R2):List R2:=sw2 (opB k) (z0v (Wm 0 a++Wm 1 b)) 0 0 0 false []
theorem z8m (i:Int) (l:List R2) (hv:l.all z0u=true):y1q (Wm i l)=true:=List.all_eq_true.2 fun e he=>by obtain ⟨s,hs,h1⟩:=List.mem_flatMap.1 he;have hv:=List.all_eq_true.1 hv s hs;simp only [z0u,Bool.and_eq_true,decide_eq_true_eq] at hv;simp only [List.mem_cons,List.not_mem_nil,or_false] at h1;rcases h1 with rfl | rfl <;> exact decide_eq_true (by simp only;omega)
theorem w1o {l:List R2} (hv:l.all z0u=true): ∀s∈l,s.a<s.b:=fun s hs=>by have:=List.all_eq_true.1 hv s hs;simp only [z0u,Bool.and_eq_true,decide_eq_true_eq] at this;exact this.1
theorem z9f (k:Nat) {a b:List R2} (ha:a.all z0u=true) (hb:b.all z0u=true):y7w.can (spJ k a b)∧ ∀y,ptL y7w.inB (spJ k a b) y↔opB k (decide (pt a y)) (decide (pt b y))=true:=by
 have hbnd:y1q (Wm 0 a++Wm 1 b)=true:=by have h1:=z8m 0 a ha;have h2:=z8m 1 b hb;unfold y1q at*;rw [List.all_append,h1,h2];rfl
 obtain ⟨hp,_⟩:=Ks _ hbnd;exact u6r (opB k) (opB_ff k) a b (w1o ha) (w1o hb) _ hp (w1r _ hbnd)
theorem w2o : ∀(l S:List Int),l.Pairwise (· < ·)→(∀x∈l,x∈S)→l.length≤S.length
 | [],S,_,_=>Nat.zero_le _
 | x::l,S,h,hs=>by obtain ⟨h1,h2⟩:=List.pairwise_cons.1 h;have hx:=hs x (by simp);have:=w2o l (S.erase x) h2 fun y hy=>(List.mem_erase_of_ne (by have:=h1 y hy;omega)).2 (hs y (by simp [hy]));rw [List.length_erase_of_mem hx] at this;have:=List.length_pos_of_mem hx;simp only [List.length_cons];omega
def y0h (L:List R2):List Int:=L.flatMap fun s=>[s.a,s.b]
theorem z1g (L:List R2):(y0h L).length =2*L.length:=by
 induction L with
 | nil=>rfl
 | cons r l ih=>show (_::_::y0h l).length =_;simp only [List.length_cons,ih];omega
theorem y5y {L:List R2} (h:Can L):(y0h L).Pairwise (· < ·):=by
 induction L with
 | nil=>exact .nil
 | cons s L ih=>
  have hp:=h.pos s (by simp);have hn: ∀y∈y0h L,s.b<y:=fun y hy=>by obtain ⟨t,ht,h1⟩:=List.mem_flatMap.1 hy;have:=h.head t ht;have:=h.pos t (by simp [ht]);simp only [List.mem_cons,List.not_mem_nil,or_false] at h1;omega
  show (s.a::s.b::y0h L).Pairwise (· < ·);refine List.pairwise_cons.2 ⟨fun y hy=> ?_,List.pairwise_cons.2 ⟨hn,ih h.tail⟩⟩;rcases List.mem_cons.1 hy with rfl | hy
  ·exact hp
  ·have:=hn y hy;omega
theorem w8a {L:List R2} (h:Can L) (S:List Int) (hS: ∀y,y ∉ S→(pt L (y - 1)↔pt L y)):2*L.length≤S.length:=by
 rw [←z1g];refine w2o _ S (y5y h) fun y hy=>Classical.byContradiction fun hn=> ?_;obtain ⟨s,hs,h1⟩:=List.mem_flatMap.1 hy;have hp:=h.pos s hs;have sepL: ∀t∈L,t=s∨t.b<s.a∨s.b<t.a:=fun t ht=>by
  obtain ⟨i,hi,ei⟩:=List.getElem_of_mem hs;obtain ⟨j,hj,ej⟩:=List.getElem_of_mem ht;have pw:=List.pairwise_iff_getElem.1 h.sep;rcases Nat.lt_trichotomy i j with q | q | q
  ·have:=pw i j hi hj q;rw [ei,ej] at this;exact .inr (.inr this)
  ·subst q;exact .inl (ej.symm.trans ei)
  ·have:=pw j i hj hi q;rw [ei,ej] at this;exact .inr (.inl this)
 simp only [List.mem_cons,List.not_mem_nil,or_false] at h1;rcases h1 with rfl | rfl
 ·obtain ⟨t,ht,t1,t2⟩:=(hS _ hn).2 ⟨s,hs,Int.le_refl _,hp⟩;rcases sepL t ht with rfl | q | q <;> omega
 ·obtain ⟨t,ht,t1,t2⟩:=(hS _ hn).1 ⟨s,hs,by omega,by omega⟩;rcases sepL t ht with rfl | q | q <;> omega
theorem z9m {l:List R2} {y:Int} (h:y ∉ y0h l):pt l (y - 1)↔pt l y:=by
 constructor
 ·rintro ⟨s,hs,h1,h2⟩;refine ⟨s,hs,by omega,?_⟩;have:y≠s.b:=fun e=>h (List.mem_flatMap.2 ⟨s,hs,by simp [e]⟩);omega
 ·rintro ⟨s,hs,h1,h2⟩;refine ⟨s,hs,?_,by omega⟩;have:y≠s.a:=fun e=>h (List.mem_flatMap.2 ⟨s,hs,by simp [e]⟩);omega
theorem z1n (k:Nat) {a b:List R2} (ha:a.all z0u=true) (hb:b.all z0u=true):(spJ k a b).length ≤a.length+b.length:=by
 obtain ⟨h1,h2⟩:=z9f k ha hb;have:=w8a h1 (y0h a++y0h b) fun y hy=>by rw [List.mem_append,not_or] at hy;have e1:decide (pt a (y - 1))=decide (pt a y):=decide_eq_decide.2 (z9m hy.1);have e2:decide (pt b (y - 1))=decide (pt b y):=decide_eq_decide.2 (z9m hy.2);have q1:pt (spJ k a b) (y - 1)↔_:=h2 (y - 1);have q2:pt (spJ k a b) y↔_:=h2 y;rw [q1,q2,e1,e2]
 rw [List.length_append,z1g,z1g] at this;omega
def rgJ (k:Nat) (a b:List R4):List R4:=(D4.goS (fun x=>spJ k (D4.inn a x) (D4.inn b x)) (D4.cuts (a++b)) ((D4.cuts (a++b)).length - 1) 0 ⟨[],[],0,0⟩).out
theorem u6y (k:Nat):spJ k [] []=[]:=by have:=z1n k (a:=[]) (b:=[]) rfl rfl;exact List.eq_nil_of_length_eq_zero (by simpa using this)
instance ptDec4 (l:List R4) (p:Int×Int):Decidable (ptL Wy.inB l p):=Classical.propDecidable _
theorem z4j (l:List R4) (x y:Int):pt (D4.inn l x) y↔ptL Wy.inB l (x,y):=Dim.pt_inn (D:=D4) y7w.inB l x y
theorem Kb (k:Nat) {a b:List R4} (ha: ∀r∈a,Vw r=true) (hb: ∀r∈b,Vw r=true):
  Wy.can (rgJ k a b)∧(∀p,ptL Wy.inB (rgJ k a b) p↔opB k (decide (ptL Wy.inB a p)) (decide (ptL Wy.inB b p))=true)∧(rgJ k a b).length ≤(a.length+b.length)*(a.length+b.length):=by
 have hs: ∀x,y7w.can (spJ k (D4.inn a x) (D4.inn b x))∧ ∀y,ptL y7w.inB (spJ k (D4.inn a x) (D4.inn b x)) y↔opB k (decide (pt (D4.inn a x) y)) (decide (pt (D4.inn b x) y))=true:=fun x=>z9f k (Vp ha x) (Vp hb x);obtain ⟨h1,h2⟩:=Dim.goJ_can y6p x3k y7w a b (spJ k) (fun x=>(hs x).1) (u6y k);refine ⟨h1,fun ⟨x,y⟩=> ?_,?_⟩
 ·rw [show ptL Wy.inB (rgJ k a b) (x,y)↔_ from h2 x y,(hs x).2];have e1:decide (pt (D4.inn a x) y)=decide (ptL Wy.inB a (x,y)):=decide_eq_decide.2 (z4j a x y);have e2:decide (pt (D4.inn b x) y)=decide (ptL Wy.inB b (x,y)):=decide_eq_decide.2 (z4j b x y);rw [e1,e2]
 ·refine Dim.goJ_length a b (spJ k) (fun x=>z1n k (Vp ha x) (Vp hb x)) fun r hr=> ?_;have hv:Vw r=true:=by
   rcases List.mem_append.1 hr with h | h
   ·exact ha r h
   ·exact hb r h
  simp only [Vw,Bool.and_eq_true,decide_eq_true_eq] at hv;exact hv.1
end Go.Am
namespace Go.Am
open Go.Proofs.Tryz
open Go.Proofs
inductive schS where
 | h0 (v10:Int)
def schC (l0:List R2):schS→Cfg
 | .h0 v10=>⟨⟨34,0,true⟩,none,(Zd prog 191 [1,1,0,1,0,0] 0),none,(Zy prog 3),⟨Yd [(0,(.dat l0.length (Zz l0))),(8,(.dat l0.length (Zz l0))),(9,(ii (l0.length:Int))),(10,(ii v10))],Uw [] 0,0,[],true⟩,[],.leaf⟩
def u7u :List (Option (List Nat)):=[some [0,8,9,10]]
def u7v :List (Option (List Nat)):=[]
def z4a (l0:List R2):schS→Xb schS
 | .h0 v10=>(bif (decide (v10<(l0.length:Int))) then (bif ((decide (0≤v10∧v10<(l0.length:Int)))&&true) then (bif (decide ((rd l0 v10.toNat).a <(rd l0 v10.toNat).b)) then (bif (decide ((rd l0 v10.toNat).a ≥(-1000000))) then (bif (!(decide ((rd l0 v10.toNat).b ≤1000000))) then (.ret [(.int .i64 8)]) else (bif (decide (v10>0)) then (bif ((decide (0≤(IntKind.wrap .i64 (v10 - 1))∧(IntKind.wrap .i64 (v10 - 1))<(l0.length:Int)))&&true) then (bif (decide ((rd l0 (Int.toNat (IntKind.wrap .i64 (v10 - 1)))).b ≥(rd l0 v10.toNat).a)) then (.ret [(.int .i64 8)]) else (.to (.h0 (IntKind.wrap .i64 (v10+1))))) else .stuck) else (.to (.h0 (IntKind.wrap .i64 (v10+1)))))) else (.ret [(.int .i64 8)])) else (.ret [(.int .i64 8)])) else .stuck) else (.ret [(.int .i64 0)]))
def y2i (l0:List R2):Xb schS:=(bif (decide ((l0.length:Int)>400)) then (.ret [(.int .i64 4)]) else (.to (.h0 0)))
theorem w5j (l0:List R2): ∀s,Xv prog (Zy prog 191) (schC l0) (schC l0 s) (z4a l0 s)
 | .h0 v10=>(lb (fun k0=>(lo fun aF=>(lb (fun k1=>(lb (fun k2=>(lb (fun k3=>(lr 34 191 [1,1,0,1,0,0,1,1,0,0,1,1,0,0] 1 3 [(2,(ii 8))] (sl z5q 25 [] ⟨[],[],[some [2]],[]⟩ ⟨[],[],[]⟩ (trs 12 []) (tt k3 (tt k2 (tt k1 (ww aF (tt k0 nn)))))))) (fun k3=>(lb (fun k4=>(lo fun cS=>(lb (fun k5=>(lr 34 191 [1,1,0,1,0,0,1,1,0,0,1,1,0,0] 1 3 [(2,(ii 8))] (sl z5q 25 [] ⟨[],[],[some [2]],[]⟩ ⟨[],[],[]⟩ (trs 7 (bl 14 12280)) (tt k5 (ww cS (tt k4 (tt k3 (tt k2 (tt k1 (ww aF (tt k0 nn))))))))))) (fun k5=>(sl z5q 28 [] ⟨[],[],u7u,u7v⟩ ⟨[],[],[]⟩ (trs 7 (bl 14 4088)) (tt k5 (ww cS (tt k4 (tt k3 (tt k2 (tt k1 (ww aF (tt k0 nn))))))))))))) (fun k4=>(sl z5q 28 [] ⟨[],[],u7u,u7v⟩ ⟨[],[],[]⟩ (trs 7 (bl 14 0)) (tt k4 (tt k3 (tt k2 (tt k1 (ww aF (tt k0 nn)))))))))))) (fun k2=>(lr 34 191 [1,1,0,1,0,0,1,1,0,0,1,1,0,0] 1 3 [(2,(ii 8))] (sl z5q 25 [] ⟨[],[],[some [2]],[]⟩ ⟨[],[],[]⟩ (trs 4 (bl 8 248)) (tt k2 (tt k1 (ww aF (tt k0 nn))))))))) (fun k1=>(lr 34 191 [1,1,0,1,0,0,1,1,0,0,1,1,0,0] 1 3 [(2,(ii 8))] (sl z5q 25 [] ⟨[],[],[some [2]],[]⟩ ⟨[],[],[]⟩ (bl 12 3969) (tt k1 (ww aF (tt k0 nn))))))))) (fun k0=>(lr 34 3 [1,1,1,1,1,1,1,0] 1 3 [(2,(ii 0))] (sl z5q 11 [] ⟨[],[],[some [2]],[]⟩ ⟨[],[],[]⟩ [false] (tt k0 nn)))))
theorem x7b (l0:List R2):Xv prog (Zy prog 191) (schC l0) (Zc prog 191 [(.dat l0.length (Zz l0))] true []) (y2i l0):=(lb (fun k0=>(lr 34 191 [1,0,1,0,0] 1 3 [(2,(ii 4))] (sl z5q 16 [] ⟨[],[],[some [2]],[]⟩ ⟨[],[],[]⟩ [true] (tt k0 nn)))) (fun k0=>(sl z5q 22 [] ⟨[],[],u7u,u7v⟩ ⟨[],[],[]⟩ [false] (tt k0 nn))))
theorem v6y (l0:List R2) (n:Nat) (vs:List AVal) (h:Yv (z4a l0) n (y2i l0)=.ret vs):Jt prog (Zy prog 191) (Zc prog 191 [(.dat l0.length (Zz l0))] true []) vs:=by have:=Ze (w5j l0) n _ (x7b l0);rwa [h] at this
inductive cuS where
def cuC (x0:Bool) (x1:Bool):cuS→Cfg
 :=nofun
def v4u (x0:Bool) (x1:Bool):cuS→Xb cuS
 :=nofun
def w0l (x0:Bool) (x1:Bool):Xb cuS:=(bif x0 then (.ret [(.bool true)]) else (.ret [(.bool x1)]))
theorem v4t (x0:Bool) (x1:Bool): ∀s,Xv prog (Zy prog 164) (cuC x0 x1) (cuC x0 x1 s) (v4u x0 x1 s)
 :=nofun
theorem w7v (x0:Bool) (x1:Bool):Xv prog (Zy prog 164) (cuC x0 x1) (Zc prog 164 [(.bool x0),(.bool x1)] true []) (w0l x0 x1):=(lb (fun k0=>(lr 9 3 [1,1,1,1,1,1,1,0] 1 5 [(4,(.bool true))] (sl z5q 12 [] ⟨[],[],[some [4]],[]⟩ ⟨[],[],[]⟩ [true] (tt k0 nn)))) (fun k0=>(lr 9 3 [1,1,1,1,1,1,1,0] 1 5 [(4,(.bool x1))] (sl z5q 12 [] ⟨[],[],[some [4]],[]⟩ ⟨[],[],[]⟩ [false] (tt k0 nn)))))
theorem j2p (x0:Bool) (x1:Bool) (n:Nat) (vs:List AVal) (h:Yv (v4u x0 x1) n (w0l x0 x1)=.ret vs):Jt prog (Zy prog 164) (Zc prog 164 [(.bool x0),(.bool x1)] true []) vs:=by have:=Ze (v4t x0 x1) n _ (w7v x0 x1);rwa [h] at this
inductive ceS where
def ceC (x0:Bool) (x1:Bool):ceS→Cfg
 :=nofun
def v4z (x0:Bool) (x1:Bool):ceS→Xb ceS
 :=nofun
def w0q (x0:Bool) (x1:Bool):Xb ceS:=(bif x0 then (.ret [(.bool x1)]) else (.ret [(.bool false)]))
theorem v4y (x0:Bool) (x1:Bool): ∀s,Xv prog (Zy prog 170) (ceC x0 x1) (ceC x0 x1 s) (v4z x0 x1 s)
 :=nofun
theorem w7y (x0:Bool) (x1:Bool):Xv prog (Zy prog 170) (ceC x0 x1) (Zc prog 170 [(.bool x0),(.bool x1)] true []) (w0q x0 x1):=(lb (fun k0=>(lr 9 3 [1,1,1,1,1,1,1,0] 1 5 [(4,(.bool x1))] (sl z5q 12 [] ⟨[],[],[some [4]],[]⟩ ⟨[],[],[]⟩ [true] (tt k0 nn)))) (fun k0=>(lr 9 3 [1,1,1,1,1,1,1,0] 1 5 [(4,(.bool false))] (sl z5q 12 [] ⟨[],[],[some [4]],[]⟩ ⟨[],[],[]⟩ [false] (tt k0 nn)))))
theorem j2u (x0:Bool) (x1:Bool) (n:Nat) (vs:List AVal) (h:Yv (v4z x0 x1) n (w0q x0 x1)=.ret vs):Jt prog (Zy prog 170) (Zc prog 170 [(.bool x0),(.bool x1)] true []) vs:=by have:=Ze (v4y x0 x1) n _ (w7y x0 x1);rwa [h] at this
inductive cdS where
def cdC (x0:Bool) (x1:Bool):cdS→Cfg
 :=nofun
def v5b (x0:Bool) (x1:Bool):cdS→Xb cdS
 :=nofun
def w0s (x0:Bool) (x1:Bool):Xb cdS:=(bif x0 then (.ret [(.bool (!x1))]) else (.ret [(.bool false)]))
theorem v5a (x0:Bool) (x1:Bool): ∀s,Xv prog (Zy prog 163) (cdC x0 x1) (cdC x0 x1 s) (v5b x0 x1 s)
 :=nofun
theorem w7z (x0:Bool) (x1:Bool):Xv prog (Zy prog 163) (cdC x0 x1) (Zc prog 163 [(.bool x0),(.bool x1)] true []) (w0s x0 x1):=(lb (fun k0=>(lr 10 3 [1,1,1,1,1,1,1,0] 1 5 [(4,(.bool (!x1)))] (sl z5q 13 [] ⟨[],[],[some [4]],[]⟩ ⟨[],[],[]⟩ [true,true] (tt k0 nn)))) (fun k0=>(lr 10 3 [1,1,1,1,1,1,1,0] 1 5 [(4,(.bool false))] (sl z5q 13 [] ⟨[],[],[some [4]],[]⟩ ⟨[],[],[]⟩ [false,false] (tt k0 nn)))))
theorem j2v (x0:Bool) (x1:Bool) (n:Nat) (vs:List AVal) (h:Yv (v5b x0 x1) n (w0s x0 x1)=.ret vs):Jt prog (Zy prog 163) (Zc prog 163 [(.bool x0),(.bool x1)] true []) vs:=by have:=Ze (v5a x0 x1) n _ (w7z x0 x1);rwa [h] at this
end Go.Am
namespace Go.Am
open Go.Proofs.Tryz
open Go.Proofs
open Go.Sort Go.Shelf Go.RowKit Go.Lib
def w4z (l:List R2) (i:Nat):Bool:=z0u (rd l i)&&(decide (i=0)||decide ((rd l (i - 1)).b <(rd l i).a))
def y8d (l:List R2):Int:=bif decide (400<l.length) then 4 else bif (List.range l.length).all (w4z l) then 0 else 8
def z4b (l:List R2):Bool:=true
theorem u2r (l:List R2) (hl:l.length≤400): ∀(k i:Nat),i+k=l.length→(∀j,j<i→w4z l j=true)→ ∃n,Yv (z4a l) n (.to (.h0 (i:Int)))=.ret [.int .i64 (bif (List.range l.length).all (w4z l) then 0 else 8)]
 | 0,i,h,ht=>by have hv:(List.range l.length).all (w4z l)=true:=List.all_eq_true.2 fun j hj=>ht j (by have:=List.mem_range.1 hj;omega);refine ⟨1,?_⟩;rw [Zv,hv];simp (disch:=omega) only [z4a,Yx,cond_true,cond_false,Zm]
 | k +1,i,h,ht=>by
  have hi:i<l.length:=by omega
  have hlt:decide ((i:Int)<(l.length:Int))=true:=decide_eq_true (by omega);have hin:decide (0≤(i:Int)∧(i:Int)<(l.length:Int))=true:=decide_eq_true (by omega);have step:z4a l (.h0 (i:Int))=bif w4z l i then .to (.h0 ((i+1:Nat):Int)) else .ret [.int .i64 8]:=by
   unfold w4z z0u;by_cases hi0:i=0
   ·have g1:decide ((i:Int)>0)=false:=decide_eq_false (by omega);rw [decide_eq_true hi0];simp (disch:=omega) only [z4a,hlt,hin,g1,Zq,Zx,Zj,y6a,z6x,Bool.true_or,Bool.and_true,cond_true,cond_false]
   ·have g1:decide ((i:Int)>0)=true:=decide_eq_true (by omega);have g2:IntKind.wrap .i64 ((i:Int) - 1)=((i - 1:Nat):Int):=by rw [Zq (by omega)];omega
    have g3:decide (0≤((i - 1:Nat):Int)∧((i - 1:Nat):Int)<(l.length:Int))=true:=decide_eq_true (by omega);have g4:decide ((rd l (i - 1)).b ≥(rd l i).a)= !decide ((rd l (i - 1)).b <(rd l i).a):=by
     by_cases q:(rd l (i - 1)).b <(rd l i).a
     ·rw [decide_eq_true q,decide_eq_false (by omega)];rfl
     ·rw [decide_eq_false q,decide_eq_true (by omega)];rfl
    rw [decide_eq_false hi0];simp (disch:=omega) only [z4a,hlt,hin,g1,g2,g3,g4,Zq,Zx,Zj,y6a,z6x,Bool.false_or,Bool.and_true,cond_true,cond_false]
  rcases Ye (w4z l i) with q | q
  ·obtain ⟨n,hn⟩:=u2r l hl k (i+1) (by omega) (fun j hj=>by
    rcases Nat.eq_or_lt_of_le (Nat.le_of_lt_succ hj) with rfl | hj
    ·exact q
    ·exact ht j hj)
   refine ⟨n+1,?_⟩;rw [Zv,step,q,cond_true];exact hn
  ·have hv:(List.range l.length).all (w4z l)=false:=Bool.eq_false_iff.2 fun e=>by have:=List.all_eq_true.1 e i (List.mem_range.2 hi);rw [q] at this;cases this
   refine ⟨1,?_⟩;rw [Zv,step,q,hv,cond_false,Zm];rfl
theorem u7t (l:List R2) (h:z4b l=true): ∃n,Yv (z4a l) n (y2i l)=.ret [.int .i64 (y8d l)]:=by
 unfold y2i y8d;by_cases h:400<l.length
 ·refine ⟨0,?_⟩;rw [decide_eq_true h,Yo (show (l.length:Int)>400 by omega)];rfl
 ·obtain ⟨n,hn⟩:=u2r l (by omega) l.length 0 (Nat.zero_add _) (fun j hj=>absurd hj (Nat.not_lt_zero _));refine ⟨n,?_⟩;rw [decide_eq_false h,Xp (show¬(l.length:Int)>400 by omega),cond_false,cond_false];exact hn
inductive Op where
 | u | e | d
abbrev Op.k :Op→Nat
 | .u =>0
 | .e =>1
 | .d =>2
abbrev nC :Op→Nat
 | .u =>nSpU1
 | .e =>nSpE1
 | .d =>nSpD1
abbrev nSp :Op→Nat
 | .u =>nSpU
 | .e =>nSpE
 | .d =>nSpD
abbrev nRg :Op→Nat
 | .u =>nRgU
 | .e =>nRgE
 | .d =>nRgD
def cV (q:Op) (a b:Bool):Bool:=opB q.k a b
theorem cu_run (a b:Bool): ∃N,Yv (v4u a b) N (w0l a b)=.ret [.bool (cV .u a b)]:=⟨0,by cases a <;> cases b <;> rfl⟩
theorem ce_run (a b:Bool): ∃N,Yv (v4z a b) N (w0q a b)=.ret [.bool (cV .e a b)]:=⟨0,by cases a <;> cases b <;> rfl⟩
theorem cd_run (a b:Bool): ∃N,Yv (v5b a b) N (w0s a b)=.ret [.bool (cV .d a b)]:=⟨0,by cases a <;> cases b <;> rfl⟩
theorem x0p (l:List R2):y8d l=0↔l.length≤400∧l.all z0u=true∧Can l:=by
 unfold y8d;constructor
 ·intro h;by_cases h1:400<l.length
  ·rw [decide_eq_true h1] at h;cases h
  ·rw [decide_eq_false h1,cond_false] at h;cases hq:(List.range l.length).all (w4z l) with
   | false=>rw [hq] at h;cases h
   | true=>
    have hq:=fun i hi=>List.all_eq_true.1 hq i (List.mem_range.2 hi);have hv: ∀i,i<l.length→z0u (rd l i)=true:=fun i hi=>by have:=hq i hi;unfold w4z at this;rw [Bool.and_eq_true] at this;exact this.1
    have hp: ∀i,i<l.length→(rd l i).a <(rd l i).b :=fun i hi=>by have:=hv i hi;simp only [z0u,Bool.and_eq_true,decide_eq_true_eq] at this;exact this.1
    have hs: ∀i,i+1<l.length→(rd l i).b <(rd l (i+1)).a :=fun i hi=>by
     have:=hq (i+1) hi;unfold w4z at this;rw [Bool.and_eq_true,Bool.or_eq_true] at this;rcases this.2 with q | q
     ·have:=of_decide_eq_true q;omega
     ·exact of_decide_eq_true q
    refine ⟨by omega,List.all_eq_true.2 fun s hs=> ?_,⟨fun s hs=> ?_,?_⟩⟩
    ·obtain ⟨i,hi,rfl⟩:=List.getElem_of_mem hs;rw [←Xy hi];exact hv i hi
    ·obtain ⟨i,hi,rfl⟩:=List.getElem_of_mem hs;rw [←Xy hi];exact hp i hi
    ·refine List.pairwise_iff_getElem.2 fun i j hi hj hij=> ?_;rw [←Xy hi,←Xy hj];clear hi
     induction j with
     | zero=>omega
     | succ j ih=>
      have h1:=hs j hj;rcases Nat.eq_or_lt_of_le (Nat.le_of_lt_succ hij) with rfl | q
      ·exact h1
      ·have h2:=ih (by omega) q;have h3:=hp j (by omega);omega
 ·rintro ⟨h1,h2,h3⟩;rw [decide_eq_false (by omega),cond_false];have:(List.range l.length).all (w4z l)=true:=List.all_eq_true.2 fun i hi=>by
   have hi:=List.mem_range.1 hi;unfold w4z;rw [List.all_eq_true.1 h2 (rd l i) (by rw [Xy hi];exact List.getElem_mem hi),Bool.true_and,Bool.or_eq_true];by_cases h0:i=0
   ·exact .inl (decide_eq_true h0)
   ·refine .inr (decide_eq_true ?_);have:=List.pairwise_iff_getElem.1 h3.sep (i - 1) i (by omega) hi (by omega);rwa [←Xy,←Xy] at this
  rw [this];rfl
def fSch :List AVal→Option (AVal×Bool)
 | [a0]=>match asL R2 a0 with
  | some (L0,g0,n0)=>some (.int .i64 (y8d L0),isT R2 n0 g0&&(z4b L0))
  | _=>none
 | _=>none
theorem j1g {S:Specs} (hS:Zu prog S):Zu prog (S.with w2q fSch):=by
 refine z2d hS (by kernel_rfl) fun args v h=> ?_;unfold fSch at h;split at h
 ·rename_i a0;split at h
  ·rename_i L0 g0 n0 e0;simp only [Option.some.injEq,Prod.mk.injEq,Bool.and_eq_true] at h;obtain ⟨rfl,ho0,hw⟩:=h;obtain ⟨N,hN⟩:=u7t L0 hw;exact ⟨_,_,(.cons (asL_le e0 ho0) .nil),rfl,v6y L0 N _ hN,3,rfl⟩
  ·cases h
 ·cases h
def fCu :List AVal→Option (AVal×Bool)
 | [.bool b0,.bool b1]=>some (.bool (cV .u b0 b1),true)
 | _=>none
theorem fCu_ok {S:Specs} (hS:Zu prog S):Zu prog (S.with (nC .u) fCu):=by
 refine z2d hS (by kernel_rfl) fun args v h=> ?_;unfold fCu at h;split at h
 ·rename_i b0 b1;simp only [Option.some.injEq,Prod.mk.injEq,and_true] at h;subst h;obtain ⟨N,hN⟩:=cu_run b0 b1;exact ⟨_,_,(.cons (.refl _) (.cons (.refl _) .nil)),rfl,j2p b0 b1 N _ hN,3,rfl⟩
 ·cases h
def fCe :List AVal→Option (AVal×Bool)
 | [.bool b0,.bool b1]=>some (.bool (cV .e b0 b1),true)
 | _=>none
theorem fCe_ok {S:Specs} (hS:Zu prog S):Zu prog (S.with (nC .e) fCe):=by
 refine z2d hS (by kernel_rfl) fun args v h=> ?_;unfold fCe at h;split at h
 ·rename_i b0 b1;simp only [Option.some.injEq,Prod.mk.injEq,and_true] at h;subst h;obtain ⟨N,hN⟩:=ce_run b0 b1;exact ⟨_,_,(.cons (.refl _) (.cons (.refl _) .nil)),rfl,j2u b0 b1 N _ hN,3,rfl⟩
 ·cases h
def fCd :List AVal→Option (AVal×Bool)
 | [.bool b0,.bool b1]=>some (.bool (cV .d b0 b1),true)
 | _=>none
theorem fCd_ok {S:Specs} (hS:Zu prog S):Zu prog (S.with (nC .d) fCd):=by
 refine z2d hS (by kernel_rfl) fun args v h=> ?_;unfold fCd at h;split at h
 ·rename_i b0 b1;simp only [Option.some.injEq,Prod.mk.injEq,and_true] at h;subst h;obtain ⟨N,hN⟩:=cd_run b0 b1;exact ⟨_,_,(.cons (.refl _) (.cons (.refl _) .nil)),rfl,j2v b0 b1 N _ hN,3,rfl⟩
 ·cases h
def Ua :Specs:=((((T9.with w2q fSch).with (nC .u) fCu).with (nC .e) fCe).with (nC .d) fCd)
theorem z2i :Zu prog Ua:=(fCd_ok (fCe_ok (fCu_ok (j1g z5q))))
end Go.Am
namespace Go.Am
open Go.Proofs.Tryz
open Go.Proofs
inductive spjS where
 | h0 (v3:List R3) (v17:Int)
 | h1 (v3:List R3) (v17:Int)
 | h2 (v5:List R3) (v6:Int) (v7:Int) (aA:Int) (aI:Int) (aP:Int) (aG:Bool) (aC:List R2)
abbrev Uu (aC:List R2) (aP:Int) (v5:List R3) (v7:Int):=(aC++[(R2.mk aP (rd v5 (0+(tn v7))).a)])
def w9k (l0:List R2) (l1:List R2) (q:Op):AFr:=⟨⟨29,0,true⟩,(Jk prog 162 [1,1,1,0] 3),(Zd prog 162 [1,1,1,0] 1),none,(Zy prog 32),Yd [(21,(.dat l0.length (Zz l0))),(22,(.dat l1.length (Zz l1))),(23,(.fn (nC q) []))]⟩
abbrev y0v (aC:List R2) (aP:Int) (v5:List R3) (v7:Int):=(Zi (Zz aC) 0 aC.length 2 [(ii aP),(ii (rd v5 (0+(tn v7))).a)])
def w9j (q:Op) (l0:List R2) (l1:List R2):AFr:=⟨⟨11,0,true⟩,(Jk prog (nSp q) [1,0] 2),(Zd prog (nSp q) [1,0] 1),none,(Zy prog 28),Yd [(6,(.dat l0.length (Zz l0))),(7,(.dat l1.length (Zz l1)))]⟩
def u1x :AFr:=⟨⟨42,0,true⟩,(Jk prog 186 [1,1,1,1,1,0,0] 3),(Zd prog 186 [1,1,1,1,1,0,0] 1),none,(Zy prog 8),Yd [(5,(.ptr 1 0)),(6,.nils),(7,(.ptr 2 0)),(8,(.ptr 3 0)),(9,(.ptr 4 0)),(10,(.ptr 5 0)),(11,(.ptr 6 0)),(16,(.sl 0 0 2 (.un 1)))]⟩
abbrev y7q (v3:List R3) (l0:List R2) (v17:Int):=(v3++[(R3.mk (rd l0 (tn v17)).a 0 1),(R3.mk (rd l0 (tn v17)).b 0 (-1))])
abbrev y7p (v3:List R3) (l1:List R2) (v17:Int):=(v3++[(R3.mk (rd l1 (tn v17)).a 1 1),(R3.mk (rd l1 (tn v17)).b 1 (-1))])
def spjC (q:Op) (l0:List R2) (l1:List R2):spjS→Cfg
 | .h0 v3 v17=>⟨⟨38,0,true⟩,none,(Zd prog 197 [1,1,0,1,0,0,1,1,0,0,1,1,0,0] 0),none,(Zy prog 3),⟨Yd [(3,(.sla 7 3 0 v3.length (.un 3))),(4,(ii 0)),(8,(.sl 0 0 2 (.un 1))),(9,(ii 2)),(10,(ii 0)),(15,(.dat l0.length (Zz l0))),(16,(ii (l0.length:Int))),(17,(ii v17))],Uw [⟨[(.dat l0.length (Zz l0)),(.dat l1.length (Zz l1))],180,none⟩,⟨[(.fn (nC q) [])],213,none⟩,⟨[(ii 0),(ii 0)],142,none⟩,⟨[.nils],180,none⟩,⟨[(ii 0)],3,none⟩,⟨[(.bool false)],4,none⟩,⟨[(.fn 196 [(.ptr 5 0),(.ptr 4 0),(.ptr 3 0)])],242,none⟩,⟨rows v3.length (Zz v3),246,some ⟨3,v3.length,(Zz v3)⟩⟩] 0,8,[],true⟩,[u1x,(w9k l0 l1 q),(w9j q l0 l1)],.leaf⟩
 | .h1 v3 v17=>⟨⟨38,0,true⟩,none,(Zd prog 197 [1,1,0,1,0,0,1,1,0,0,1,1,0,0] 0),none,(Zy prog 3),⟨Yd [(3,(.sla 7 3 0 v3.length (.un 3))),(4,(ii 1)),(8,(.sl 0 0 2 (.un 1))),(9,(ii 2)),(10,(ii 1)),(15,(.dat l1.length (Zz l1))),(16,(ii (l1.length:Int))),(17,(ii v17))],Uw [⟨[(.dat l0.length (Zz l0)),(.dat l1.length (Zz l1))],180,none⟩,⟨[(.fn (nC q) [])],213,none⟩,⟨[(ii 0),(ii 0)],142,none⟩,⟨[.nils],180,none⟩,⟨[(ii 0)],3,none⟩,⟨[(.bool false)],4,none⟩,⟨[(.fn 196 [(.ptr 5 0),(.ptr 4 0),(.ptr 3 0)])],242,none⟩,⟨rows v3.length (Zz v3),246,some ⟨3,v3.length,(Zz v3)⟩⟩] 0,8,[],true⟩,[u1x,(w9k l0 l1 q),(w9j q l0 l1)],.leaf⟩
 | .h2 v5 v6 v7 aA aI aP aG aC=>⟨⟨16,0,true⟩,none,(Zd prog 205 [1,0,0] 0),none,[],⟨Yd [(0,(.yld 0)),(5,(.sla 7 3 0 v5.length (.un 3))),(6,(ii v6)),(7,(ii v7))],y1b [(1,⟨[(.fn (nC q) [])],213,none⟩),(2,⟨[(ii aA),(ii aI)],142,none⟩),(3,⟨[(ii aP)],3,none⟩),(4,⟨[(.bool aG)],4,none⟩),(5,⟨[(.fn 196 [(.ptr 4 0),(.ptr 3 0),(.ptr 6 0)])],242,none⟩),(6,⟨[(.sla 8 2 0 aC.length (.un 2))],180,none⟩),(7,⟨rows v5.length (Zz v5),246,some ⟨3,v5.length,(Zz v5)⟩⟩),(8,⟨rows aC.length (Zz aC),183,some ⟨2,aC.length,(Zz aC)⟩⟩)],9,[],true⟩,[⟨⟨42,0,true⟩,none,(.inRangeFunc 0::(Zd prog 186 [1,1,1,1,1,0,1,0] 1)),none,(Zy prog 8),Yd [(6,.nils),(8,(.ptr 6 0))]⟩,(w9k l0 l1 q),(w9j q l0 l1)],(y7a [(0,⟨.ready,none,42,Yd [(5,(.ptr 1 0)),(7,(.ptr 2 0)),(9,(.ptr 3 0)),(10,(.ptr 4 0)),(11,(.ptr 5 0))],[18],(Vn prog 186 [1,1,1,1,1,0,1,0,0]),(Vn prog 186 [1,1,1,1,1,0,1,0,1])⟩)])⟩
def spjN0 :List (Option (List Nat)):=[some [3,4,8,9,10,15,16,17],some [5,6,7,8,9,10,11,16],some [21,22,23],some [6,7]]
def spjM0 :List (Option (List Nat)):=[]
def spjN1 :List (Option (List Nat)):=[some [3,4,8,9,10,15,16,17],some [5,6,7,8,9,10,11,16],some [21,22,23],some [6,7]]
def spjM1 :List (Option (List Nat)):=[]
def y4b :List (Option (List Nat)):=[some [0,5,6,7],some [6,8],some [21,22,23],some [6,7]]
def y4c :List (Option (List Nat)):=[some [5,7,9,10,11],none,none,none,none,none,none,none,none]
def Wa (q:Op) (l0:List R2) (l1:List R2):spjS→Xb spjS
 | .h0 v3 v17=>(bif (decide (v17<(l0.length:Int))) then (bif ((decide (0≤v17∧v17<(l0.length:Int)))&&true) then (bif (Nat.beq 3 3&&((decide (0+v3.length=v3.length))&&decide ((v3.length+2+1)*(24+1)≤Ju))) then (.to (.h0 (v3++[(R3.mk (rd l0 v17.toNat).a 0 1),(R3.mk (rd l0 v17.toNat).b 0 (-1))]) (IntKind.wrap .i64 (v17+1)))) else .stuck) else .stuck) else (.to (.h1 v3 0)))
 | .h1 v3 v17=>(bif (decide (v17<(l1.length:Int))) then (bif ((decide (0≤v17∧v17<(l1.length:Int)))&&true) then (bif (Nat.beq 3 3&&((decide (0+v3.length=v3.length))&&decide ((v3.length+2+1)*(24+1)≤Ju))) then (.to (.h1 (v3++[(R3.mk (rd l1 v17.toNat).a 1 1),(R3.mk (rd l1 v17.toNat).b 1 (-1))]) (IntKind.wrap .i64 (v17+1)))) else .stuck) else .stuck) else (bif (y1q (cvT v3)) then (bif (decide (v3.length<4611686018427387904)) then (bif (decide (v3.length=v3.length)) then (.to (.h2 (z0v (cvT v3)) (v3.length:Int) 0 0 0 0 false ([]:List R2))) else .stuck) else .stuck) else .stuck))
 | .h2 v5 v6 v7 aA aI aP aG aC=>(bif (decide (v7<v6)) then (bif ((decide (0≤v7∧v7<(v5.length:Int)))&&true) then (bif (decide ((0+v7.toNat)<v5.length)) then (bif (!aG) then (bif (decide ((rd v5 (0+v7.toNat)).b =Int.ofNat 0)) then (.to (.h2 v5 v6 (IntKind.wrap .i64 (v7+1)) (IntKind.wrap .i64 (aA+(rd v5 (0+v7.toNat)).c)) aI (rd v5 (0+v7.toNat)).a ((cV q) (decide ((IntKind.wrap .i64 (aA+(rd v5 (0+v7.toNat)).c))>0)) (decide (aI>0))) aC)) else (bif (decide ((rd v5 (0+v7.toNat)).b =Int.ofNat 1)) then (.to (.h2 v5 v6 (IntKind.wrap .i64 (v7+1)) aA (IntKind.wrap .i64 (aI+(rd v5 (0+v7.toNat)).c)) (rd v5 (0+v7.toNat)).a ((cV q) (decide (aA>0)) (decide ((IntKind.wrap .i64 (aI+(rd v5 (0+v7.toNat)).c))>0))) aC)) else .stuck)) else (bif (aP == (rd v5 (0+v7.toNat)).a) then (bif (decide ((rd v5 (0+v7.toNat)).b =Int.ofNat 0)) then (.to (.h2 v5 v6 (IntKind.wrap .i64 (v7+1)) (IntKind.wrap .i64 (aA+(rd v5 (0+v7.toNat)).c)) aI (rd v5 (0+v7.toNat)).a ((cV q) (decide ((IntKind.wrap .i64 (aA+(rd v5 (0+v7.toNat)).c))>0)) (decide (aI>0))) aC)) else (bif (decide ((rd v5 (0+v7.toNat)).b =Int.ofNat 1)) then (.to (.h2 v5 v6 (IntKind.wrap .i64 (v7+1)) aA (IntKind.wrap .i64 (aI+(rd v5 (0+v7.toNat)).c)) (rd v5 (0+v7.toNat)).a ((cV q) (decide (aA>0)) (decide ((IntKind.wrap .i64 (aI+(rd v5 (0+v7.toNat)).c))>0))) aC)) else .stuck)) else (bif (decide ((aC.length:Int)>0)) then (bif ((decide (0≤(IntKind.wrap .i64 ((aC.length:Int) - 1))∧(IntKind.wrap .i64 ((aC.length:Int) - 1))<(aC.length:Int)))&&true) then (bif (decide ((0+(Int.toNat (IntKind.wrap .i64 ((aC.length:Int) - 1))))<aC.length)) then (bif ((rd aC (0+(Int.toNat (IntKind.wrap .i64 ((aC.length:Int) - 1))))).b == aP) then (bif (decide ((rd v5 (0+v7.toNat)).b =Int.ofNat 0)) then (.to (.h2 v5 v6 (IntKind.wrap .i64 (v7+1)) (IntKind.wrap .i64 (aA+(rd v5 (0+v7.toNat)).c)) aI (rd v5 (0+v7.toNat)).a ((cV q) (decide ((IntKind.wrap .i64 (aA+(rd v5 (0+v7.toNat)).c))>0)) (decide (aI>0))) (aC.set (0+(Int.toNat (IntKind.wrap .i64 ((aC.length:Int) - 1)))) (R2.mk (rd aC (0+(Int.toNat (IntKind.wrap .i64 ((aC.length:Int) - 1))))).a (rd v5 (0+v7.toNat)).a)))) else (bif (decide ((rd v5 (0+v7.toNat)).b =Int.ofNat 1)) then (.to (.h2 v5 v6 (IntKind.wrap .i64 (v7+1)) aA (IntKind.wrap .i64 (aI+(rd v5 (0+v7.toNat)).c)) (rd v5 (0+v7.toNat)).a ((cV q) (decide (aA>0)) (decide ((IntKind.wrap .i64 (aI+(rd v5 (0+v7.toNat)).c))>0))) (aC.set (0+(Int.toNat (IntKind.wrap .i64 ((aC.length:Int) - 1)))) (R2.mk (rd aC (0+(Int.toNat (IntKind.wrap .i64 ((aC.length:Int) - 1))))).a (rd v5 (0+v7.toNat)).a)))) else .stuck)) else (bif (Nat.beq 2 2&&((decide (0+aC.length=aC.length))&&decide ((aC.length+1+1)*(16+1)≤Ju))) then (bif (decide ((rd v5 (0+v7.toNat)).b =Int.ofNat 0)) then (.to (.h2 v5 v6 (IntKind.wrap .i64 (v7+1)) (IntKind.wrap .i64 (aA+(rd v5 (0+v7.toNat)).c)) aI (rd v5 (0+v7.toNat)).a ((cV q) (decide ((IntKind.wrap .i64 (aA+(rd v5 (0+v7.toNat)).c))>0)) (decide (aI>0))) (aC++[(R2.mk aP (rd v5 (0+v7.toNat)).a)]))) else (bif (decide ((rd v5 (0+v7.toNat)).b =Int.ofNat 1)) then (.to (.h2 v5 v6 (IntKind.wrap .i64 (v7+1)) aA (IntKind.wrap .i64 (aI+(rd v5 (0+v7.toNat)).c)) (rd v5 (0+v7.toNat)).a ((cV q) (decide (aA>0)) (decide ((IntKind.wrap .i64 (aI+(rd v5 (0+v7.toNat)).c))>0))) (aC++[(R2.mk aP (rd v5 (0+v7.toNat)).a)]))) else .stuck)) else .stuck)) else .stuck) else .stuck) else (bif (Nat.beq 2 2&&((decide (0+aC.length=aC.length))&&decide ((aC.length+1+1)*(16+1)≤Ju))) then (bif (decide ((rd v5 (0+v7.toNat)).b =Int.ofNat 0)) then (.to (.h2 v5 v6 (IntKind.wrap .i64 (v7+1)) (IntKind.wrap .i64 (aA+(rd v5 (0+v7.toNat)).c)) aI (rd v5 (0+v7.toNat)).a ((cV q) (decide ((IntKind.wrap .i64 (aA+(rd v5 (0+v7.toNat)).c))>0)) (decide (aI>0))) (aC++[(R2.mk aP (rd v5 (0+v7.toNat)).a)]))) else (bif (decide ((rd v5 (0+v7.toNat)).b =Int.ofNat 1)) then (.to (.h2 v5 v6 (IntKind.wrap .i64 (v7+1)) aA (IntKind.wrap .i64 (aI+(rd v5 (0+v7.toNat)).c)) (rd v5 (0+v7.toNat)).a ((cV q) (decide (aA>0)) (decide ((IntKind.wrap .i64 (aI+(rd v5 (0+v7.toNat)).c))>0))) (aC++[(R2.mk aP (rd v5 (0+v7.toNat)).a)]))) else .stuck)) else .stuck)))) else .stuck) else .stuck) else (bif (decide ((aC.length:Int)>400)) then (.ret [.nils,(.int .i64 4)]) else (.ret [(.dat aC.length (Zz aC)),(.int .i64 0)])))
def y2e (q:Op) (l0:List R2) (l1:List R2):Xb spjS:=(bif (z4b (cvT l0)) then (bif ((y8d (cvT l0)) != 0) then (.ret [.nils,(.int .i64 (y8d (cvT l0)))]) else (bif (z4b (cvT l1)) then (bif ((y8d (cvT l1)) != 0) then (.ret [.nils,(.int .i64 (y8d (cvT l1)))]) else (.to (.h0 ([]:List R3) 0))) else .stuck)) else .stuck)
theorem w4x (q:Op) (l0:List R2) (l1:List R2): ∀s,Xv prog (Zy prog (nSp q)) (spjC q l0 l1) (spjC q l0 l1 s) (Wa q l0 l1 s):=by cases q <;> refine (?f: ∀q:Op,∀s,Xv prog (Zy prog (nSp q)) (spjC q l0 l1) (spjC q l0 l1 s) (Wa q l0 l1 s)) _ <;> exact fun q=>fun
 | .h0 v3 v17=>(lb (fun k0=>(lo fun o0=>(lo fun o1=>(sl z2i 36 [] ⟨[0,1,2,3,4,5,6,10],[],spjN0,spjM0⟩ ⟨[(3,.len (y7q v3 l0 v17).length)],(kpB 7 [.rowed 3 (y7q v3 l0 v17).length (Zz (y7q v3 l0 v17))]),[]⟩ [true] (pp (xL (v3.length+2) (y7q v3 l0 v17).length) (pp (xL (v3.length+2) (y7q v3 l0 v17).length) (pp (xS (v3.length+2) (Zi (Zz v3) 0 v3.length 3 [(ii (rd l0 (tn v17)).a),(ii 0),(ii 1),(ii (rd l0 (tn v17)).b),(ii 0),(ii (-1))]) (Zz (y7q v3 l0 v17))) (pp (pp (xF (Zi (Zz v3) 0 v3.length 3 [(ii (rd l0 (tn v17)).a),(ii 0),(ii 1),(ii (rd l0 (tn v17)).b),(ii 0),(ii (-1))])) nn) (ww o1 (ww o0 (tt k0 nn))))))))))) (fun k0=>(sl z2i 38 [] ⟨(List.range 8),[],spjN1,spjM1⟩ ⟨[],[],[]⟩ (bl 2 2) (pp (fl v3 nn) (tt k0 nn)))))
 | .h1 v3 v17=>(lb (fun k0=>(lo fun o0=>(lo fun o1=>(sl z2i 36 [] ⟨[0,1,2,3,4,5,6,10],[],spjN1,spjM1⟩ ⟨[(3,.len (y7p v3 l1 v17).length)],(kpB 7 [.rowed 3 (y7p v3 l1 v17).length (Zz (y7p v3 l1 v17))]),[]⟩ [true] (pp (xL (v3.length+2) (y7p v3 l1 v17).length) (pp (xL (v3.length+2) (y7p v3 l1 v17).length) (pp (xS (v3.length+2) (Zi (Zz v3) 0 v3.length 3 [(ii (rd l1 (tn v17)).a),(ii 1),(ii 1),(ii (rd l1 (tn v17)).b),(ii 1),(ii (-1))]) (Zz (y7p v3 l1 v17))) (pp (pp (xF (Zi (Zz v3) 0 v3.length 3 [(ii (rd l1 (tn v17)).a),(ii 1),(ii 1),(ii (rd l1 (tn v17)).b),(ii 1),(ii (-1))])) nn) (ww o1 (ww o0 (tt k0 nn))))))))))) (fun k0=>(lo fun o0=>(lo fun o1=>(lo fun o2=>(sl z2i 54 [(183,2,Zz ([]:List R2))] ⟨[9,1,2,4,5,6,3,7,10],[],y4b,y4c⟩ ⟨[(5,.len (z0v (cvT v3)).length)],(kpB 6 [.cells [.grow 8 2],.rowed 3 (z0v (cvT v3)).length (Zz (z0v (cvT v3))),.keep]),[]⟩ (bl 2 0) (pp (xL v3.length (z0v (cvT v3)).length (by first | exact z8c _ | exact Vy rfl)) (pp (xL v3.length (z0v (cvT v3)).length (by first | exact z8c _ | exact Vy rfl)) (pp (xS v3.length (Zz (z0v (cvT v3))) (Zz (z0v (cvT v3)))) (pp (fl (z0v (cvT v3)) (fl ([]:List R2) nn)) (pp (pp (xG (Nat.beq 3 3)) (pp (xG (Nat.beq 3 3)) (pp (xG (Nat.beq 0 0)) (pp (pp (xG (decide (v3.length=v3.length))) (pp (xr v3) (xG (decide (v3.length<4611686018427387904))))) (xG (y1q (cvT v3))))))) (tt k0 nn))))))))))))
 | .h2 v5 v6 v7 aA aI aP aG aC=>(lb (fun k0=>(lo fun aF=>(lo fun aW=>(lb (fun k1=>(lb (fun k2=>(sl z2i 62 [] ⟨(List.range 9),[],y4b,y4c⟩ ⟨[],[],[]⟩ (trs 5 (bl 3 0)) (pp (fl v5 (fl aC nn)) (ww k2 (tt k1 (ww aW (ww aF (tt k0 nn)))))))) (fun k2=>(lb (fun k3=>(sl z2i 62 [] ⟨(List.range 9),[],y4b,y4c⟩ ⟨[],[],[]⟩ (trs 6 (bl 4 2)) (pp (fl v5 (fl aC nn)) (ww k3 (tt k1 (ww aW (ww aF (tt k0 nn)))))))) (fun k3=>trivial))))) (fun k1=>(lb (fun k2=>(lb (fun k3=>(sl z2i 62 [] ⟨(List.range 9),[],y4b,y4c⟩ ⟨[],[],[]⟩ (bl 8 17) (pp (fl v5 (fl aC nn)) (ww k3 (tt k2 (tt k1 (ww aW (ww aF (tt k0 nn))))))))) (fun k3=>(lb (fun k4=>(sl z2i 62 [] ⟨(List.range 9),[],y4b,y4c⟩ ⟨[],[],[]⟩ (bl 10 177) (pp (fl v5 (fl aC nn)) (ww k4 (tt k2 (tt k1 (ww aW (ww aF (tt k0 nn))))))))) (fun k4=>trivial))))) (fun k2=>(lb (fun k3=>(lo fun cC=>(lo fun cT=>(lb (fun k4=>(lb (fun k5=>(sl z2i 81 [] ⟨(List.range 9),[],y4b,y4c⟩ ⟨[],(kpB 6 [.cells [.len (aC.set (0+(tn (wr ((aC.length:Int) - 1)))) (R2.mk (rd aC (0+(tn (wr ((aC.length:Int) - 1))))).a (rd v5 (0+(tn v7))).a)).length],.keep,.rowed 2 (aC.set (0+(tn (wr ((aC.length:Int) - 1)))) (R2.mk (rd aC (0+(tn (wr ((aC.length:Int) - 1))))).a (rd v5 (0+(tn v7))).a)).length (Zz (aC.set (0+(tn (wr ((aC.length:Int) - 1)))) (R2.mk (rd aC (0+(tn (wr ((aC.length:Int) - 1))))).a (rd v5 (0+(tn v7))).a)))]),[]⟩ (bl 17 16353) (pp (xL aC.length (aC.set (0+(tn (wr ((aC.length:Int) - 1)))) (R2.mk (rd aC (0+(tn (wr ((aC.length:Int) - 1))))).a (rd v5 (0+(tn v7))).a)).length) (pp (xL aC.length (aC.set (0+(tn (wr ((aC.length:Int) - 1)))) (R2.mk (rd aC (0+(tn (wr ((aC.length:Int) - 1))))).a (rd v5 (0+(tn v7))).a)).length) (pp (xS aC.length (Xi (Zz aC) (0+(tn (wr ((aC.length:Int) - 1)))) 1 [(ii (rd v5 (0+(tn v7))).a)]) (Zz (aC.set (0+(tn (wr ((aC.length:Int) - 1)))) (R2.mk (rd aC (0+(tn (wr ((aC.length:Int) - 1))))).a (rd v5 (0+(tn v7))).a)))) (pp (fl v5 (pp (xF (Xi (Zz aC) (0+(tn (wr ((aC.length:Int) - 1)))) 1 [(ii (rd v5 (0+(tn v7))).a)])) nn)) (ww k5 (ww cT (ww cC (tt k4 (ww cT (ww cC (tt k3 (tt k2 (tt k1 (ww aW (ww aF (tt k0 nn)))))))))))))))))) (fun k5=>(lb (fun k6=>(sl z2i 81 [] ⟨(List.range 9),[],y4b,y4c⟩ ⟨[],(kpB 6 [.cells [.len (aC.set (0+(tn (wr ((aC.length:Int) - 1)))) (R2.mk (rd aC (0+(tn (wr ((aC.length:Int) - 1))))).a (rd v5 (0+(tn v7))).a)).length],.keep,.rowed 2 (aC.set (0+(tn (wr ((aC.length:Int) - 1)))) (R2.mk (rd aC (0+(tn (wr ((aC.length:Int) - 1))))).a (rd v5 (0+(tn v7))).a)).length (Zz (aC.set (0+(tn (wr ((aC.length:Int) - 1)))) (R2.mk (rd aC (0+(tn (wr ((aC.length:Int) - 1))))).a (rd v5 (0+(tn v7))).a)))]),[]⟩ (bl 19 98273) (pp (xL aC.length (aC.set (0+(tn (wr ((aC.length:Int) - 1)))) (R2.mk (rd aC (0+(tn (wr ((aC.length:Int) - 1))))).a (rd v5 (0+(tn v7))).a)).length) (pp (xL aC.length (aC.set (0+(tn (wr ((aC.length:Int) - 1)))) (R2.mk (rd aC (0+(tn (wr ((aC.length:Int) - 1))))).a (rd v5 (0+(tn v7))).a)).length) (pp (xS aC.length (Xi (Zz aC) (0+(tn (wr ((aC.length:Int) - 1)))) 1 [(ii (rd v5 (0+(tn v7))).a)]) (Zz (aC.set (0+(tn (wr ((aC.length:Int) - 1)))) (R2.mk (rd aC (0+(tn (wr ((aC.length:Int) - 1))))).a (rd v5 (0+(tn v7))).a)))) (pp (fl v5 (pp (xF (Xi (Zz aC) (0+(tn (wr ((aC.length:Int) - 1)))) 1 [(ii (rd v5 (0+(tn v7))).a)])) nn)) (ww k6 (ww cT (ww cC (tt k4 (ww cT (ww cC (tt k3 (tt k2 (tt k1 (ww aW (ww aF (tt k0 nn)))))))))))))))))) (fun k6=>trivial))))) (fun k4=>(lo fun cS=>(lb (fun k5=>(sl z2i 81 [] ⟨[0,1,2,3,4,5,6,7,12],[],y4b,y4c⟩ ⟨[],(kpB 6 [.cells [.len (Uu aC aP v5 v7).length],.keep,.rowed 2 (Uu aC aP v5 v7).length (Zz (Uu aC aP v5 v7))]),[]⟩ (bl 17 8161) (pp (xL (aC.length+1) (Uu aC aP v5 v7).length) (pp (xL (aC.length+1) (Uu aC aP v5 v7).length) (pp (xS (aC.length+1) (y0v aC aP v5 v7) (Zz (Uu aC aP v5 v7))) (pp (fl v5 (pp (xF (y0v aC aP v5 v7)) nn)) (ww k5 (ww cS (tt k4 (ww cT (ww cC (tt k3 (tt k2 (tt k1 (ww aW (ww aF (tt k0 nn))))))))))))))))) (fun k5=>(lb (fun k6=>(sl z2i 81 [] ⟨[0,1,2,3,4,5,6,7,12],[],y4b,y4c⟩ ⟨[],(kpB 6 [.cells [.len (Uu aC aP v5 v7).length],.keep,.rowed 2 (Uu aC aP v5 v7).length (Zz (Uu aC aP v5 v7))]),[]⟩ (bl 19 90081) (pp (xL (aC.length+1) (Uu aC aP v5 v7).length) (pp (xL (aC.length+1) (Uu aC aP v5 v7).length) (pp (xS (aC.length+1) (y0v aC aP v5 v7) (Zz (Uu aC aP v5 v7))) (pp (fl v5 (pp (xF (y0v aC aP v5 v7)) nn)) (ww k6 (ww cS (tt k4 (ww cT (ww cC (tt k3 (tt k2 (tt k1 (ww aW (ww aF (tt k0 nn))))))))))))))))) (fun k6=>trivial)))))))))) (fun k3=>(lo fun cC=>(lb (fun k4=>(sl z2i 81 [] ⟨[0,1,2,3,4,5,6,7,12],[],y4b,y4c⟩ ⟨[],(kpB 6 [.cells [.len (Uu aC aP v5 v7).length],.keep,.rowed 2 (Uu aC aP v5 v7).length (Zz (Uu aC aP v5 v7))]),[]⟩ (bl 17 1) (pp (xL (aC.length+1) (Uu aC aP v5 v7).length) (pp (xL (aC.length+1) (Uu aC aP v5 v7).length) (pp (xS (aC.length+1) (y0v aC aP v5 v7) (Zz (Uu aC aP v5 v7))) (pp (fl v5 (pp (xF (y0v aC aP v5 v7)) nn)) (ww k4 (ww cC (tt k3 (tt k2 (tt k1 (ww aW (ww aF (tt k0 nn)))))))))))))) (fun k4=>(lb (fun k5=>(sl z2i 81 [] ⟨[0,1,2,3,4,5,6,7,12],[],y4b,y4c⟩ ⟨[],(kpB 6 [.cells [.len (Uu aC aP v5 v7).length],.keep,.rowed 2 (Uu aC aP v5 v7).length (Zz (Uu aC aP v5 v7))]),[]⟩ (bl 19 81921) (pp (xL (aC.length+1) (Uu aC aP v5 v7).length) (pp (xL (aC.length+1) (Uu aC aP v5 v7).length) (pp (xS (aC.length+1) (y0v aC aP v5 v7) (Zz (Uu aC aP v5 v7))) (pp (fl v5 (pp (xF (y0v aC aP v5 v7)) nn)) (ww k5 (ww cC (tt k3 (tt k2 (tt k1 (ww aW (ww aF (tt k0 nn)))))))))))))) (fun k5=>trivial)))))))))))))) (fun k0=>(lb (fun k1=>(lr 11 3 [1,1,1,1,1,1,1,0] 1 28 [(4,.nils),(5,(ii 4))] (sl z2i 37 [] ⟨[],[],[some [4,5]],[]⟩ ⟨[],[],[]⟩ (bl 2 2) (tt k1 (tt k0 nn))))) (fun k1=>(lr 11 3 [1,1,1,1,1,1,1,0] 1 28 [(4,(.dat aC.length (Zz aC))),(5,(ii 0))] (sl z2i 39 [] ⟨[],[8],[some [4,5]],[]⟩ ⟨[(4,.frz aC.length aC.length (Zz aC) (Zz aC))],[],[]⟩ (bl 2 0) (pp (xZ (z6q 2 2 0 aC.length aC.length (Zz aC)) aC.length (Zz aC)) (pp (xL aC.length aC.length) (pp (xS aC.length (Zz aC) (Zz aC)) (pp (fl aC nn) (tt k1 (tt k0 nn))))))))))))
theorem x6r (q:Op) (l0:List R2) (l1:List R2):Xv prog (Zy prog (nSp q)) (spjC q l0 l1) (Zc prog (nSp q) [(.dat l0.length (Zz l0)),(.dat l1.length (Zz l1))] true []) (y2e q l0 l1):=by cases q <;> exact (lo fun bV=>(lb (fun k0=>(lr 11 3 [1,1,1,1,1,1,1,0] 1 28 [(4,.nils),(5,(ii (y8d (cvT l0))))] (sl z2i 40 [] ⟨[],[],[some [4,5]],[]⟩ ⟨[],[],[]⟩ [true] (tt k0 (pp (pp (xr l0) (xw bV)) nn))))) (fun k0=>(lo fun aF=>(lb (fun k1=>(lr 11 3 [1,1,1,1,1,1,1,0] 1 28 [(4,.nils),(5,(ii (y8d (cvT l1))))] (sl z2i 54 [] ⟨[],[],[some [4,5]],[]⟩ ⟨[],[],[]⟩ [false,true] (tt k1 (pp (pp (xr l1) (xw aF)) (tt k0 (pp (pp (xr l0) (xw bV)) nn))))))) (fun k1=>(sl z2i 124 [(246,3,Zz ([]:List R3))] ⟨[6,0,1,2,3,4,5,7],[],spjN0,spjM0⟩ ⟨[(3,.grow 7 3)],[],[]⟩ [false,false,true] (pp (fl ([]:List R3) nn) (tt k1 (pp (pp (xr l1) (xw aF)) (tt k0 (pp (pp (xr l0) (xw bV)) nn))))))))))))
theorem v6j (q:Op) (l0:List R2) (l1:List R2) (n:Nat) (vs:List AVal) (h:Yv (Wa q l0 l1) n (y2e q l0 l1)=.ret vs):Jt prog (Zy prog (nSp q)) (Zc prog (nSp q) [(.dat l0.length (Zz l0)),(.dat l1.length (Zz l1))] true []) vs:=by have:=Ze (w4x q l0 l1) n _ (x6r q l0 l1);rwa [h] at this
end Go.Am
namespace Go.Am
open Go.Proofs.Tryz
open Go.Proofs
open Go.Sort Go.Shelf Go.RowKit Go.Lib
def spE (k:Nat) (a b:List R2):Int:=bif y8d a != 0 then y8d a else bif y8d b != 0 then y8d b else y9x (spJ k a b).length
theorem y1g (i:Int) (l:List R2):(Wm i l).length =2*l.length:=by
 induction l with
 | nil=>rfl
 | cons r l ih=>show (_::_::Wm i l).length =_;simp only [List.length_cons,ih];omega
theorem y9u (j:Int) (l:List R2) (i:Nat) (h:i<l.length):Wm j (l.drop i)=Wm j [rd l i]++Wm j (l.drop (i+1)):=by rw [Ym h];rfl
theorem z8l {j:Int} {l:List R2} {e:R3} (h:e∈Wm j l):e.b=j∧(e.c=1∨e.c= -1):=by
 obtain ⟨s,_,h⟩:=List.mem_flatMap.1 h;simp only [List.mem_cons,List.not_mem_nil,or_false] at h;rcases h with rfl | rfl
 ·exact ⟨rfl,.inl rfl⟩
 ·exact ⟨rfl,.inr rfl⟩
theorem w1p (f:Bool→Bool→Bool) (e:R3) (r:List R3) (o p last:Int) (inn:Bool) (out:List R2):sw2 f (e::r) o p last inn out=sw2 f r (bif e.b == 0 then o+e.c else o) (bif e.b == 0 then p else p+e.c) e.a (f (decide ((bif e.b == 0 then o+e.c else o)>0)) (decide ((bif e.b == 0 then p else p+e.c)>0))) (Vc out last inn e.a):=rfl
section
variable (q:Op) (a b:List R2)
theorem u1u (L:List R3) (hL:L.length≤2000) (hE: ∀i,i<L.length→((rd L i).b =0∨(rd L i).b =1)∧((rd L i).c =1∨(rd L i).c = -1)): ∀(k i:Nat) (o p last:Int) (inn:Bool) (out:List R2),i+k=L.length→ -(i:Int)≤o→o≤i→ -(i:Int)≤p→p≤i→out.length≤i→
  ∃n,Yv (Wa q a b) n (.to (.h2 L (L.length:Int) (i:Int) o p last inn out))=.ret (Qv (sw2 (opB q.k) (L.drop i) o p last inn out))
 | 0,i,o,p,last,inn,out,h,ho1,ho2,hp1,hp2,hout=>by
  refine ⟨1,?_⟩;rw [Zv,List.drop_eq_nil_of_le (by omega)];unfold Qv;show _=Xb.ret (bif decide ((out.length:Int)>400) then _ else _);rcases Ye (decide ((out.length:Int)>400)) with g | g <;>
  simp (disch:=omega) only [Wa,Yx,g,cond_true,cond_false,Zm];rfl
 | k + 1,i,o,p,last,inn,out,h,ho1,ho2,hp1,hp2,hout=>by
  obtain ⟨hb,hc⟩:=hE i (by omega);have hcl:=z3g out last inn (rd L i).a;have hcf: ∀x y,cV q x y=opB q.k x y:=fun _ _=>rfl;have hlt:decide ((i:Int)<(L.length:Int))=true:=decide_eq_true (by omega);have hw:IntKind.wrap .i64 (o+(rd L i).c)=o+(rd L i).c :=Zq (by rcases hc with hc | hc <;> omega);have hw':IntKind.wrap .i64 (p+(rd L i).c)=p+(rd L i).c :=Zq (by rcases hc with hc | hc <;> omega);have key: ∀(o' p':Int) (out':List R2),-((i+1:Nat):Int)≤o'→o'≤((i+1:Nat):Int)→ -((i+1:Nat):Int)≤p'→p'≤((i+1:Nat):Int)→out'=Vc out last inn (rd L i).a →
    Wa q a b (.h2 L (L.length:Int) (i:Int) o p last inn out)=.to (.h2 L (L.length:Int) ((i+1:Nat):Int) o' p' (rd L i).a (opB q.k (decide (o'>0)) (decide (p'>0))) out')→
    sw2 (opB q.k) (L.drop i) o p last inn out=sw2 (opB q.k) (L.drop (i+1)) o' p' (rd L i).a (opB q.k (decide (o'>0)) (decide (p'>0))) out'→
    ∃n,Yv (Wa q a b) n (.to (.h2 L (L.length:Int) (i:Int) o p last inn out))=.ret (Qv (sw2 (opB q.k) (L.drop i) o p last inn out)):=fun o' p' out' b1 b2 b3 b4 eo hs hq=>by
   obtain ⟨n,hn⟩:=u1u L hL hE k (i+1) o' p' (rd L i).a (opB q.k (decide (o'>0)) (decide (p'>0))) out' (by omega) b1 b2 b3 b4 (by rw [eo];omega);refine ⟨n+1,?_⟩;rw [Zv,hs,hq];exact hn
  rcases hb with hb | hb
  ·have hz:decide ((rd L i).b =Int.ofNat 0)=true:=decide_eq_true hb;have hb0:((rd L i).b == 0)=true:=by rw [hb];rfl
   refine key (o+(rd L i).c) p (Vc out last inn (rd L i).a) (by rcases hc with hc | hc <;> omega) (by rcases hc with hc | hc <;> omega) (by omega) (by omega) rfl ?_ ?_
   ·unfold Vc;cases inn with
    | false=>simp (disch:=omega) only [Wa,hlt,hz,hw,hw',hcf,Zt,Yz,Yk,Zq,Zx,Zj,Nat.zero_add,Bool.and_true,cond_true,cond_false,Bool.not_false]
    | true=>
     rcases Ye (last == (rd L i).a) with g | g
     ·simp (disch:=omega) only [Wa,hlt,hz,hw,hw',hcf,Zt,Yz,Yk,Zq,Zx,Zj,Nat.zero_add,Bool.and_true,cond_true,cond_false,Bool.not_true,g]
     ·by_cases h0:0<out.length
      ·rw [decide_eq_true h0,Bool.true_and];rcases Ye ((rd out (out.length - 1)).b == last) with q2 | q2
       ·simp (disch:=omega) only [Wa,hlt,hz,hw,hw',hcf,Zt,Yz,Yk,Zq,Zx,Zj,Nat.zero_add,Bool.and_true,cond_true,cond_false,Bool.not_true,g,q2,Yo,Zf]
       ·simp (disch:=omega) only [Wa,hlt,hz,hw,hw',hcf,Zt,Yz,Yk,Zq,Zx,Zj,Nat.zero_add,Bool.and_true,cond_true,cond_false,Bool.not_true,Bool.true_and,g,q2,Yo,Zf,Yp,Zh,Yg,decide_true]
      ·rw [decide_eq_false h0,Bool.false_and];simp (disch:=omega) only [Wa,hlt,hz,hw,hw',hcf,Zt,Yz,Yk,Zq,Zx,Zj,Nat.zero_add,Bool.and_true,cond_true,cond_false,Bool.not_true,Bool.true_and,g,Xp,Yp,Zh,Yg,decide_true]
   ·rw [Ym (show i<L.length by omega),w1p,hb0];rfl
  ·have hz0:decide ((rd L i).b =Int.ofNat 0)=false:=decide_eq_false (by rw [hb];decide);have hz:decide ((rd L i).b =Int.ofNat 1)=true:=decide_eq_true hb;have hb0:((rd L i).b == 0)=false:=by rw [hb];rfl
   refine key o (p+(rd L i).c) (Vc out last inn (rd L i).a) (by omega) (by omega) (by rcases hc with hc | hc <;> omega) (by rcases hc with hc | hc <;> omega) rfl ?_ ?_
   ·unfold Vc;cases inn with
    | false=>simp (disch:=omega) only [Wa,hlt,hz0,hz,hw,hw',hcf,Zt,Yz,Yk,Zq,Zx,Zj,Nat.zero_add,Bool.and_true,cond_true,cond_false,Bool.not_false]
    | true=>
     rcases Ye (last == (rd L i).a) with g | g
     ·simp (disch:=omega) only [Wa,hlt,hz0,hz,hw,hw',hcf,Zt,Yz,Yk,Zq,Zx,Zj,Nat.zero_add,Bool.and_true,cond_true,cond_false,Bool.not_true,g]
     ·by_cases h0:0<out.length
      ·rw [decide_eq_true h0,Bool.true_and];rcases Ye ((rd out (out.length - 1)).b == last) with q2 | q2
       ·simp (disch:=omega) only [Wa,hlt,hz0,hz,hw,hw',hcf,Zt,Yz,Yk,Zq,Zx,Zj,Nat.zero_add,Bool.and_true,cond_true,cond_false,Bool.not_true,g,q2,Yo,Zf]
       ·simp (disch:=omega) only [Wa,hlt,hz0,hz,hw,hw',hcf,Zt,Yz,Yk,Zq,Zx,Zj,Nat.zero_add,Bool.and_true,cond_true,cond_false,Bool.not_true,Bool.true_and,g,q2,Yo,Zf,Yp,Zh,Yg,decide_true]
      ·rw [decide_eq_false h0,Bool.false_and];simp (disch:=omega) only [Wa,hlt,hz0,hz,hw,hw',hcf,Zt,Yz,Yk,Zq,Zx,Zj,Nat.zero_add,Bool.and_true,cond_true,cond_false,Bool.not_true,Bool.true_and,g,Xp,Yp,Zh,Yg,decide_true]
   ·rw [Ym (show i<L.length by omega),w1p,hb0];rfl
theorem u1v (ha:a.length≤400) (hb:b.length≤400) (va:a.all z0u=true) (vb:b.all z0u=true): ∀(k i:Nat) (E:List R3),i+k=b.length→E.length=2*a.length+2*i→E++Wm 1 (b.drop i)=Wm 0 a++Wm 1 b→ ∃n,Yv (Wa q a b) n (.to (.h1 E (i:Int)))=.ret (Qv (spJ q.k a b))
 | 0,i,E,h,hl,he=>by
  rw [List.drop_eq_nil_of_le (by omega),show Wm 1 []=[] from rfl,List.append_nil] at he;subst he;have hbnd:y1q (Wm 0 a++Wm 1 b)=true:=by have h1:=z8m 0 a va;have h2:=z8m 1 b vb;unfold y1q at*;rw [List.all_append,h1,h2];rfl
  have hsl:=y3x (Wm 0 a++Wm 1 b);obtain ⟨hp,_⟩:=Ks _ hbnd;obtain ⟨n,hn⟩:=u1u q a b (z0v (Wm 0 a++Wm 1 b)) (by rw [hsl];omega) (fun i hi=>by
   have hm:rd (z0v (Wm 0 a++Wm 1 b)) i∈Wm 0 a++Wm 1 b:=hp.mem_iff.1 (by rw [Xy hi];exact List.getElem_mem hi);rcases List.mem_append.1 hm with g | g
   ·exact ⟨.inl (z8l g).1,(z8l g).2⟩
   ·exact ⟨.inr (z8l g).1,(z8l g).2⟩) (z0v (Wm 0 a++Wm 1 b)).length 0 0 0 0 false [] (Nat.zero_add _) (by omega) (by omega) (by omega) (by omega) (Nat.zero_le _)
  refine ⟨n+1,?_⟩;rw [Zv];have step:Wa q a b (.h1 (Wm 0 a++Wm 1 b) (i:Int))=.to (.h2 (z0v (Wm 0 a++Wm 1 b)) (((Wm 0 a++Wm 1 b).length :Nat):Int) 0 0 0 0 false []):=by simp (disch:=omega) only [Wa,Za,Yx,hbnd,Yk,decide_true,cond_true,cond_false]
  rw [step,←hsl];exact hn
 | k+1,i,E,h,hl,he=>by rw [y9u 1 b i (by omega),←List.append_assoc] at he;obtain ⟨n,hn⟩:=u1v ha hb va vb k (i+1) (E++Wm 1 [rd b i]) (by omega) (by rw [List.length_append,y1g];simp;omega) he;refine ⟨n+1,?_⟩;rw [Zv];simp (disch:=omega) only [Wa,Yp,Zh,Yg,decide_true,Bool.true_and,Zt,Yz,Yk,Zq,Zx,Zj,Nat.zero_add,Bool.and_true,cond_true,cond_false];exact hn
theorem u1w (ha:a.length≤400) (hb:b.length≤400) (va:a.all z0u=true) (vb:b.all z0u=true): ∀(k i:Nat) (E:List R3),i+k=a.length→E.length=2*i→E++Wm 0 (a.drop i)=Wm 0 a→ ∃n,Yv (Wa q a b) n (.to (.h0 E (i:Int)))=.ret (Qv (spJ q.k a b))
 | 0,i,E,h,hl,he=>by rw [List.drop_eq_nil_of_le (by omega),show Wm 0 []=[] from rfl,List.append_nil] at he;subst he;obtain ⟨n,hn⟩:=u1v q a b ha hb va vb b.length 0 (Wm 0 a) (Nat.zero_add _) (by omega) (by rw [List.drop_zero]);refine ⟨n+1,?_⟩;rw [Zv];simp (disch:=omega) only [Wa,Yx,cond_false];exact hn
 | k+1,i,E,h,hl,he=>by rw [y9u 0 a i (by omega),←List.append_assoc] at he;obtain ⟨n,hn⟩:=u1w ha hb va vb k (i+1) (E++Wm 0 [rd a i]) (by omega) (by rw [List.length_append,y1g];simp;omega) he;refine ⟨n+1,?_⟩;rw [Zv];simp (disch:=omega) only [Wa,Yp,Zh,Yg,decide_true,Bool.true_and,Zt,Yz,Yk,Zq,Zx,Zj,Nat.zero_add,Bool.and_true,cond_true,cond_false];exact hn
theorem u6x : ∃n,Yv (Wa q a b) n (y2e q a b)=.ret (y4h (spE q.k a b) (spJ q.k a b)):=by
 unfold y2e;have o: ∀l,z4b l=true:=fun _=>rfl;simp only [Za,o,cond_true];rcases Ye (y8d a != 0) with q1 | q1
 ·exact ⟨0,by simp only [spE,q1,cond_true,z2u _ q1];rfl⟩
 rcases Ye (y8d b != 0) with q2 | q2
 ·exact ⟨0,by simp only [spE,q1,q2,cond_true,cond_false,z2u _ q2];rfl⟩
 obtain ⟨a1,a2,_⟩:=(x0p a).1 (by simpa using q1);obtain ⟨b1,b2,_⟩:=(x0p b).1 (by simpa using q2);obtain ⟨n,hn⟩:=u1w q a b a1 b1 a2 b2 a.length 0 [] (Nat.zero_add _) rfl (by rw [List.drop_zero,List.nil_append]);refine ⟨n,?_⟩;simp only [spE,q1,q2,cond_false,←z8s];exact hn
end
def z3x (q:Op) (a b:List R2):List R2:=x2b (spE q.k a b) (spJ q.k a b)
def w4y (q:Op) (a b:List R2):Int:=spE q.k a b
def x0l (q:Op) (a b:List R2):Bool:=true
def fSp (q:Op):List AVal→Option (AVal×Bool)
 | [a1,a2]=>match asL R2 a1,asL R2 a2 with
  | some (L1,g1,n1),some (L2,g2,n2)=>some (.tup [.dat (z3x q L1 L2).length (Zz (z3x q L1 L2)),.int .i64 (w4y q L1 L2)],isT R2 n1 g1&&(isT R2 n2 g2&&x0l q L1 L2))
  | _,_=>none
 | _=>none
theorem v4a (q:Op) {S:Specs} (hS:Zu prog S):Zu prog (S.with (nSp q) (fSp q)):=by
 refine v3z hS (by cases q <;> kernel_rfl) fun args v h=> ?_;unfold fSp at h;split at h
 ·rename_i a1 a2;split at h
  ·rename_i L1 g1 n1 L2 g2 n2 e1 e2;simp only [Option.some.injEq,Prod.mk.injEq,Bool.and_eq_true] at h;obtain ⟨rfl,ho1,ho2,_⟩:=h;obtain ⟨N,hN⟩:=u6x q L1 L2;exact ⟨_,_,(.cons (asL_le e1 ho1) (.cons (asL_le e2 ho2) .nil)),z5d _ _,v6j q L1 L2 N _ hN,3,z9j _ _⟩
  ·cases h
 ·cases h
def Ub :Specs:=((Ua.with (nSp .u) (fSp .u)).with (nSp .e) (fSp .e)).with (nSp .d) (fSp .d)
theorem y6n :Zu prog Ub:=v4a .d (v4a .e (v4a .u z2i))
end Go.Am
namespace Go.Am
open Go.Proofs.Tryz
open Go.Proofs
inductive rgcS where
 | h0 (v8:Int)
def rgcC (l0:List R4):rgcS→Cfg
 | .h0 v8=>⟨⟨19,0,true⟩,none,(Zd prog 203 [1,0,1,0,0] 0),none,(Zy prog 5),⟨Yd [(0,(.dat l0.length (Zz l0))),(1,(.fn 199 [])),(7,(ii (l0.length:Int))),(8,(ii v8))],Uw [] 0,0,[],true⟩,[⟨⟨9,0,true⟩,(Jk prog 198 [1,0] 2),(Zd prog 198 [1,0] 1),none,(Zy prog 5),Yd [(5,(.dat l0.length (Zz l0))),(6,(.fn 199 []))]⟩,⟨⟨23,0,true⟩,(Jk prog 189 [1,1,0,0] 1),(Zd prog 189 [1,1,0,0] 1),none,(Zy prog 3),Yd [(0,(.dat l0.length (Zz l0))),(8,(.dat l0.length (Zz l0)))]⟩],.leaf⟩
def rgcN0 :List (Option (List Nat)):=[some [0,1,7,8],some [5,6],some [0,8]]
def rgcM0 :List (Option (List Nat)):=[]
def z2t (l0:List R4):rgcS→Xb rgcS
 | .h0 v8=>(bif (decide (v8<(l0.length:Int))) then (bif ((decide (0≤v8∧v8<(l0.length:Int)))&&true) then (bif (!(u6k (rd l0 v8.toNat).a (rd l0 v8.toNat).b (rd l0 v8.toNat).c (rd l0 v8.toNat).d)) then (bif (decide (v8≥0)) then (.ret [(.int .i64 8)]) else (bif (Qy (cvT l0)) then (bif ((z1b (cvT l0)) != 0) then (.ret [(.int .i64 8)]) else (bif (Wb (cvT (Wp (cvT l0))) (cvT l0)) then (bif (!(Jv (cvT (Wp (cvT l0))) (cvT l0))) then (.ret [(.int .i64 8)]) else (.ret [(.int .i64 0)])) else .stuck)) else .stuck)) else (.to (.h0 (IntKind.wrap .i64 (v8+1))))) else .stuck) else (bif (Qy (cvT l0)) then (bif ((z1b (cvT l0)) != 0) then (.ret [(.int .i64 8)]) else (bif (Wb (cvT (Wp (cvT l0))) (cvT l0)) then (bif (!(Jv (cvT (Wp (cvT l0))) (cvT l0))) then (.ret [(.int .i64 8)]) else (.ret [(.int .i64 0)])) else .stuck)) else .stuck))
def z7o (l0:List R4):Xb rgcS:=(bif (decide ((l0.length:Int)>400)) then (.ret [(.int .i64 4)]) else (.to (.h0 0)))
theorem w5x (l0:List R4): ∀s,Xv prog (Zy prog 189) (rgcC l0) (rgcC l0 s) (z2t l0 s)
 | .h0 v8=>(lb (fun k0=>(lo fun aF=>(lb (fun k1=>(lb (fun k2=>(lr 23 189 [1,1,0,1,0,0] 1 3 [(2,(ii 8))] (sl y6n 53 [] ⟨[],[],[some [2]],[]⟩ ⟨[],[],[]⟩ (trs 3 []) (tt k2 (tt k1 (ww aF (tt k0 nn))))))) (fun k2=>(lo fun cK=>(lb (fun k3=>(lr 23 189 [1,1,1,0,1,1,0,0] 1 3 [(2,(ii 8))] (sl y6n 77 [] ⟨[],[],[some [2]],[]⟩ ⟨[],[],[]⟩ (bl 8 251) (tt k3 (pp (pp (xr l0) (xw cK)) (tt k2 (tt k1 (ww aF (tt k0 nn))))))))) (fun k3=>(lo fun cC=>(lb (fun k4=>(lr 23 189 [1,1,1,0,1,1,0,0] 1 3 [(2,(ii 8))] (sl y6n 77 [] ⟨[],[],[some [2]],[]⟩ ⟨[],[],[]⟩ (bl 8 131) (tt k4 (pp (pp (xI R4 (Wp (cvT l0)).length (Zz (Wp (cvT l0)))) (pp (xr l0) (xw cC))) (tt k3 (pp (pp (xr l0) (xw cK)) (tt k2 (tt k1 (ww aF (tt k0 nn))))))))))) (fun k4=>(lr 23 3 [1,1,1,1,1,1,1,0] 1 3 [(2,(ii 0))] (sl y6n 78 [] ⟨[],[],[some [2]],[]⟩ ⟨[],[],[]⟩ (bl 8 3) (tt k4 (pp (pp (xI R4 (Wp (cvT l0)).length (Zz (Wp (cvT l0)))) (pp (xr l0) (xw cC))) (tt k3 (pp (pp (xr l0) (xw cK)) (tt k2 (tt k1 (ww aF (tt k0 nn))))))))))))))))))) (fun k1=>(sl y6n 44 [] ⟨[],[],rgcN0,rgcM0⟩ ⟨[],[],[]⟩ (bl 2 1) (tt k1 (ww aF (tt k0 nn)))))))) (fun k0=>(lo fun aF=>(lb (fun k1=>(lr 23 189 [1,1,1,0,1,1,0,0] 1 3 [(2,(ii 8))] (sl y6n 46 [] ⟨[],[],[some [2]],[]⟩ ⟨[],[],[]⟩ (bl 7 124) (tt k1 (pp (pp (xr l0) (xw aF)) (tt k0 nn)))))) (fun k1=>(lo fun cG=>(lb (fun k2=>(lr 23 189 [1,1,1,0,1,1,0,0] 1 3 [(2,(ii 8))] (sl y6n 46 [] ⟨[],[],[some [2]],[]⟩ ⟨[],[],[]⟩ (bl 7 64) (tt k2 (pp (pp (xI R4 (Wp (cvT l0)).length (Zz (Wp (cvT l0)))) (pp (xr l0) (xw cG))) (tt k1 (pp (pp (xr l0) (xw aF)) (tt k0 nn)))))))) (fun k2=>(lr 23 3 [1,1,1,1,1,1,1,0] 1 3 [(2,(ii 0))] (sl y6n 47 [] ⟨[],[],[some [2]],[]⟩ ⟨[],[],[]⟩ (bl 7 0) (tt k2 (pp (pp (xI R4 (Wp (cvT l0)).length (Zz (Wp (cvT l0)))) (pp (xr l0) (xw cG))) (tt k1 (pp (pp (xr l0) (xw aF)) (tt k0 nn)))))))))))))))
theorem x7u (l0:List R4):Xv prog (Zy prog 189) (rgcC l0) (Zc prog 189 [(.dat l0.length (Zz l0))] true []) (z7o l0):=(lb (fun k0=>(lr 23 189 [1,0,1,0,0] 1 3 [(2,(ii 4))] (sl y6n 16 [] ⟨[],[],[some [2]],[]⟩ ⟨[],[],[]⟩ [true] (tt k0 nn)))) (fun k0=>(sl y6n 40 [] ⟨[],[],rgcN0,rgcM0⟩ ⟨[],[],[]⟩ [false] (tt k0 nn))))
theorem v7x (l0:List R4) (n:Nat) (vs:List AVal) (h:Yv (z2t l0) n (z7o l0)=.ret vs):Jt prog (Zy prog 189) (Zc prog 189 [(.dat l0.length (Zz l0))] true []) vs:=by have:=Ze (w5x l0) n _ (x7u l0);rwa [h] at this
end Go.Am
namespace Go.Am
open Go.Proofs.Tryz
open Go.Proofs
open Go.Sort Go.Shelf Go.RowKit Go.Lib
def rgcF (l:List R4):Int:=bif z1b l != 0 then 8 else bif Jv (Wp l) l then 0 else 8
def y6q (l:List R4):Int:=bif decide (400<l.length) then 4 else bif l.all Vw then rgcF l else 8
def z4f (l:List R4):Bool:=true
theorem x8w (l:List R4):(Wp l).length ≤400:=by
 unfold Wp u5k x2b y9x;by_cases h:((D4.out l).length :Int)>400
 ·rw [decide_eq_true h];exact Nat.zero_le _
 ·rw [decide_eq_false h];show (D4.out l).length ≤400;omega
theorem u3p (l:List R4) (hl:l.length≤400): ∀(k i:Nat),i+k=l.length→(∀s∈l.take i,Vw s=true)→ ∃n,Yv (z2t l) n (.to (.h0 (i:Int)))=.ret (bif l.all Vw then [.int .i64 (rgcF l)] else [.int .i64 8])
 | 0,i,h,ht=>by
  have hv:l.all Vw=true:=List.all_eq_true.2 fun s hs=>ht s (by rw [List.take_of_length_le (by omega)];exact hs);have w:Qy l=true:=decide_eq_true hl;refine ⟨1,?_⟩;rw [Zv,hv,cond_true];have w2:Wb (Wp l) l=true:=decide_eq_true (by have:=x8w l;omega);unfold rgcF;rcases Ye (z1b l != 0) with q | q
  ·simp (disch:=omega) only [z2t,Za,w,q,Yx,cond_true,cond_false,Zm]
  ·rcases Ye (Jv (Wp l) l) with q2 | q2 <;>
   simp (disch:=omega) only [z2t,Za,w,w2,q,q2,Yx,Bool.not_true,Bool.not_false,cond_true,cond_false,Zm]
 | k+1,i,h,ht=>by
  have hi:i<l.length:=by omega
  have hs:z2t l (.h0 (i:Int))=bif Vw (rd l i) then .to (.h0 ((i+1:Nat):Int)) else .ret [.int .i64 8]:=by have e:u6k (rd l i).a (rd l i).b (rd l i).c (rd l i).d =Vw (rd l i):=rfl;simp (disch:=omega) only [z2t,e,z6x,x5d,x5e,Yz,Zq,Zx,Zj,Bool.and_true,cond_true,cond_false]
  rcases Ye (Vw (rd l i)) with q | q
  ·obtain ⟨n,hn⟩:=u3p l hl k (i+1) (by omega) (fun s hs=>by
    rw [List.take_add_one] at hs;have e:l[i]? =some (rd l i):=by rw [Xy hi];exact List.getElem?_eq_getElem _
    rw [e] at hs;simp only [Option.toList_some,List.mem_append,List.mem_singleton] at hs;rcases hs with hs | rfl
    ·exact ht s hs
    ·exact q)
   refine ⟨n+1,?_⟩;rw [Zv,hs,q,cond_true];exact hn
  ·have hv:l.all Vw=false:=Bool.eq_false_iff.2 fun e=>by have:=List.all_eq_true.1 e (rd l i) (by rw [Xy hi];exact List.getElem_mem hi);rw [this] at q;cases q
   refine ⟨1,?_⟩;rw [Zv,hv,cond_false,hs,q,cond_false,Zm]
theorem v7w (l:List R4): ∃n,Yv (z2t l) n (z7o l)=.ret (bif decide (400<l.length) then [.int .i64 4] else bif l.all Vw then [.int .i64 (rgcF l)] else [.int .i64 8]):=by
 unfold z7o;by_cases h:400<l.length
 ·refine ⟨0,?_⟩;rw [decide_eq_true h,Yo (show (l.length:Int)>400 by omega)];rfl
 ·obtain ⟨n,hn⟩:=u3p l (by omega) l.length 0 (Nat.zero_add _) (fun s hs=>by simp at hs);refine ⟨n,?_⟩;rw [decide_eq_false h,Xp (show¬(l.length:Int)>400 by omega),cond_false,cond_false];exact hn
theorem u8s (l:List R4) (h:z4f l=true): ∃n,Yv (z2t l) n (z7o l)=.ret [.int .i64 (y6q l)]:=by obtain ⟨n,hn⟩:=v7w l;refine ⟨n,hn.trans ?_⟩;unfold y6q;cases decide (400<l.length) <;> cases l.all Vw <;> rfl
def fRgc :List AVal→Option (AVal×Bool)
 | [a0]=>match asL R4 a0 with
  | some (L0,g0,n0)=>some (.int .i64 (y6q L0),isT R4 n0 g0&&(z4f L0))
  | _=>none
 | _=>none
theorem j1i {S:Specs} (hS:Zu prog S):Zu prog (S.with w2t fRgc):=by
 refine z2d hS (by kernel_rfl) fun args v h=> ?_;unfold fRgc at h;split at h
 ·rename_i a0;split at h
  ·rename_i L0 g0 n0 e0;simp only [Option.some.injEq,Prod.mk.injEq,Bool.and_eq_true] at h;obtain ⟨rfl,ho0,hw⟩:=h;obtain ⟨N,hN⟩:=u8s L0 hw;exact ⟨_,_,(.cons (asL_le e0 ho0) .nil),rfl,v7x L0 N _ hN,3,rfl⟩
  ·cases h
 ·cases h
def Uc :Specs:=(Ub.with w2t fRgc)
theorem Km :Zu prog Uc:=(j1i y6n)
end Go.Am
end
