/- A part of a proof: several texts in one. -/
import Derived.Test.YtijpnpkolglajaaGreatKj4
set_option maxRecDepth 1000000
set_option maxHeartbeats 8000000
set_option linter.unusedVariables false
set_option linter.unusedSimpArgs false
noncomputable section
namespace Go.Am
open Go.Proofs.Tryz
open Go.Proofs Go.Sort Go.Shelf Go.RowKit Go.Lib
theorem u3n {L:List R6} {n:Int} (hl:L.length≤400) {i:Nat} (hi:i+1<(rnC R6.c R6.f n L).length) (out:List R6) (last:List R4) (first fin:Int): ∀(k j:Nat) (acc:List R6),j+k=L.length→acc.length≤j→
  ∃N,∀M,Yj (Xb L n) (M+N) (.to (.h2 ((i+1:Nat):Int) acc (j:Int) out last first fin (rnC R6.c R6.f n L).length (Xx (Yh (rnE R6.c R6.f n L)))))=Yj (Xb L n) M (.to (.h2 ((i+1:Nat):Int) (acc++crS R6.c R6.f (L.drop j) (rd (rnC R6.c R6.f n L) i) (rd (rnC R6.c R6.f n L) (i+1))) (L.length:Int) out last first fin (rnC R6.c R6.f n L).length (Xx (Yh (rnE R6.c R6.f n L)))))
 | 0,j,acc,h,ha=>by refine ⟨0,fun M=> ?_⟩;rw [List.drop_eq_nil_of_le (by omega),show crS R6.c R6.f ([]:List R6) (rd (rnC R6.c R6.f n L) i) (rd (rnC R6.c R6.f n L) (i+1))=[] from rfl,List.append_nil,Nat.add_zero,show j=L.length by omega]
 | k+1,j,acc,h,ha=>by
  have hj:j<L.length:=by omega
  have hc:=Uy R6.c R6.f n L;have hpl:(Xx (Yh (rnE R6.c R6.f n L))).length =4*L.length:=by rw [Wa,Wz,Wj]
  have r0:rd (Xx (Yh (rnE R6.c R6.f n L))) i=rd (rnC R6.c R6.f n L) i:=Uo _ _ (by show i<(rnC R6.c R6.f n L).length;omega);have r1:rd (Xx (Yh (rnE R6.c R6.f n L))) (i+1)=rd (rnC R6.c R6.f n L) (i+1):=Uo _ _ (by show i+1<(rnC R6.c R6.f n L).length;omega);have e1:IntKind.wrap .i64 (((i+1:Nat):Int) - 1)=(i:Int):=by rw [Zh];exact Zu (by omega)
  have hw:IntKind.wrap .i64 ((j:Int)+1)=((j+1:Nat):Int):=Zu (by omega);obtain ⟨N,hN⟩:=u3n hl hi out last first fin k (j+1) (acc++crS R6.c R6.f [rd L j] (rd (rnC R6.c R6.f n L) i) (rd (rnC R6.c R6.f n L) (i+1))) (by omega) (by have:=Qh R6.c R6.f [rd L j] (rd (rnC R6.c R6.f n L) i) (rd (rnC R6.c R6.f n L) (i+1));simp only [List.length_append,List.length_singleton] at*;omega)
  refine ⟨N+1,fun M=> ?_⟩;have e:crS R6.c R6.f (L.drop j) (rd (rnC R6.c R6.f n L) i) (rd (rnC R6.c R6.f n L) (i+1))=crS R6.c R6.f [rd L j] (rd (rnC R6.c R6.f n L) i) (rd (rnC R6.c R6.f n L) (i+1))++crS R6.c R6.f (L.drop (j+1)) (rd (rnC R6.c R6.f n L) i) (rd (rnC R6.c R6.f n L) (i+1)):=by rw [Yc hj,←z9j];rfl
  rw [e,←Nat.add_assoc,Zw,←List.append_assoc,←hN M];by_cases h1:(rd L j).c <rd (rnC R6.c R6.f n L) (i+1)
  ·by_cases h2:rd (rnC R6.c R6.f n L) i<(rd L j).f
   ·rw [j0z h1 h2];simp (disch:=omega) only [Xb,e1,r0,r1,hw,Zp,Zk,Zd,Ze,Yz,Zs,Yx,Zc,Zu,Zx,Yu,Zj,Nat.zero_add,decide_true,Bool.and_true,Bool.true_and,cond_true,cond_false]
   ·rw [v1t h2,List.append_nil];simp (disch:=omega) only [Xb,Zo,e1,r0,r1,hw,Zp,Zk,Zd,Ze,Yz,Zs,Yx,Zc,Zu,Zx,Yu,Zj,Nat.zero_add,decide_true,Bool.and_true,Bool.true_and,cond_true,cond_false]
  ·rw [v1u h1,List.append_nil];simp (disch:=omega) only [Xb,Zo,e1,r0,r1,hw,Zp,Zk,Zd,Ze,Yz,Zs,Yx,Zc,Zu,Zx,Yu,Zj,Nat.zero_add,decide_true,Bool.and_true,Bool.true_and,cond_true,cond_false]
theorem u3o {L:List R6} {n:Int} (hl:L.length≤400) (hn:n≠0) {R:List AVal} (hR: ∃N,Yj (Xb L n) N (.to (.h1 1 [] [] 0 0 (rnC R6.c R6.f n L).length (Xx (Yh (rnE R6.c R6.f n L)))))=.ret R): ∀(k i:Nat) (acc:List Int),i+k=L.length→acc=rnE R6.c R6.f n (L.take i)→ ∃N,Yj (Xb L n) N (.to (.h0 (i:Int) acc))=.ret R
 | 0,i,acc,h,ha=>by
  have e:acc=(rnE R6.c R6.f n L):=by rw [ha,List.take_of_length_le (by omega)]
  subst e;have hle:=Wj R6.c R6.f n L;obtain ⟨N,hN⟩:=hR;refine ⟨N+1,?_⟩;rw [Zw];simp (disch:=omega) only [Xb,Vi,Jc,z4d,Zo,Zs,Yx,decide_true,cond_true,cond_false];exact hN
 | k+1,i,acc,h,ha=>by
  have hle:=Wj R6.c R6.f n (L.take i);have fW:acc.length≤4*i:=by rw [ha,hle];simp;omega
  obtain ⟨N,hN⟩:=u3o hl hn hR k (i+1) (acc++rnE R6.c R6.f n [rd L i]) (by omega) (by
   rw [ha,List.take_add_one];have:L[i]? =some (rd L i):=by rw [Yt (show i<L.length by omega)];exact List.getElem?_eq_getElem _
   rw [this,z8p];rfl)
  refine ⟨N+1,?_⟩;rw [Zw];simp (disch:=omega) only [Xb,v8b hn,Zp,Zk,Zd,Ze,Yz,Zs,Yx,Zc,Zu,Zx,Yu,Zj,Nat.zero_add,decide_true,Bool.and_true,Bool.true_and,cond_true,cond_false];exact hN
def w1l (L:List R6) (n:Int) (x x':Int):List R4:=(z1d (crS R6.c R6.f L x x') x x' n)
theorem u3m {L:List R6} {n:Int} (hl:L.length≤400) (i:Nat) (hi:i≤2000) (x x':Int) (q:List R4) (first:Int) (inn:List R6) (hq:q.length≤2000): ∀(k j:Nat) (out:List R6),j+k=q.length→out.length≤10000000+j→
  ∃N,∀M,Yj (Xb L n) (M+N) (.to (.h3 q (q.length:Int) (j:Int) (i:Int) x x' inn out first (rnC R6.c R6.f n L).length (Xx (Yh (rnE R6.c R6.f n L)))))=Yj (Xb L n) M (.to (.h1 ((i+1:Nat):Int) (out++(q.drop j).map (D6.put x x')) q first x' (rnC R6.c R6.f n L).length (Xx (Yh (rnE R6.c R6.f n L)))))
 | 0,j,out,h,ho=>by refine ⟨1,fun M=> ?_⟩;rw [List.drop_eq_nil_of_le (by omega),Zw];simp (disch:=omega) only [Xb,Zo,Zu,Zx,cond_false,List.map_nil,List.append_nil]
 | k+1,j,out,h,ho=>by
  obtain ⟨N,hN⟩:=u3m hl i hi x x' q first inn hq k (j+1) (out++[D6.put x x' (rd q j)]) (by omega) (by simp;omega)
  refine ⟨N+1,fun M=> ?_⟩;have:=hN M;rw [Yc (show j<q.length by omega),List.map_cons,←Nat.add_assoc,Zw];simp (disch:=omega) only [Xb,Zp,Zk,Zd,Ze,Yz,Zs,Yx,Zc,Zu,Zx,Yu,Zj,Nat.zero_add,decide_true,Bool.and_true,Bool.true_and,cond_true,cond_false];rw [List.append_assoc] at this;exact this
theorem u3l {L:List R6} {n:Int} (hl:L.length≤400) (i:Nat) (hi:i≤2000) (x x' fin:Int) (last:List R4) (first:Int) (inn:List R6): ∀(k j:Nat) (out:List R6),j+k=out.length→out.length≤10000000→
  ∃N,∀M,Yj (Xb L n) (M+N) (.to (.h4 (j:Int) (i:Int) x x' inn out last first fin (rnC R6.c R6.f n L).length (Xx (Yh (rnE R6.c R6.f n L)))))=Yj (Xb L n) M (.to (.h1 ((i+1:Nat):Int) (D6.grow out j x') last first x' (rnC R6.c R6.f n L).length (Xx (Yh (rnE R6.c R6.f n L)))))
 | 0,j,out,h,ho=>by refine ⟨1,fun M=> ?_⟩;rw [D6.grow_nil _ _ _ (by omega),Zw];simp (disch:=omega) only [Xb,Zo,Zu,Zx,cond_false]
 | k+1,j,out,h,ho=>by
  obtain ⟨N,hN⟩:=u3l hl i hi x x' fin last first inn k (j+1) (out.set j (D6.ext x' (rd out j))) (by simp;omega) (by simpa using ho)
  refine ⟨N+1,fun M=> ?_⟩;have:=hN M;rw [D6.grow_set out j _ (by omega)] at this;rw [←Nat.add_assoc,Zw];simp (disch:=omega) only [Xb,Zp,Zk,Zd,Ze,Yz,Zs,Yx,Zc,Zu,Zx,Yu,Zj,Nat.zero_add,decide_true,Bool.and_true,Bool.true_and,cond_true,cond_false];exact this
theorem v0r {L:List R6} {n:Int} (hl:L.length≤400) (hn:n≠0): ∀(k i:Nat) (s:Sw R6 R4),k=(rnC R6.c R6.f n L).length - 1 - i→i≤(rnC R6.c R6.f n L).length →s.out.length≤i*2000→s.last.length≤2000→s.first≤s.out.length→ ∃N,Yj (Xb L n) N (.to (.h1 ((i+1:Nat):Int) s.out s.last (s.first:Int) s.fin (rnC R6.c R6.f n L).length (Xx (Yh (rnE R6.c R6.f n L)))))=.ret (bif okX (w1l L n) (rnC R6.c R6.f n L) k i then Jf (D6.goX (w1l L n) (rnC R6.c R6.f n L) k i s).out else [.nils,.int .i64 4])
 | 0,i,s,h,hi,ho,hla,hf=>by
  have hc:=Uy R6.c R6.f n L;refine ⟨1,?_⟩;rw [Zw];rw [show okX (w1l L n) (rnC R6.c R6.f n L) 0 i=true from rfl,cond_true,show D6.goX (w1l L n) (rnC R6.c R6.f n L) 0 i s=s from rfl];unfold Jf;by_cases q:(s.out.length:Int)>400
  ·simp (disch:=omega) only [Xb,Zo,Ye,cond_true,cond_false,Zg]
  ·simp (disch:=omega) only [Xb,Zo,Ys,cond_true,cond_false,Zg]
 | k +1,i,s,h,hi,ho,hla,hf=>by
  have hc:=Uy R6.c R6.f n L;have hi1:i+1<(rnC R6.c R6.f n L).length :=by omega
  have hpl:(Xx (Yh (rnE R6.c R6.f n L))).length =4*L.length:=by rw [Wa,Wz,Wj]
  have r0:rd (Xx (Yh (rnE R6.c R6.f n L))) i=rd (rnC R6.c R6.f n L) i:=Uo _ _ (by show i<(rnC R6.c R6.f n L).length;omega);have r1:rd (Xx (Yh (rnE R6.c R6.f n L))) (i+1)=rd (rnC R6.c R6.f n L) (i+1):=Uo _ _ (by show i+1<(rnC R6.c R6.f n L).length;omega);have e1:IntKind.wrap .i64 (((i+1:Nat):Int) - 1)=(i:Int):=by rw [Zh];exact Zu (by omega)
  have hbig:i*2000≤1600*2000:=Nat.mul_le_mul_right _ (by omega);obtain ⟨N2,h2⟩:=u3n (n:=n) hl hi1 s.out s.last (s.first:Int) s.fin L.length 0 [] (Nat.zero_add _) (Nat.le_refl _);rw [List.drop_zero,List.nil_append,Qv] at h2;have hin:=Qh R6.c R6.f L (rd (rnC R6.c R6.f n L) i) (rd (rnC R6.c R6.f n L) (i+1));have w1:z1l (crS R6.c R6.f L (rd (rnC R6.c R6.f n L) i) (rd (rnC R6.c R6.f n L) (i+1))) (rd (rnC R6.c R6.f n L) i) (rd (rnC R6.c R6.f n L) (i+1)) n=true:=by unfold z1l;rw [Yz (by omega),decide_eq_false hn];rfl
  have st0: ∀M,Yj (Xb L n) (M+N2+1) (.to (.h1 ((i+1:Nat):Int) s.out s.last (s.first:Int) s.fin (rnC R6.c R6.f n L).length (Xx (Yh (rnE R6.c R6.f n L)))))=Yj (Xb L n) M (.to (.h2 ((i+1:Nat):Int) (crS R6.c R6.f L (rd (rnC R6.c R6.f n L) i) (rd (rnC R6.c R6.f n L) (i+1))) (L.length:Int) s.out s.last (s.first:Int) s.fin (rnC R6.c R6.f n L).length (Xx (Yh (rnE R6.c R6.f n L))))):=fun M=>by rw [←h2 M,Zw];simp (disch:=omega) only [Xb,Zd,cond_true]
  have hq:(w1l L n) (rd (rnC R6.c R6.f n L) i) (rd (rnC R6.c R6.f n L) (i+1))=(z1d (crS R6.c R6.f L (rd (rnC R6.c R6.f n L) i) (rd (rnC R6.c R6.f n L) (i+1))) (rd (rnC R6.c R6.f n L) i) (rd (rnC R6.c R6.f n L) (i+1)) n):=rfl;rcases Yv (decide (((z1d (crS R6.c R6.f L (rd (rnC R6.c R6.f n L) i) (rd (rnC R6.c R6.f n L) (i+1))) (rd (rnC R6.c R6.f n L) i) (rd (rnC R6.c R6.f n L) (i+1)) n).length :Int)>400)) with q0 | q0
  ·refine ⟨1+N2+1,?_⟩;rw [st0 1,Zw];unfold okX;rw [hq,q0,cond_true,cond_false];simp (disch:=omega) only [Xb,Zo,e1,r0,r1,w1,q0,Zp,Zk,Zd,Ze,Yz,Zs,Yx,Zc,Zu,Zx,Yu,Zj,Nat.zero_add,decide_true,Bool.and_true,Bool.true_and,cond_true,cond_false,Zg]
  have hsl:(z1d (crS R6.c R6.f L (rd (rnC R6.c R6.f n L) i) (rd (rnC R6.c R6.f n L) (i+1))) (rd (rnC R6.c R6.f n L) i) (rd (rnC R6.c R6.f n L) (i+1)) n).length ≤2000:=by have:=of_decide_eq_false q0;omega
  have w2:Xg s.last (z1d (crS R6.c R6.f L (rd (rnC R6.c R6.f n L) i) (rd (rnC R6.c R6.f n L) (i+1))) (rd (rnC R6.c R6.f n L) i) (rd (rnC R6.c R6.f n L) (i+1)) n)=true:=decide_eq_true (by omega);have ol:=D6.oneS_length (z1d (crS R6.c R6.f L (rd (rnC R6.c R6.f n L) i) (rd (rnC R6.c R6.f n L) (i+1))) (rd (rnC R6.c R6.f n L) i) (rd (rnC R6.c R6.f n L) (i+1)) n) (rd (rnC R6.c R6.f n L) i) (rd (rnC R6.c R6.f n L) (i+1)) s;rcases Yv (decide (0<(z1d (crS R6.c R6.f L (rd (rnC R6.c R6.f n L) i) (rd (rnC R6.c R6.f n L) (i+1))) (rd (rnC R6.c R6.f n L) i) (rd (rnC R6.c R6.f n L) (i+1)) n).length)&&((s.fin == (rd (rnC R6.c R6.f n L) i))&&D6.same s.last (z1d (crS R6.c R6.f L (rd (rnC R6.c R6.f n L) i) (rd (rnC R6.c R6.f n L) (i+1))) (rd (rnC R6.c R6.f n L) i) (rd (rnC R6.c R6.f n L) (i+1)) n))) with q | q
  ·obtain ⟨N4,h4⟩:=u3l (n:=n) hl (i+1) (by omega) (rd (rnC R6.c R6.f n L) i) (rd (rnC R6.c R6.f n L) (i+1)) s.fin s.last (s.first:Int) (crS R6.c R6.f L (rd (rnC R6.c R6.f n L) i) (rd (rnC R6.c R6.f n L) (i+1))) (s.out.length - s.first) s.first s.out (by omega) (by omega)
   have e:D6.oneS (z1d (crS R6.c R6.f L (rd (rnC R6.c R6.f n L) i) (rd (rnC R6.c R6.f n L) (i+1))) (rd (rnC R6.c R6.f n L) i) (rd (rnC R6.c R6.f n L) (i+1)) n) (rd (rnC R6.c R6.f n L) i) (rd (rnC R6.c R6.f n L) (i+1)) s=⟨D6.grow s.out s.first (rd (rnC R6.c R6.f n L) (i+1)),s.last,s.first,(rd (rnC R6.c R6.f n L) (i+1))⟩:=by unfold Dim.oneS;rw [q];rfl
   obtain ⟨N0,h0⟩:=v0r hl hn k (i+1) (D6.oneS (z1d (crS R6.c R6.f L (rd (rnC R6.c R6.f n L) i) (rd (rnC R6.c R6.f n L) (i+1))) (rd (rnC R6.c R6.f n L) i) (rd (rnC R6.c R6.f n L) (i+1)) n) (rd (rnC R6.c R6.f n L) i) (rd (rnC R6.c R6.f n L) (i+1)) s) (by omega) (by omega) (by omega) (by rw [e];exact hla) (by rw [e];simpa [Dim.grow_length] using hf);refine ⟨N0+N4+1+N2+1,?_⟩;rw [st0 (N0+N4+1),Zw];simp only [Bool.and_eq_true,decide_eq_true_eq] at q;obtain ⟨q1,q2,q3⟩:=q;have q3':Vw s.last (z1d (crS R6.c R6.f L (rd (rnC R6.c R6.f n L) i) (rd (rnC R6.c R6.f n L) (i+1))) (rd (rnC R6.c R6.f n L) i) (rd (rnC R6.c R6.f n L) (i+1)) n)=true:=q3;simp (disch:=omega) only [Xb,Zo,Ye,e1,r0,r1,q0,q2,q3',w1,w2,Zp,Zk,Zd,Ze,Yz,Zs,Yx,Zc,Zu,Zx,Yu,Zj,Nat.zero_add,decide_true,Bool.and_true,Bool.true_and,cond_true,cond_false];rw [h4 N0];unfold okX;rw [hq,q0,cond_false];unfold Dim.goX;rw [hq];rw [e] at h0 ⊢;exact h0
  ·obtain ⟨N3,h3⟩:=u3m (n:=n) hl (i+1) (by omega) (rd (rnC R6.c R6.f n L) i) (rd (rnC R6.c R6.f n L) (i+1)) (z1d (crS R6.c R6.f L (rd (rnC R6.c R6.f n L) i) (rd (rnC R6.c R6.f n L) (i+1))) (rd (rnC R6.c R6.f n L) i) (rd (rnC R6.c R6.f n L) (i+1)) n) (s.out.length:Int) (crS R6.c R6.f L (rd (rnC R6.c R6.f n L) i) (rd (rnC R6.c R6.f n L) (i+1))) hsl (z1d (crS R6.c R6.f L (rd (rnC R6.c R6.f n L) i) (rd (rnC R6.c R6.f n L) (i+1))) (rd (rnC R6.c R6.f n L) i) (rd (rnC R6.c R6.f n L) (i+1)) n).length 0 s.out (Nat.zero_add _) (by omega);simp only [List.drop_zero,Qv] at h3;have e:D6.oneS (z1d (crS R6.c R6.f L (rd (rnC R6.c R6.f n L) i) (rd (rnC R6.c R6.f n L) (i+1))) (rd (rnC R6.c R6.f n L) i) (rd (rnC R6.c R6.f n L) (i+1)) n) (rd (rnC R6.c R6.f n L) i) (rd (rnC R6.c R6.f n L) (i+1)) s=⟨s.out++(z1d (crS R6.c R6.f L (rd (rnC R6.c R6.f n L) i) (rd (rnC R6.c R6.f n L) (i+1))) (rd (rnC R6.c R6.f n L) i) (rd (rnC R6.c R6.f n L) (i+1)) n).map (D6.put (rd (rnC R6.c R6.f n L) i) (rd (rnC R6.c R6.f n L) (i+1))),(z1d (crS R6.c R6.f L (rd (rnC R6.c R6.f n L) i) (rd (rnC R6.c R6.f n L) (i+1))) (rd (rnC R6.c R6.f n L) i) (rd (rnC R6.c R6.f n L) (i+1)) n),s.out.length,(rd (rnC R6.c R6.f n L) (i+1))⟩:=by unfold Dim.oneS;rw [q];rfl
   obtain ⟨N0,h0⟩:=v0r hl hn k (i+1) (D6.oneS (z1d (crS R6.c R6.f L (rd (rnC R6.c R6.f n L) i) (rd (rnC R6.c R6.f n L) (i+1))) (rd (rnC R6.c R6.f n L) i) (rd (rnC R6.c R6.f n L) (i+1)) n) (rd (rnC R6.c R6.f n L) i) (rd (rnC R6.c R6.f n L) (i+1)) s) (by omega) (by omega) (by omega) (by rw [e];exact hsl) (by rw [e];simp);have hg:Xb L n (.h2 ((i+1:Nat):Int) (crS R6.c R6.f L (rd (rnC R6.c R6.f n L) i) (rd (rnC R6.c R6.f n L) (i+1))) (L.length:Int) s.out s.last (s.first:Int) s.fin (rnC R6.c R6.f n L).length (Xx (Yh (rnE R6.c R6.f n L))))=.to (.h3 (z1d (crS R6.c R6.f L (rd (rnC R6.c R6.f n L) i) (rd (rnC R6.c R6.f n L) (i+1))) (rd (rnC R6.c R6.f n L) i) (rd (rnC R6.c R6.f n L) (i+1)) n) ((z1d (crS R6.c R6.f L (rd (rnC R6.c R6.f n L) i) (rd (rnC R6.c R6.f n L) (i+1))) (rd (rnC R6.c R6.f n L) i) (rd (rnC R6.c R6.f n L) (i+1)) n).length :Int) 0 ((i+1:Nat):Int) (rd (rnC R6.c R6.f n L) i) (rd (rnC R6.c R6.f n L) (i+1)) (crS R6.c R6.f L (rd (rnC R6.c R6.f n L) i) (rd (rnC R6.c R6.f n L) (i+1))) s.out (s.out.length:Int) (rnC R6.c R6.f n L).length (Xx (Yh (rnE R6.c R6.f n L)))):=by
    have e3:D6.same s.last (z1d (crS R6.c R6.f L (rd (rnC R6.c R6.f n L) i) (rd (rnC R6.c R6.f n L) (i+1))) (rd (rnC R6.c R6.f n L) i) (rd (rnC R6.c R6.f n L) (i+1)) n)=Vw s.last (z1d (crS R6.c R6.f L (rd (rnC R6.c R6.f n L) i) (rd (rnC R6.c R6.f n L) (i+1))) (rd (rnC R6.c R6.f n L) i) (rd (rnC R6.c R6.f n L) (i+1)) n):=rfl;rw [e3] at q;by_cases q1:0<(z1d (crS R6.c R6.f L (rd (rnC R6.c R6.f n L) i) (rd (rnC R6.c R6.f n L) (i+1))) (rd (rnC R6.c R6.f n L) i) (rd (rnC R6.c R6.f n L) (i+1)) n).length
    ·rw [decide_eq_true q1,Bool.true_and] at q;rcases Yv (s.fin == (rd (rnC R6.c R6.f n L) i)) with q2 | q2
     ·rw [q2,Bool.true_and] at q;simp (disch:=omega) only [Xb,Zo,Ye,e1,r0,r1,q0,q2,q,w1,w2,Zp,Zk,Zd,Ze,Yz,Zs,Yx,Zc,Zu,Zx,Yu,Zj,Nat.zero_add,decide_true,Bool.and_true,Bool.true_and,cond_true,cond_false]
     ·simp (disch:=omega) only [Xb,Zo,Ye,e1,r0,r1,q0,q2,w1,w2,Zp,Zk,Zd,Ze,Yz,Zs,Yx,Zc,Zu,Zx,Yu,Zj,Nat.zero_add,decide_true,Bool.and_true,Bool.true_and,cond_true,cond_false]
    ·simp (disch:=omega) only [Xb,Zo,Ys,e1,r0,r1,q0,w1,w2,Zp,Zk,Zd,Ze,Yz,Zs,Yx,Zc,Zu,Zx,Yu,Zj,Nat.zero_add,decide_true,Bool.and_true,Bool.true_and,cond_true,cond_false]
   refine ⟨N0+N3+1+N2+1,?_⟩;rw [st0 (N0+N3+1),Zw,hg,h3 N0];unfold okX;rw [hq,q0,cond_false];unfold Dim.goX;rw [hq];rw [e] at h0 ⊢;exact h0
def v3f (L:List R6) (n:Int):List R6:=(D6.goX (w1l L n) (rnC R6.c R6.f n L) ((rnC R6.c R6.f n L).length - 1) 0 ⟨[],[],0,0⟩).out
def Ud (L:List R6) (n:Int):Int:=bif Zf L != 0 then Zf L else bif decide (n<1)||decide (n>1000) then 2 else bif okX (w1l L n) (rnC R6.c R6.f n L) ((rnC R6.c R6.f n L).length - 1) 0 then y9c (v3f L n).length else 4
def Xh (L:List R6) (n:Int):List R6:=x4v (Ud L n) (v3f L n)
def z3x (L:List R6) (n:Int):Bool:=true
theorem u8p (L:List R6) (n:Int): ∃N,Yj (Xb L n) N (y2d L n)=.ret (y5v (Ud L n) (v3f L n)):=by
 have hk:(Zf L != 0)= !(Zf L == 0):=rfl;unfold y2d Ud;simp only [Zp,z4k,cond_true,hk];rcases Yv (Zf L == 0) with a | a
 ·rcases Yv (decide (n<1)) with b | b
  ·refine ⟨0,?_⟩;rw [a,b];rfl
  ·rcases Yv (decide (n>1000)) with c | c
   ·refine ⟨0,?_⟩;rw [a,b,c];rfl
   ·have hb:=of_decide_eq_false b;have hl:=(Jw (eq_of_beq a)).1;obtain ⟨N,hN⟩:=u3o (L:=L) (n:=n) hl (by omega) (v0r hl (by omega) ((rnC R6.c R6.f n L).length - 1) 0 ⟨[],[],0,0⟩ (by omega) (Nat.zero_le _) (Nat.zero_le _) (Nat.zero_le _) (Nat.le_refl _)) L.length 0 [] (Nat.zero_add _) rfl;refine ⟨N,?_⟩;rw [a,b,c];simp only [Bool.not_true,Bool.not_false,Bool.true_and,Bool.or_false,cond_true,cond_false];rw [Qv] at hN;rw [hN];rcases Yv (okX (w1l L n) (rnC R6.c R6.f n L) ((rnC R6.c R6.f n L).length - 1) 0) with q | q
    ·rw [q,cond_true,cond_true,z4e];rfl
    ·rw [q];rfl
 ·refine ⟨0,?_⟩;rw [a];simp only [Bool.not_false,cond_true];rw [Ki _ (show (Zf L != 0)=true by rw [hk,a];rfl)];rfl
def fInn :List AVal→Option (AVal×Bool)
 | [a0,.int .i64 x1]=>match asL R6 a0 with
  | some (L0,g0,n0)=>some (.tup [.dat (Xh L0 x1).length (Zz (Xh L0 x1)),.int .i64 (Ud L0 x1)],isT R6 n0 g0&&z3x L0 x1)
  | _=>none
 | _=>none
theorem u9z {S:Specs} (hS:Zq prog S):Zq prog (S.with v0e fInn):=by
 refine v1i hS (by kernel_rfl) fun args v h=> ?_;unfold fInn at h;split at h
 ·rename_i a0 x1;split at h
  ·rename_i L0 g0 n0 e0;simp only [Option.some.injEq,Prod.mk.injEq,Bool.and_eq_true] at h;obtain ⟨rfl,ho0,hw⟩:=h;obtain ⟨N,hN⟩:=u8p L0 x1;exact ⟨_,_,(.cons (asL_le e0 ho0) (.cons (.refl _) .nil)),z4q _ _,v6z L0 x1 N _ hN,3,z8u _ _⟩
  ·cases h
 ·cases h
def Dh :Specs:=(Dg.with v0e fInn)
theorem z3c :Zq prog Dh:=(u9z z0d)
end Go.Am
namespace Go.Am
open Go.Proofs.Tryz
open Go.Proofs
inductive al39S where
def j1k :al39S→Cfg
 :=nofun
def x1h :al39S→Xe al39S
 :=nofun
def z8g :Xe al39S:=(bif (Qs (cvT ([(R6.mk 1 1 1 3 3 3)]:List R6)) 2) then (bif (z3x (cvT ([(R6.mk 1 1 1 3 3 3)]:List R6)) 2) then (bif (Jx (cvT ([(R6.mk 1 1 1 3 3 3)]:List R6)) (cvT (Zr (cvT ([(R6.mk 1 1 1 3 3 3)]:List R6)) 2))) then (bif (z4c (cvT ([(R6.mk 0 0 0 5 1 1)]:List R6)) (cvT ([(R6.mk 0 0 0 1 1 1)]:List R6))) then (bif (z4c (cvT ([(R6.mk 0 0 0 1 1 1)]:List R6)) (cvT ([(R6.mk 0 0 0 5 1 1)]:List R6))) then (bif ((Vg (cvT ([(R6.mk 1 1 1 3 3 3)]:List R6)) 2) == 0) then (bif (Ug (cvT (Zr (cvT ([(R6.mk 1 1 1 3 3 3)]:List R6)) 2)) (cvT ([(R6.mk 0 0 0 4 4 4)]:List R6))) then (bif (Kp (cvT (Zr (cvT ([(R6.mk 1 1 1 3 3 3)]:List R6)) 2)) (cvT ([(R6.mk 0 0 0 4 4 4)]:List R6))) then (bif ((Ud (cvT ([(R6.mk 1 1 1 3 3 3)]:List R6)) 2) == 0) then (bif ((((Xh (cvT ([(R6.mk 1 1 1 3 3 3)]:List R6)) 2).length :Nat):Int) == 0) then (bif ((Kz (cvT ([(R6.mk 1 1 1 3 3 3)]:List R6)) (cvT (Zr (cvT ([(R6.mk 1 1 1 3 3 3)]:List R6)) 2))) == 0) then (bif ((Je (cvT ([(R6.mk 1 1 1 3 3 3)]:List R6)) (cvT (Zr (cvT ([(R6.mk 1 1 1 3 3 3)]:List R6)) 2))) == 1) then (bif ((z2v (cvT ([(R6.mk 0 0 0 5 1 1)]:List R6)) (cvT ([(R6.mk 0 0 0 1 1 1)]:List R6))) == 0) then (bif ((z1o (cvT ([(R6.mk 0 0 0 5 1 1)]:List R6)) (cvT ([(R6.mk 0 0 0 1 1 1)]:List R6))) == 4) then (bif ((z2v (cvT ([(R6.mk 0 0 0 1 1 1)]:List R6)) (cvT ([(R6.mk 0 0 0 5 1 1)]:List R6))) == 0) then (.ret [(.bool ((z1o (cvT ([(R6.mk 0 0 0 1 1 1)]:List R6)) (cvT ([(R6.mk 0 0 0 5 1 1)]:List R6))) == 0))]) else (.ret [(.bool false)])) else (.ret [(.bool false)])) else (.ret [(.bool false)])) else (.ret [(.bool false)])) else (.ret [(.bool false)])) else (.ret [(.bool false)])) else (.ret [(.bool false)])) else (.ret [(.bool false)])) else .stuck) else (.ret [(.bool false)])) else .stuck) else .stuck) else .stuck) else .stuck) else .stuck)
theorem x8z : ∀s,Xr prog (Zy prog 41) (j1k) (j1k s) (x1h s)
 :=nofun
theorem x4e :Xr prog (Zy prog 41) (j1k) (Zi prog 41 [] true []) (z8g):=(Ww (sl z3c (C':=⟨⟨87,0,true⟩,(Wd prog 41 [1,1,0] 1),(Zb prog 41 [1,1,0] 1),none,(Zy prog 13),⟨Yq [(1,(.dat ([(R6.mk 1 1 1 3 3 3)]:List R6).length (Zz ([(R6.mk 1 1 1 3 3 3)]:List R6)))),(15,(.dat ([(R6.mk 1 1 1 3 3 3)]:List R6).length (Zz ([(R6.mk 1 1 1 3 3 3)]:List R6))))],Uv [] 0,0,[],true⟩,[],.leaf⟩) 31 [] ⟨[],[1],[some [1,15]],[]⟩ ⟨[(1,.frz 1 ([(R6.mk 1 1 1 3 3 3)]:List R6).length (Ui [(ii 1),(ii 1),(ii 1),(ii 3),(ii 3),(ii 3)] 0 6) (Zz ([(R6.mk 1 1 1 3 3 3)]:List R6))),(15,.frz 1 ([(R6.mk 1 1 1 3 3 3)]:List R6).length (Ui [(ii 1),(ii 1),(ii 1),(ii 3),(ii 3),(ii 3)] 0 6) (Zz ([(R6.mk 1 1 1 3 3 3)]:List R6)))],[],[]⟩ [] (pp (xZ (.dat 1 (Ui [(ii 1),(ii 1),(ii 1),(ii 3),(ii 3),(ii 3)] 0 6)) 1 (Ui [(ii 1),(ii 1),(ii 1),(ii 3),(ii 3),(ii 3)] 0 6)) (pp (xL 1 ([(R6.mk 1 1 1 3 3 3)]:List R6).length) (pp (xS 1 (Ui [(ii 1),(ii 1),(ii 1),(ii 3),(ii 3),(ii 3)] 0 6) (Zz ([(R6.mk 1 1 1 3 3 3)]:List R6))) (pp (xZ (.dat 1 (Ui [(ii 1),(ii 1),(ii 1),(ii 3),(ii 3),(ii 3)] 0 6)) 1 (Ui [(ii 1),(ii 1),(ii 1),(ii 3),(ii 3),(ii 3)] 0 6)) (pp (xL 1 ([(R6.mk 1 1 1 3 3 3)]:List R6).length) (pp (xS 1 (Ui [(ii 1),(ii 1),(ii 1),(ii 3),(ii 3),(ii 3)] 0 6) (Zz ([(R6.mk 1 1 1 3 3 3)]:List R6))) nn))))))) (lo fun q0_0=>(lo fun q0_1=>(lo fun q0_2=>(Ww (sl z3c (C':=⟨⟨87,0,true⟩,(Wd prog 41 [1,1,1,1,1,0] 4),(Zb prog 41 [1,1,1,1,1,0] 1),none,(Zy prog 13),⟨Yq [(2,(.dat (Zr (cvT ([(R6.mk 1 1 1 3 3 3)]:List R6)) 2).length (Zz (Zr (cvT ([(R6.mk 1 1 1 3 3 3)]:List R6)) 2)))),(3,(ii (Vg (cvT ([(R6.mk 1 1 1 3 3 3)]:List R6)) 2))),(4,(.dat (Xh (cvT ([(R6.mk 1 1 1 3 3 3)]:List R6)) 2).length (Zz (Xh (cvT ([(R6.mk 1 1 1 3 3 3)]:List R6)) 2)))),(5,(ii (Ud (cvT ([(R6.mk 1 1 1 3 3 3)]:List R6)) 2))),(6,(ii (Je (cvT ([(R6.mk 1 1 1 3 3 3)]:List R6)) (cvT (Zr (cvT ([(R6.mk 1 1 1 3 3 3)]:List R6)) 2))))),(7,(ii (Kz (cvT ([(R6.mk 1 1 1 3 3 3)]:List R6)) (cvT (Zr (cvT ([(R6.mk 1 1 1 3 3 3)]:List R6)) 2))))),(32,(.dat ([(R6.mk 0 0 0 5 1 1)]:List R6).length (Zz ([(R6.mk 0 0 0 5 1 1)]:List R6)))),(34,(.dat ([(R6.mk 0 0 0 1 1 1)]:List R6).length (Zz ([(R6.mk 0 0 0 1 1 1)]:List R6))))],Uv [] 0,0,[],true⟩,[],.leaf⟩) 70 [] ⟨[],[1,3],[some [2,3,4,5,6,7,32,34]],[]⟩ ⟨[(32,.frz 1 ([(R6.mk 0 0 0 5 1 1)]:List R6).length (Ui [(ii 0),(ii 0),(ii 0),(ii 5),(ii 1),(ii 1)] 0 6) (Zz ([(R6.mk 0 0 0 5 1 1)]:List R6))),(34,.frz 1 ([(R6.mk 0 0 0 1 1 1)]:List R6).length (Ui [(ii 0),(ii 0),(ii 0),(ii 1),(ii 1),(ii 1)] 0 6) (Zz ([(R6.mk 0 0 0 1 1 1)]:List R6)))],[],[]⟩ [] (pp (xZ (.dat 1 (Ui [(ii 0),(ii 0),(ii 0),(ii 5),(ii 1),(ii 1)] 0 6)) 1 (Ui [(ii 0),(ii 0),(ii 0),(ii 5),(ii 1),(ii 1)] 0 6)) (pp (xL 1 ([(R6.mk 0 0 0 5 1 1)]:List R6).length) (pp (xS 1 (Ui [(ii 0),(ii 0),(ii 0),(ii 5),(ii 1),(ii 1)] 0 6) (Zz ([(R6.mk 0 0 0 5 1 1)]:List R6))) (pp (xZ (.dat 1 (Ui [(ii 0),(ii 0),(ii 0),(ii 1),(ii 1),(ii 1)] 0 6)) 1 (Ui [(ii 0),(ii 0),(ii 0),(ii 1),(ii 1),(ii 1)] 0 6)) (pp (xL 1 ([(R6.mk 0 0 0 1 1 1)]:List R6).length) (pp (xS 1 (Ui [(ii 0),(ii 0),(ii 0),(ii 1),(ii 1),(ii 1)] 0 6) (Zz ([(R6.mk 0 0 0 1 1 1)]:List R6))) (pp (pp (xI R6 ([(R6.mk 1 1 1 3 3 3)]:List R6).length (Zz ([(R6.mk 1 1 1 3 3 3)]:List R6))) (pp (xI R6 (Zr (cvT ([(R6.mk 1 1 1 3 3 3)]:List R6)) 2).length (Zz (Zr (cvT ([(R6.mk 1 1 1 3 3 3)]:List R6)) 2))) (xw q0_2))) (pp (pp (xI R6 ([(R6.mk 1 1 1 3 3 3)]:List R6).length (Zz ([(R6.mk 1 1 1 3 3 3)]:List R6))) (xw q0_1)) (pp (pp (xI R6 ([(R6.mk 1 1 1 3 3 3)]:List R6).length (Zz ([(R6.mk 1 1 1 3 3 3)]:List R6))) (xw q0_0)) nn)))))))))) (lo fun q0_0=>(Ww (sl z3c (C':=⟨⟨87,0,true⟩,(Wd prog 41 [1,1,1,1,1,1,0] 4),(Zb prog 41 [1,1,1,1,1,1,0] 1),none,(Zy prog 13),⟨Yq [(2,(.dat (Zr (cvT ([(R6.mk 1 1 1 3 3 3)]:List R6)) 2).length (Zz (Zr (cvT ([(R6.mk 1 1 1 3 3 3)]:List R6)) 2)))),(3,(ii (Vg (cvT ([(R6.mk 1 1 1 3 3 3)]:List R6)) 2))),(4,(.dat (Xh (cvT ([(R6.mk 1 1 1 3 3 3)]:List R6)) 2).length (Zz (Xh (cvT ([(R6.mk 1 1 1 3 3 3)]:List R6)) 2)))),(5,(ii (Ud (cvT ([(R6.mk 1 1 1 3 3 3)]:List R6)) 2))),(6,(ii (Je (cvT ([(R6.mk 1 1 1 3 3 3)]:List R6)) (cvT (Zr (cvT ([(R6.mk 1 1 1 3 3 3)]:List R6)) 2))))),(7,(ii (Kz (cvT ([(R6.mk 1 1 1 3 3 3)]:List R6)) (cvT (Zr (cvT ([(R6.mk 1 1 1 3 3 3)]:List R6)) 2))))),(8,(ii (z1o (cvT ([(R6.mk 0 0 0 5 1 1)]:List R6)) (cvT ([(R6.mk 0 0 0 1 1 1)]:List R6))))),(9,(ii (z2v (cvT ([(R6.mk 0 0 0 5 1 1)]:List R6)) (cvT ([(R6.mk 0 0 0 1 1 1)]:List R6))))),(40,(.dat ([(R6.mk 0 0 0 1 1 1)]:List R6).length (Zz ([(R6.mk 0 0 0 1 1 1)]:List R6)))),(42,(.dat ([(R6.mk 0 0 0 5 1 1)]:List R6).length (Zz ([(R6.mk 0 0 0 5 1 1)]:List R6))))],Uv [] 0,0,[],true⟩,[],.leaf⟩) 49 [] ⟨[],[1,3],[some [2,3,4,5,6,7,8,9,40,42]],[]⟩ ⟨[(40,.frz 1 ([(R6.mk 0 0 0 1 1 1)]:List R6).length (Ui [(ii 0),(ii 0),(ii 0),(ii 1),(ii 1),(ii 1)] 0 6) (Zz ([(R6.mk 0 0 0 1 1 1)]:List R6))),(42,.frz 1 ([(R6.mk 0 0 0 5 1 1)]:List R6).length (Ui [(ii 0),(ii 0),(ii 0),(ii 5),(ii 1),(ii 1)] 0 6) (Zz ([(R6.mk 0 0 0 5 1 1)]:List R6)))],[],[]⟩ [] (pp (xZ (.dat 1 (Ui [(ii 0),(ii 0),(ii 0),(ii 1),(ii 1),(ii 1)] 0 6)) 1 (Ui [(ii 0),(ii 0),(ii 0),(ii 1),(ii 1),(ii 1)] 0 6)) (pp (xL 1 ([(R6.mk 0 0 0 1 1 1)]:List R6).length) (pp (xS 1 (Ui [(ii 0),(ii 0),(ii 0),(ii 1),(ii 1),(ii 1)] 0 6) (Zz ([(R6.mk 0 0 0 1 1 1)]:List R6))) (pp (xZ (.dat 1 (Ui [(ii 0),(ii 0),(ii 0),(ii 5),(ii 1),(ii 1)] 0 6)) 1 (Ui [(ii 0),(ii 0),(ii 0),(ii 5),(ii 1),(ii 1)] 0 6)) (pp (xL 1 ([(R6.mk 0 0 0 5 1 1)]:List R6).length) (pp (xS 1 (Ui [(ii 0),(ii 0),(ii 0),(ii 5),(ii 1),(ii 1)] 0 6) (Zz ([(R6.mk 0 0 0 5 1 1)]:List R6))) (pp (pp (xI R6 ([(R6.mk 0 0 0 5 1 1)]:List R6).length (Zz ([(R6.mk 0 0 0 5 1 1)]:List R6))) (pp (xI R6 ([(R6.mk 0 0 0 1 1 1)]:List R6).length (Zz ([(R6.mk 0 0 0 1 1 1)]:List R6))) (xw q0_0))) nn)))))))) (lo fun bO=>(lb (fun k0=>(Ww (sl z3c (C':=⟨⟨87,0,true⟩,(Wd prog 41 [1,1,1,1,1,1,1,0] 6),(Zb prog 41 [1,1,1,1,1,1,1,0] 1),none,(Zy prog 13),⟨Yq [(4,(.dat (Xh (cvT ([(R6.mk 1 1 1 3 3 3)]:List R6)) 2).length (Zz (Xh (cvT ([(R6.mk 1 1 1 3 3 3)]:List R6)) 2)))),(5,(ii (Ud (cvT ([(R6.mk 1 1 1 3 3 3)]:List R6)) 2))),(6,(ii (Je (cvT ([(R6.mk 1 1 1 3 3 3)]:List R6)) (cvT (Zr (cvT ([(R6.mk 1 1 1 3 3 3)]:List R6)) 2))))),(7,(ii (Kz (cvT ([(R6.mk 1 1 1 3 3 3)]:List R6)) (cvT (Zr (cvT ([(R6.mk 1 1 1 3 3 3)]:List R6)) 2))))),(8,(ii (z1o (cvT ([(R6.mk 0 0 0 5 1 1)]:List R6)) (cvT ([(R6.mk 0 0 0 1 1 1)]:List R6))))),(9,(ii (z2v (cvT ([(R6.mk 0 0 0 5 1 1)]:List R6)) (cvT ([(R6.mk 0 0 0 1 1 1)]:List R6))))),(10,(ii (z1o (cvT ([(R6.mk 0 0 0 1 1 1)]:List R6)) (cvT ([(R6.mk 0 0 0 5 1 1)]:List R6))))),(11,(ii (z2v (cvT ([(R6.mk 0 0 0 1 1 1)]:List R6)) (cvT ([(R6.mk 0 0 0 5 1 1)]:List R6))))),(48,(.bool true)),(49,(.dat (Zr (cvT ([(R6.mk 1 1 1 3 3 3)]:List R6)) 2).length (Zz (Zr (cvT ([(R6.mk 1 1 1 3 3 3)]:List R6)) 2)))),(51,(.dat ([(R6.mk 0 0 0 4 4 4)]:List R6).length (Zz ([(R6.mk 0 0 0 4 4 4)]:List R6))))],Uv [] 0,0,[],true⟩,[],.leaf⟩) 33 [] ⟨[],[1],[some [4,5,6,7,8,9,10,11,48,49,51]],[]⟩ ⟨[(51,.frz 1 ([(R6.mk 0 0 0 4 4 4)]:List R6).length (Ui [(ii 0),(ii 0),(ii 0),(ii 4),(ii 4),(ii 4)] 0 6) (Zz ([(R6.mk 0 0 0 4 4 4)]:List R6)))],[],[]⟩ (trs 3 []) (pp (xZ (.dat 1 (Ui [(ii 0),(ii 0),(ii 0),(ii 4),(ii 4),(ii 4)] 0 6)) 1 (Ui [(ii 0),(ii 0),(ii 0),(ii 4),(ii 4),(ii 4)] 0 6)) (pp (xL 1 ([(R6.mk 0 0 0 4 4 4)]:List R6).length) (pp (xS 1 (Ui [(ii 0),(ii 0),(ii 0),(ii 4),(ii 4),(ii 4)] 0 6) (Zz ([(R6.mk 0 0 0 4 4 4)]:List R6))) (tt k0 (pp (pp (xI R6 ([(R6.mk 0 0 0 1 1 1)]:List R6).length (Zz ([(R6.mk 0 0 0 1 1 1)]:List R6))) (pp (xI R6 ([(R6.mk 0 0 0 5 1 1)]:List R6).length (Zz ([(R6.mk 0 0 0 5 1 1)]:List R6))) (xw bO))) nn)))))) (lo fun aJ=>(lb (fun k1=>(lb (fun k2=>(lb (fun k3=>(lb (fun k4=>(lb (fun k5=>(lb (fun k6=>(lb (fun k7=>(lb (fun k8=>(lr 87 3 [1,1,1,1,1,1,0] 1 13 [(0,(.bool ((z1o (cvT ([(R6.mk 0 0 0 1 1 1)]:List R6)) (cvT ([(R6.mk 0 0 0 5 1 1)]:List R6))) == 0)))] (sl z3c 37 [] ⟨[],[],[some [0]],[]⟩ ⟨[],[],[]⟩ (trs 18 []) (tt k8 (tt k7 (tt k6 (tt k5 (tt k4 (tt k3 (tt k2 (tt k1 (pp (pp (xI R6 (Zr (cvT ([(R6.mk 1 1 1 3 3 3)]:List R6)) 2).length (Zz (Zr (cvT ([(R6.mk 1 1 1 3 3 3)]:List R6)) 2))) (pp (xI R6 ([(R6.mk 0 0 0 4 4 4)]:List R6).length (Zz ([(R6.mk 0 0 0 4 4 4)]:List R6))) (xw aJ))) nn)))))))))))) (fun k8=>(lr 87 3 [1,1,1,1,1,1,0] 1 13 [(0,(.bool false))] (sl z3c 37 [] ⟨[],[],[some [0]],[]⟩ ⟨[],[],[]⟩ (trs 16 [false,false]) (tt k8 (tt k7 (tt k6 (tt k5 (tt k4 (tt k3 (tt k2 (tt k1 (pp (pp (xI R6 (Zr (cvT ([(R6.mk 1 1 1 3 3 3)]:List R6)) 2).length (Zz (Zr (cvT ([(R6.mk 1 1 1 3 3 3)]:List R6)) 2))) (pp (xI R6 ([(R6.mk 0 0 0 4 4 4)]:List R6).length (Zz ([(R6.mk 0 0 0 4 4 4)]:List R6))) (xw aJ))) nn)))))))))))))) (fun k7=>(lr 87 3 [1,1,1,1,1,1,0] 1 13 [(0,(.bool false))] (sl z3c 37 [] ⟨[],[],[some [0]],[]⟩ ⟨[],[],[]⟩ (trs 14 [false,false,false,false]) (tt k7 (tt k6 (tt k5 (tt k4 (tt k3 (tt k2 (tt k1 (pp (pp (xI R6 (Zr (cvT ([(R6.mk 1 1 1 3 3 3)]:List R6)) 2).length (Zz (Zr (cvT ([(R6.mk 1 1 1 3 3 3)]:List R6)) 2))) (pp (xI R6 ([(R6.mk 0 0 0 4 4 4)]:List R6).length (Zz ([(R6.mk 0 0 0 4 4 4)]:List R6))) (xw aJ))) nn))))))))))))) (fun k6=>(lr 87 3 [1,1,1,1,1,1,0] 1 13 [(0,(.bool false))] (sl z3c 37 [] ⟨[],[],[some [0]],[]⟩ ⟨[],[],[]⟩ (trs 12 [false,false,false,false,false,false]) (tt k6 (tt k5 (tt k4 (tt k3 (tt k2 (tt k1 (pp (pp (xI R6 (Zr (cvT ([(R6.mk 1 1 1 3 3 3)]:List R6)) 2).length (Zz (Zr (cvT ([(R6.mk 1 1 1 3 3 3)]:List R6)) 2))) (pp (xI R6 ([(R6.mk 0 0 0 4 4 4)]:List R6).length (Zz ([(R6.mk 0 0 0 4 4 4)]:List R6))) (xw aJ))) nn)))))))))))) (fun k5=>(lr 87 3 [1,1,1,1,1,1,0] 1 13 [(0,(.bool false))] (sl z3c 37 [] ⟨[],[],[some [0]],[]⟩ ⟨[],[],[]⟩ (trs 10 [false,false,false,false,false,false,false,false]) (tt k5 (tt k4 (tt k3 (tt k2 (tt k1 (pp (pp (xI R6 (Zr (cvT ([(R6.mk 1 1 1 3 3 3)]:List R6)) 2).length (Zz (Zr (cvT ([(R6.mk 1 1 1 3 3 3)]:List R6)) 2))) (pp (xI R6 ([(R6.mk 0 0 0 4 4 4)]:List R6).length (Zz ([(R6.mk 0 0 0 4 4 4)]:List R6))) (xw aJ))) nn))))))))))) (fun k4=>(lr 87 3 [1,1,1,1,1,1,0] 1 13 [(0,(.bool false))] (sl z3c 37 [] ⟨[],[],[some [0]],[]⟩ ⟨[],[],[]⟩ (trs 8 [false,false,false,false,false,false,false,false,false,false]) (tt k4 (tt k3 (tt k2 (tt k1 (pp (pp (xI R6 (Zr (cvT ([(R6.mk 1 1 1 3 3 3)]:List R6)) 2).length (Zz (Zr (cvT ([(R6.mk 1 1 1 3 3 3)]:List R6)) 2))) (pp (xI R6 ([(R6.mk 0 0 0 4 4 4)]:List R6).length (Zz ([(R6.mk 0 0 0 4 4 4)]:List R6))) (xw aJ))) nn)))))))))) (fun k3=>(lr 87 3 [1,1,1,1,1,1,0] 1 13 [(0,(.bool false))] (sl z3c 37 [] ⟨[],[],[some [0]],[]⟩ ⟨[],[],[]⟩ (trs 6 [false,false,false,false,false,false,false,false,false,false,false,false]) (tt k3 (tt k2 (tt k1 (pp (pp (xI R6 (Zr (cvT ([(R6.mk 1 1 1 3 3 3)]:List R6)) 2).length (Zz (Zr (cvT ([(R6.mk 1 1 1 3 3 3)]:List R6)) 2))) (pp (xI R6 ([(R6.mk 0 0 0 4 4 4)]:List R6).length (Zz ([(R6.mk 0 0 0 4 4 4)]:List R6))) (xw aJ))) nn))))))))) (fun k2=>(lr 87 3 [1,1,1,1,1,1,0] 1 13 [(0,(.bool false))] (sl z3c 37 [] ⟨[],[],[some [0]],[]⟩ ⟨[],[],[]⟩ (trs 3 [false,false,false,false,false,false,false,false,false,false,false,false,false,false,false]) (tt k2 (tt k1 (pp (pp (xI R6 (Zr (cvT ([(R6.mk 1 1 1 3 3 3)]:List R6)) 2).length (Zz (Zr (cvT ([(R6.mk 1 1 1 3 3 3)]:List R6)) 2))) (pp (xI R6 ([(R6.mk 0 0 0 4 4 4)]:List R6).length (Zz ([(R6.mk 0 0 0 4 4 4)]:List R6))) (xw aJ))) nn)))))))) (fun k1=>(lr 87 3 [1,1,1,1,1,1,0] 1 13 [(0,(.bool false))] (sl z3c 37 [] ⟨[],[],[some [0]],[]⟩ ⟨[],[],[]⟩ [true,false,false,false,false,false,false,false,false,false,false,false,false,false,false,false,false,false] (tt k1 (pp (pp (xI R6 (Zr (cvT ([(R6.mk 1 1 1 3 3 3)]:List R6)) 2).length (Zz (Zr (cvT ([(R6.mk 1 1 1 3 3 3)]:List R6)) 2))) (pp (xI R6 ([(R6.mk 0 0 0 4 4 4)]:List R6).length (Zz ([(R6.mk 0 0 0 4 4 4)]:List R6))) (xw aJ))) nn))))))))) (fun k0=>(lr 87 3 [1,1,1,1,1,1,0] 1 13 [(0,(.bool false))] (sl z3c 52 [] ⟨[],[],[some [0]],[]⟩ ⟨[],[],[]⟩ [false,false,false,false,false,false,false,false,false,false,false,false,false,false,false,false,false,false,false,false,false] (tt k0 (pp (pp (xI R6 ([(R6.mk 0 0 0 1 1 1)]:List R6).length (Zz ([(R6.mk 0 0 0 1 1 1)]:List R6))) (pp (xI R6 ([(R6.mk 0 0 0 5 1 1)]:List R6).length (Zz ([(R6.mk 0 0 0 5 1 1)]:List R6))) (xw bO))) nn))))))))))))))
theorem v2n (n:Nat) (vs:List AVal) (h:Yj (x1h) n (z8g)=.ret vs):Kg prog (Zy prog 41) (Zi prog 41 [] true []) vs:=by have:=Yw (x8z) n _ (x4e);rwa [h] at this
inductive fitS where
def fitC (l0:List R6):fitS→Cfg
 :=nofun
def x7w (l0:List R6):fitS→Xe fitS
 :=nofun
def y2i (l0:List R6):Xe fitS:=(bif (decide ((l0.length:Int)≤6)) then (bif (z4v (cvT l0)) then (bif (x6x (cvT l0)) then (bif (y3n (cvT l0)) then (.ret [(.bool ((z7f (cvT l0)) == 0))]) else .stuck) else (.ret [(.bool false)])) else .stuck) else (.ret [(.bool false)]))
theorem w4n (l0:List R6): ∀s,Xr prog (Zy prog 42) (fitC l0) (fitC l0 s) (x7w l0 s)
 :=nofun
theorem x7x (l0:List R6):Xr prog (Zy prog 42) (fitC l0) (Zi prog 42 [(.dat l0.length (Zz l0))] true []) (y2i l0):=(lb (fun k0=>(lo fun aJ=>(lb (fun k1=>(lo fun o0=>(lr 15 3 [1,1,1,1,1,1,0] 1 15 [(2,(.bool ((z7f (cvT l0)) == 0)))] (sl z3c 20 [] ⟨[],[],[some [2]],[]⟩ ⟨[],[],[]⟩ (trs 5 []) (pp (pp (xr l0) (xw o0)) (tt k1 (pp (pp (xr l0) (xw aJ)) (tt k0 nn)))))))) (fun k1=>(lr 15 3 [1,1,1,1,1,1,0] 1 15 [(2,(.bool false))] (sl z3c 20 [] ⟨[],[],[some [2]],[]⟩ ⟨[],[],[]⟩ [true,true,false,false,false] (tt k1 (pp (pp (xr l0) (xw aJ)) (tt k0 nn))))))))) (fun k0=>(lr 15 3 [1,1,1,1,1,1,0] 1 15 [(2,(.bool false))] (sl z3c 20 [] ⟨[],[],[some [2]],[]⟩ ⟨[],[],[]⟩ [false,false,false,false,false] (tt k0 nn)))))
theorem v7n (l0:List R6) (n:Nat) (vs:List AVal) (h:Yj (x7w l0) n (y2i l0)=.ret vs):Kg prog (Zy prog 42) (Zi prog 42 [(.dat l0.length (Zz l0))] true []) vs:=by have:=Yw (w4n l0) n _ (x7x l0);rwa [h] at this
end Go.Am
namespace Go.Am
open Go.Proofs Go.Sort Go.Shelf Go.RowKit Go.Lib
def x1r :Sem R2 Int where
 can:=Can
 inB s y:=s.a≤y∧y<s.b
 uniq:=v2e
 some s hs hn:=by
  cases s with
  | nil=>exact absurd rfl hn
  | cons r l=>exact ⟨r.a,r,by simp,Int.le_refl _,hs.pos r (by simp)⟩
 nil:=.nil
def Ji :Sem R4 (Int×Int):=Dim.sem z9u x1r
def z3f :Sem R6 (Int×Int×Int):=Dim.sem z4h Ji
namespace Dim
variable {α β:Type} {D:Dim α β}
theorem inn_slab (l m:List α) (hl: ∀r∈m,r∈l) {j:Nat} (hj:j+1<(D.cuts l).length) {x:Int} (h1:rd (D.cuts l) j≤x) (h2:x<rd (D.cuts l) (j+1)):D.inn m (rd (D.cuts l) j)=D.inn m x:=by
 have hc:(D.cuts l).Pairwise (· < ·):=by show (Us (D.ends l)).Pairwise (· < ·);rw [Jj];exact (Wc _).1
 have gF: ∀r∈m,D.lo r∈D.cuts l∧D.hi r∈D.cuts l:=fun r hr=>by show D.lo r∈Us (D.ends l)∧D.hi r∈Us (D.ends l);rw [Jj,(Wc _).2,(Wc _).2];exact ⟨List.mem_flatMap.2 ⟨r,hl r hr,by simp⟩,List.mem_flatMap.2 ⟨r,hl r hr,by simp⟩⟩
 have side: ∀c,c∈D.cuts l→(c≤rd (D.cuts l) j↔c≤x):=fun c hcm=>by
  obtain ⟨i,hi,rfl⟩:=List.getElem_of_mem hcm;rw [←Yt hi];rcases Nat.lt_or_ge j i with h | h
  ·have:rd (D.cuts l) (j+1)≤rd (D.cuts l) i:=by
    rcases Nat.eq_or_lt_of_le (show j+1≤i from h) with e | e
    ·rw [e];exact Int.le_refl _
    ·exact Int.le_of_lt (z3a hc e hi)
   have:=z3a hc (Nat.lt_succ_self j) hj;constructor <;> intro <;> omega
  ·have:rd (D.cuts l) i≤rd (D.cuts l) j:=by
    rcases Nat.eq_or_lt_of_le h with e | e
    ·rw [e];exact Int.le_refl _
    ·exact Int.le_of_lt (z3a hc e (by omega))
   constructor <;> intro <;> omega
 unfold inn
 congr 1
 refine List.filter_congr fun r hr=> ?_;obtain ⟨m1,m2⟩:=gF r hr;have s1:=side _ m1;have s2:=side _ m2;have e1:decide (D.lo r≤rd (D.cuts l) j)=decide (D.lo r≤x):=decide_eq_decide.2 s1;have e2:decide (rd (D.cuts l) j<D.hi r)=decide (x<D.hi r):=decide_eq_decide.2 (by constructor <;> intro <;> omega);rw [e1,e2]
theorem inn_out (l m:List α) (hl: ∀r∈m,r∈l) {x:Int} (h: ∀j,j+1<(D.cuts l).length → ¬(rd (D.cuts l) j≤x∧x<rd (D.cuts l) (j+1))):D.inn m x=[]:=by
 unfold inn;rw [List.map_eq_nil_iff,List.filter_eq_nil_iff];intro r hr hb;simp only [Bool.and_eq_true,decide_eq_true_eq] at hb;have gF:D.lo r∈D.cuts l∧D.hi r∈D.cuts l:=by show D.lo r∈Us (D.ends l)∧D.hi r∈Us (D.ends l);rw [Jj,(Wc _).2,(Wc _).2];exact ⟨List.mem_flatMap.2 ⟨r,hl r hr,by simp⟩,List.mem_flatMap.2 ⟨r,hl r hr,by simp⟩⟩
 have hc:(D.cuts l).Pairwise (· < ·):=by show (Us (D.ends l)).Pairwise (· < ·);rw [Jj];exact (Wc _).1
 obtain ⟨i,hi,e1⟩:=List.getElem_of_mem gF.1;obtain ⟨k,hk,e2⟩:=List.getElem_of_mem gF.2;rw [←Yt hi] at e1;rw [←Yt hk] at e2;have h0:rd (D.cuts l) 0≤rd (D.cuts l) i:=by
  rcases Nat.eq_or_lt_of_le (Nat.zero_le i) with e | e
  ·rw [←e];exact Int.le_refl _
  ·exact Int.le_of_lt (z3a hc e hi)
 obtain ⟨j,j1,j2,j3⟩:=x1c k hk x (by omega) (by omega);exact h j (by omega) ⟨j2,j3⟩
theorem goJ_can (hD:D.Fair) (hs: ∀a b,D.same a b=true↔a=b) {γ:Type} (M:Sem β γ) (a b:List α) (J:List β→List β→List β) (hJ: ∀x,M.can (J (D.inn a x) (D.inn b x))) (h0:J [] []=[]):
  (D.sem hD M).can (D.goS (fun x=>J (D.inn a x) (D.inn b x)) (D.cuts (a++b)) ((D.cuts (a++b)).length - 1) 0 ⟨[],[],0,0⟩).out ∧
  ∀x q,ptL (D.sem hD M).inB (D.goS (fun x=>J (D.inn a x) (D.inn b x)) (D.cuts (a++b)) ((D.cuts (a++b)).length - 1) 0 ⟨[],[],0,0⟩).out (x,q)↔ptL M.inB (J (D.inn a x) (D.inn b x)) q:=by
 have hc:(D.cuts (a++b)).Pairwise (· < ·):=by show (Us (D.ends (a++b))).Pairwise (· < ·);rw [Jj];exact (Wc _).1
 obtain ⟨h1,h2⟩:=goS_can hD hs M (cs:=D.cuts (a++b)) hc hJ;refine ⟨h1,fun x q=> ?_⟩;rw [h2];constructor
 ·rintro ⟨j,j1,j2,j3,j4⟩;rwa [inn_slab (a++b) a (fun r hr=>List.mem_append.2 (.inl hr)) j1 j2 j3,inn_slab (a++b) b (fun r hr=>List.mem_append.2 (.inr hr)) j1 j2 j3] at j4
 ·intro hp;by_cases hx: ∃j,j+1<(D.cuts (a++b)).length ∧rd (D.cuts (a++b)) j≤x∧x<rd (D.cuts (a++b)) (j+1)
  ·obtain ⟨j,j1,j2,j3⟩:=hx;refine ⟨j,j1,j2,j3,?_⟩;rwa [inn_slab (a++b) a (fun r hr=>List.mem_append.2 (.inl hr)) j1 j2 j3,inn_slab (a++b) b (fun r hr=>List.mem_append.2 (.inr hr)) j1 j2 j3]
  ·have hx': ∀j,j+1<(D.cuts (a++b)).length → ¬(rd (D.cuts (a++b)) j≤x∧x<rd (D.cuts (a++b)) (j+1)):=fun j j1 j2=>hx ⟨j,j1,j2⟩;rw [inn_out (a++b) a (fun r hr=>List.mem_append.2 (.inl hr)) hx',inn_out (a++b) b (fun r hr=>List.mem_append.2 (.inr hr)) hx',h0] at hp;exact absurd hp (y3o _ _)
theorem pt_inn {γ:Type} (inB:β→γ→Prop) (l:List α) (x:Int) (q:γ):ptL inB (D.inn l x) q↔ptL (D.inA inB) l (x,q):=by
 constructor
 ·rintro ⟨b,hb,h⟩;obtain ⟨r,hr,rfl⟩:=List.mem_map.1 hb;obtain ⟨h1,h2⟩:=List.mem_filter.1 hr;simp only [Bool.and_eq_true,decide_eq_true_eq] at h2;exact ⟨r,h1,h2.1,h2.2,h⟩
 ·rintro ⟨r,hr,h1,h2,h3⟩;refine ⟨D.pr r,List.mem_map.2 ⟨r,List.mem_filter.2 ⟨hr,?_⟩,rfl⟩,h3⟩;simp only [Bool.and_eq_true,decide_eq_true_eq];exact ⟨h1,h2⟩
theorem out_goJ (l:List α):D.out l=(D.goS (fun x=>D.mak (D.inn l x)) (D.cuts (l++[])) ((D.cuts (l++[])).length - 1) 0 ⟨[],[],0,0⟩).out :=by rw [List.append_nil];unfold out;rw [go_goS];rfl
end Dim
theorem z6r (a b:List R4):D6.same a b=true↔a=b:=decide_eq_true_iff
theorem y3f (a b:List R2):D4.same a b=true↔a=b:=decide_eq_true_iff
theorem z4y {l:List R4} (h: ∀r∈l,Kv r=true) (x:Int):(D4.inn l x).all z1c=true:=List.all_eq_true.2 fun s hs=>by obtain ⟨r,hr,_,_,rfl⟩:=x0p hs;have:=h r hr;simp only [Kv,z1c,Bool.and_eq_true,decide_eq_true_eq] at this ⊢;omega
theorem w6h {l:List R2} (hv:l.all z1c=true) (hl:l.length≤400):x1r.can (Xf l)∧ ∀y,ptL x1r.inB (Xf l) y↔ptL x1r.inB l y:=by
 obtain ⟨c1,c2⟩:=x5e l hv;have e:Xf l=swV l:=by unfold Xf;rw [decide_eq_false (by omega),hv];rfl
 rw [e];exact ⟨c1,c2⟩
theorem z1k {β γ:Type} (M:Sem β γ) {l:List β} (h:M.can l) (hp: ∀q,¬ptL M.inB l q):l=[]:=Classical.byContradiction fun hn=>by obtain ⟨q,hq⟩:=M.some l h hn;exact hp q hq
theorem u5o :Xf []=[]:=by obtain ⟨h1,h2⟩:=w6h (l:=[]) rfl (Nat.zero_le _);exact z1k x1r h1 fun q hq=>y3o _ _ ((h2 q).1 hq)
theorem Dim.out_nil {α β:Type} (D:Dim α β):D.out []=[]:=by
 have h:(D.cuts []).length ≤2*0:=D.cuts_length [];have e:(D.cuts []).length - 1=0:=by omega
 unfold Dim.out;rw [e];rfl
theorem u7e :Zm []=[]:=by unfold Zm;rw [Dim.out_nil];cases decide (400<([]:List R4).length) <;> cases ([]:List R4).all Kv <;> rfl
theorem z5y {l:List R4} (hv: ∀r∈l,Kv r=true) (hl:l.length≤400):Ji.can (D4.out l)∧ ∀p,ptL Ji.inB (D4.out l) p↔ptL Ji.inB l p:=by rw [Dim.out_goJ];have hs: ∀x,x1r.can (D4.mak (D4.inn l x))∧ ∀y,ptL x1r.inB (D4.mak (D4.inn l x)) y↔ptL x1r.inB (D4.inn l x) y:=fun x=>w6h (z4y hv x) (Nat.le_trans (D4.inn_length l x) hl);obtain ⟨h1,h2⟩:=Dim.goJ_can z9u y3f x1r l [] (fun s _=>D4.mak s) (fun x=>(hs x).1) u5o;refine ⟨h1,fun ⟨x,y⟩=> ?_⟩;rw [show ptL Ji.inB _ (x,y)↔_ from h2 x y,(hs x).2,Dim.pt_inn];rfl
theorem z9l {l:List R6} (hv: ∀r∈l,Ut r=true) (z:Int): ∀r∈D6.inn l z,Kv r=true:=fun r hr=>by
 obtain ⟨s,hs,rfl⟩:=List.mem_map.1 hr;have:=Xy (hv s (List.mem_filter.1 hs).1);show Kv ⟨s.a,s.b,s.d,s.e⟩=true;simp only [Kv,Bool.and_eq_true,decide_eq_true_eq]
 (repeat' apply And.intro) <;> omega
def Secs (l:List R6):Prop:= ∀z,(D4.out (D6.inn l z)).length ≤400
theorem z7b {l:List R4} (hv: ∀r∈l,Kv r=true) (hl:l.length≤400) (h:(D4.out l).length ≤400):Zm l=D4.out l∧Yn l=0:=by have hv':l.all Kv=true:=List.all_eq_true.2 hv;unfold Zm Yn;rw [decide_eq_false (by omega),hv',decide_eq_false (by omega)];exact ⟨rfl,rfl⟩
theorem u5r {l:List R6} (hv: ∀r∈l,Ut r=true) (hl:l.length≤400) (hs:Secs l):z3f.can (D6.out l)∧ ∀p,ptL z3f.inB (D6.out l) p↔ptL z3f.inB l p:=by
 rw [Dim.out_goJ];have hq: ∀z,Ji.can (D6.mak (D6.inn l z))∧ ∀p,ptL Ji.inB (D6.mak (D6.inn l z)) p↔ptL Ji.inB (D6.inn l z) p:=fun z=>by show Ji.can (Zm (D6.inn l z))∧ ∀p,ptL Ji.inB (Zm (D6.inn l z)) p↔_;rw [(z7b (z9l hv z) (Nat.le_trans (D6.inn_length l z) hl) (hs z)).1];exact z5y (z9l hv z) (Nat.le_trans (D6.inn_length l z) hl)
 obtain ⟨h1,h2⟩:=Dim.goJ_can z4h z6r Ji l [] (fun s _=>D6.mak s) (fun x=>(hq x).1) u7e;refine ⟨h1,fun ⟨z,p⟩=> ?_⟩;rw [show ptL z3f.inB _ (z,p)↔_ from h2 z p,(hq z).2,Dim.pt_inn];rfl
end Go.Am
namespace Go.Am
open Go.Proofs Go.Sort Go.Shelf Go.RowKit Go.Lib
def ind (a b t:Int):Int:=if a≤t∧t<b then 1 else 0
def ptsN (lo:Int) (n:Nat):List Int:=(List.range n).map fun (k:Nat)=>lo+(k:Int)
theorem v0t (a b lo:Int): ∀n:Nat,sm (ptsN lo n) (ind a b)=ovl a b lo (lo+n)
 | 0=>by show (0:Int)=_;unfold ovl;omega
 | n+1=>by unfold ptsN;rw [List.range_succ,List.map_append,w6s];have:=v0t a b lo n;unfold ptsN at this;rw [this,List.map_cons,List.map_nil,Um,y3c];unfold ind ovl;split <;> omega
theorem x7m (a b c d t:Int):ind a b t*ind c d t=ind (max a c) (min b d) t:=by
 unfold ind;by_cases h1:a≤t∧t<b
 ·by_cases h2:c≤t∧t<d
  ·rw [if_pos h1,if_pos h2,if_pos (by omega)];rfl
  ·rw [if_pos h1,if_neg h2,if_neg (by omega)];rfl
 ·rw [if_neg h1,Int.zero_mul,if_neg (by omega)]
theorem z9c (a b t:Int):0≤ind a b t:=by unfold ind;split <;> omega
theorem ind_le (a b t:Int):ind a b t≤1:=by unfold ind;split <;> omega
def Pts (p:List Int):Prop:=(∀a b,-1000005≤a∧b≤1000005→sm p (ind a b)=max 0 (b - a))∧p.length=2000010
theorem w9f : ∃p,Pts p:=by refine ⟨ptsN (-1000005) 2000010,fun a b h=> ?_,by simp only [ptsN,List.length_map,List.length_range]⟩;rw [v0t];show ovl a b (-1000005) (-1000005+2000010)=_;unfold ovl;omega
def S3 (p:List Int) (f:Int→Int→Int→Int):Int:=sm p fun x=>sm p fun y=>sm p fun z=>f x y z
theorem j1o {p:List Int} {α:Type} (l:List α) (f:α→Int→Int→Int→Int):S3 p (fun x y z=>sm l fun a=>f a x y z)=sm l fun a=>S3 p (f a):=by unfold S3;rw [x5m l p];refine Uf fun x _=> ?_;rw [x5m l p];exact Uf fun y _=>x5m _ _ _
theorem S3_sub {p:List Int} (f g:Int→Int→Int→Int):S3 p (fun x y z=>f x y z - g x y z)=S3 p f - S3 p g:=by unfold S3;simp only [sm_sub]
theorem v2y {p:List Int} {f g:Int→Int→Int→Int} (h: ∀x y z,f x y z≤g x y z):S3 p f≤S3 p g:=
 y9n fun x _=>y9n fun y _=>y9n fun z _=>h x y z
theorem v2w {p:List Int} {f:Int→Int→Int→Int} (h: ∀x y z,0≤f x y z):0≤S3 p f:=
 Up fun x _=>Up fun y _=>Up fun z _=>h x y z
theorem v2x {p:List Int} (f g h:Int→Int):S3 p (fun x y z=>f x*g y*h z)=sm p f*sm p g*sm p h:=by unfold S3;simp only [w6q,Int.mul_assoc];rw [←w6r];refine Uf fun x _=> ?_;rw [←w6r]
theorem S3_one {p:List Int} (hp:Pts p):S3 p (fun _ _ _=>1)≤8000120000600001000:=by
 have h:sm p (fun _=>1)≤(p.length:Int)*1:=sm_le fun _ _=>Int.le_refl _;have hl:=hp.2;have h0:0≤sm p (fun _=>1):=Up fun _ _=>by omega
 have e:S3 p (fun _ _ _=>1)=sm p (fun _=>1)*sm p (fun _=>1)*sm p (fun _=>1):=v2x (fun _=>1) (fun _=>1) (fun _=>1);rw [e];have h1:sm p (fun _=>1)≤2000010:=by omega
 have h2:=Int.mul_le_mul (Int.mul_le_mul h1 h1 h0 (by omega)) h1 h0 (by omega);have h3:(2000010:Int)*2000010*2000010=8000120000600001000:=by decide
 rw [h3] at h2;exact h2
def inR (r:R6) (x y z:Int):Int:=ind r.a r.d x*ind r.b r.e y*ind r.c r.f z
theorem y8l (r:R6) (x y z:Int):0≤inR r x y z:=Int.mul_nonneg (Int.mul_nonneg (z9c ..) (z9c ..)) (z9c ..)
theorem w1m (r:R6) (x y z:Int):inR r x y z=if (r.a≤x∧x<r.d)∧(r.b≤y∧y<r.e)∧(r.c≤z∧z<r.f) then 1 else 0:=by unfold inR ind;by_cases h1:r.a≤x∧x<r.d <;> by_cases h2:r.b≤y∧y<r.e <;> by_cases h3:r.c≤z∧z<r.f <;> simp [h1,h2,h3]
def w9u (r:R6):Prop:= -1000002≤r.a∧r.d≤1000002∧ -1000002≤r.b∧r.e≤1000002∧ -1000002≤r.c∧r.f≤1000002
theorem ov_S3 {p:List Int} (hp:Pts p) (r s:R6) (hr:w9u r):S3 p (fun x y z=>inR r x y z*inR s x y z)=ov r s:=by
 obtain ⟨h1,h2,h3,h4,h5,h6⟩:=hr;have e:(fun x y z=>inR r x y z*inR s x y z)=fun x y z=>ind (max r.a s.a) (min r.d s.d) x*ind (max r.b s.b) (min r.e s.e) y*ind (max r.c s.c) (min r.f s.f) z:=by
  funext x y z
  rw [←x7m,←x7m,←x7m];unfold inR;simp only [Int.mul_comm,Int.mul_left_comm,Int.mul_assoc]
 rw [e,v2x,hp.1 _ _ (by omega),hp.1 _ _ (by omega),hp.1 _ _ (by omega)];rfl
def cnt (X:List R6) (x y z:Int):Int:=sm X fun r=>inR r x y z
theorem z5e (X:List R6) (x y z:Int):0≤cnt X x y z:=Up fun r _=>y8l r x y z
theorem x3z : ∀(X:List R6),X.Pairwise Ap6→ ∀x y z,cnt X x y z≤1
 | [],_,x,y,z=>by show (0:Int)≤1;omega
 | r::X,h,x,y,z=>by
  obtain ⟨h1,h2⟩:=List.pairwise_cons.1 h;have ih:=x3z X h2 x y z;have e:cnt (r::X) x y z=inR r x y z+cnt X x y z:=Um _ _ _;rw [e,w1m];split
  ·rename_i hp;have:cnt X x y z=0:=by
    have:cnt X x y z=sm X fun _=>0:=Uf fun s hs=>by rw [w1m];refine if_neg fun hq=> ?_;have:=h1 s hs;unfold Ap6 at this;omega
    rw [this,z3i]
   omega
  ·omega
theorem S2_S3 {p:List Int} (hp:Pts p) (X Y:List R6) (hX: ∀r∈X,w9u r):S2 X Y=S3 p fun x y z=>cnt X x y z*cnt Y x y z:=by
 have e:(fun x y z=>cnt X x y z*cnt Y x y z)=fun x y z=>sm X fun r=>sm Y fun s=>inR r x y z*inR s x y z:=by
  funext x y z
  unfold cnt;rw [←w6r];exact Uf fun r _=>(w6q _ _ _).symm
 rw [e,j1o];unfold S2;refine Uf fun r hr=> ?_;rw [j1o];exact Uf fun s _=>(ov_S3 hp r s (hX r hr)).symm
theorem v2z (X Y:List R6):0≤S2 X Y:=Up fun r _=>Up fun s _=>w9i r s
theorem v6a {r:R6} (h:Ut r=true):w9u r:=by have:=Xy h;unfold w9u;omega
end Go.Am
namespace Go.Am
open Go.Proofs Go.Sort Go.Shelf Go.RowKit Go.Lib
theorem sm_pos {α:Type} {l:List α} {f:α→Int} (h:sm l f≠0): ∃x∈l,f x≠0:=Classical.byContradiction fun hn=>h (by
 have:sm l f=sm l fun _=>0:=Uf fun x hx=>Classical.byContradiction fun e=>hn ⟨x,hx,e⟩;rw [this,z3i])
theorem x6q {p:List Int} (hp:Pts p) {t:Int} (h: -1000005≤t∧t<1000005):t∈p:=by
 have h1:=hp.1 t (t+1) (by omega);have h2:sm p (ind t (t+1))≠0:=by rw [h1];omega
 obtain ⟨x,hx,hn⟩:=sm_pos h2;unfold ind at hn;split at hn
 ·have:x=t:=by omega
  rwa [←this]
 ·exact absurd rfl hn
def inS (X:List R6) (x y z:Int):Prop:= ∃r∈X,(r.a≤x∧x<r.d)∧(r.b≤y∧y<r.e)∧(r.c≤z∧z<r.f)
theorem z3y (X:List R6) (x y z:Int):inS X x y z↔ptL z3f.inB X (z,x,y):=by
 constructor
 ·rintro ⟨r,hr,h1,h2,h3⟩;exact ⟨r,hr,h3.1,h3.2,h1.1,h1.2,h2.1,h2.2⟩
 ·rintro ⟨r,hr,h1,h2,h3,h4,h5,h6⟩;exact ⟨r,hr,⟨h3,h4⟩,⟨h5,h6⟩,h1,h2⟩
theorem x4a (X:List R6) (hX:X.Pairwise Ap6) (x y z:Int):(inS X x y z→cnt X x y z=1)∧(¬inS X x y z→cnt X x y z=0):=by
 have h0:=z5e X x y z;have h1:=x3z X hX x y z;constructor
 ·rintro ⟨r,hr,hp⟩;have:cnt X x y z≠0:=fun e=>by have:=z4j (fun r _=>y8l r x y z) e r hr;rw [w1m,if_pos hp] at this;cases this
  omega
 ·intro hn;have:cnt X x y z=sm X fun _=>0:=Uf fun r hr=>by rw [w1m];exact if_neg fun hp=>hn ⟨r,hr,hp⟩
  rw [this,z3i]
structure Sol (X:List R6):Prop where
 len:X.length≤400
 val: ∀r∈X,Ut r=true
 ap:X.Pairwise Ap6
theorem Sol.of {X:List R6} (h:Zf X=0):Sol X:=⟨(Jw h).1,(Jw h).2.1,(Jw h).2.2.2⟩
theorem Sol.near {X:List R6} (h:Sol X): ∀r∈X,w9u r:=fun r hr=>v6a (h.val r hr)
theorem Sol.bnd {X:List R6} (h:Sol X) {x y z:Int} (hp:inS X x y z):(-1000000≤x∧x<1000000)∧(-1000000≤y∧y<1000000)∧(-1000000≤z∧z<1000000):=by obtain ⟨r,hr,h1,h2,h3⟩:=hp;have:=Xy (h.val r hr);omega
theorem bx_S3 {p:List Int} (hp:Pts p) (r:R6) (hr:Ut r=true):S3 p (inR r)=bxV r:=by have hv:=Xy hr;show S3 p (fun x y z=>ind r.a r.d x*ind r.b r.e y*ind r.c r.f z)=_;rw [v2x,hp.1 _ _ (by omega),hp.1 _ _ (by omega),hp.1 _ _ (by omega)];unfold bxV;rw [show max 0 (r.d - r.a)=r.d - r.a by omega,show max 0 (r.e - r.b)=r.e - r.b by omega,show max 0 (r.f - r.c)=r.f - r.c by omega]
theorem w5w {p:List Int} (hp:Pts p) {X:List R6} (h:Sol X):sm X bxV=S3 p (cnt X):=by show _=S3 p (fun x y z=>sm X fun r=>inR r x y z);rw [j1o];exact Uf fun r hr=>(bx_S3 hp r (h.val r hr)).symm
theorem cnt_S3 {p:List Int} (hp:Pts p) {X:List R6} (h:Sol X):0≤S3 p (cnt X)∧S3 p (cnt X)≤8000120000600001000:=
 ⟨v2w fun x y z=>z5e X x y z,Int.le_trans (v2y (g:=fun _ _ _=>1) fun x y z=>x3z X h.ap x y z) (S3_one hp)⟩
theorem w5x {p:List Int} (hp:Pts p) {X:List R6} (h:Sol X):u5c X=S3 p (cnt X):=by have:=cnt_S3 hp h;exact u5a (w5w hp h) (by omega)
theorem v2v {p:List Int} {f:Int→Int→Int→Int} (h0: ∀x y z,0≤f x y z):S3 p f=0↔ ∀x∈p,∀y∈p,∀z∈p,f x y z=0:=by
 constructor
 ·intro h x hx y hy z hz;have h1:=z4j (fun x _=>Up fun y _=>Up fun z _=>h0 x y z) h x hx;have h2:=z4j (fun y _=>Up fun z _=>h0 x y z) h1 y hy;exact z4j (fun z _=>h0 x y z) h2 z hz
 ·intro h;have:S3 p f=sm p fun _=>0:=Uf fun x hx=>by
   have:sm p (fun y=>sm p fun z=>f x y z)=sm p fun _=>0:=Uf fun y hy=>by have:sm p (fun z=>f x y z)=sm p fun _=>0:=Uf fun z hz=>h x hx y hy z hz;rw [this,z3i]
   rw [this,z3i]
  rw [this,z3i]
theorem Sol.pts {p:List Int} (hp:Pts p) {X:List R6} (h:Sol X) {x y z:Int} (hq:inS X x y z):x∈p∧y∈p∧z∈p:=by have:=h.bnd hq;exact ⟨x6q hp (by omega),x6q hp (by omega),x6q hp (by omega)⟩
theorem S2_all {X Y:List R6} (hX:Sol X) (hY:Sol Y):S2 X Y=u5c X↔ ∀x y z,inS X x y z→inS Y x y z:=by
 obtain ⟨p,hp⟩:=w9f;have e:S3 p (cnt X) - S2 X Y=S3 p fun x y z=>cnt X x y z - cnt X x y z*cnt Y x y z:=by rw [S3_sub,←S2_S3 hp X Y hX.near]
 have h0: ∀x y z,0≤cnt X x y z - cnt X x y z*cnt Y x y z:=fun x y z=>by have h1:=z5e X x y z;have h2:=x3z Y hY.ap x y z;have:=Int.mul_le_mul_of_nonneg_left h2 h1;omega
 rw [w5x hp hX];constructor
 ·intro h x y z h1;obtain ⟨q1,q2,q3⟩:=hX.pts hp h1;have h2:=(v2v h0).1 (by rw [←e];omega) x q1 y q2 z q3;rw [(x4a X hX.ap x y z).1 h1] at h2;exact Classical.byContradiction fun h3=>by rw [(x4a Y hY.ap x y z).2 h3] at h2;cases h2
 ·intro h;have:=(v2v (p:=p) h0).2 fun x _ y _ z _=>by
   by_cases h1:inS X x y z
   ·rw [(x4a X hX.ap x y z).1 h1,(x4a Y hY.ap x y z).1 (h x y z h1)];rfl
   ·rw [(x4a X hX.ap x y z).2 h1,Int.zero_mul];rfl
  omega
end Go.Am
namespace Go.Am
open Go.Proofs Go.Sort Go.Shelf Go.RowKit Go.Lib
theorem Dim.goS_cg {α β:Type} (D:Dim α β) (f g:Int→List β) (cs:List Int): ∀(k i:Nat) (s:Sw α β),(∀j,i≤j→j<i+k→f (rd cs j)=g (rd cs j))→D.goS f cs k i s=D.goS g cs k i s
 | 0,i,s,_=>rfl
 | k+1,i,s,h=>by show D.goS f cs k (i+1) (D.oneS (f (rd cs i)) _ _ s)=D.goS g cs k (i+1) (D.oneS (g (rd cs i)) _ _ s);rw [h i (Nat.le_refl _) (by omega)];exact goS_cg D f g cs k (i+1) _ fun j h1 h2=>h j (by omega) (by omega)
theorem y5c {n:Nat} (h:y9c n=0):n≤400:=by
 unfold y9c at h;by_cases q:(n:Int)>400
 ·rw [decide_eq_true q] at h;cases h
 ·omega
theorem w8g {l:List R4} (h:Yn l=0):l.length≤400∧(∀r∈l,Kv r=true)∧Zm l=D4.out l:=by
 unfold Yn at h;cases g1:decide (400<l.length) with
 | true=>rw [g1] at h;cases h
 | false=>
  cases g2:l.all Kv with
  | false=>rw [g1,g2] at h;cases h
  | true=>
   rw [g1,g2,cond_false,cond_true] at h;have hl:l.length≤400:=by have:=of_decide_eq_false g1;omega
   refine ⟨hl,List.all_eq_true.1 g2,?_⟩;exact (z7b (List.all_eq_true.1 g2) hl (y5c h)).1
theorem w0o {l:List R6}: ∀(k i:Nat),okF l k i=true→ ∀j,i≤j→j<i+k→Yn (D6.inn l (rd (D6.cuts l) j))=0
 | 0,i,h,j,h1,h2=>by omega
 | k+1,i,h,j,h1,h2=>by
  unfold okF at h;rcases Yv (w5s l (rd (D6.cuts l) i)) with q | q
  ·rw [q] at h;cases h
  ·rw [q,cond_false] at h;rcases Nat.eq_or_lt_of_le h1 with e | e
   ·rw [←e];unfold w5s at q
    simpa using q
   ·exact w0o k (i+1) h j e (by omega)
theorem x9s {l:List R6} (h:Jr l=0):l.length≤400∧(∀r∈l,Ut r=true)∧okF l ((D6.cuts l).length - 1) 0=true∧(D6.out l).length ≤400:=by
 unfold Jr at h;cases g1:decide (400<l.length) with
 | true=>rw [g1] at h;cases h
 | false=>
  cases g2:l.all Ut with
  | false=>rw [g1,g2] at h;cases h
  | true=>
   rw [g1,g2,cond_false,cond_true] at h;cases g3:okF l ((D6.cuts l).length - 1) 0 with
   | false=>rw [g3,cond_false] at h;have:=j0u _ _ g3;rw [h] at this;cases this
   | true=>rw [g3,cond_true] at h;exact ⟨by have:=of_decide_eq_false g1;omega,List.all_eq_true.1 g2,rfl,y5c h⟩
theorem x5o {l:List R6} (h:Jr l=0):Qi l=D6.out l:=by unfold Qi x4v;rw [h];rfl
theorem w6t {l:List R6} (h:Jr l=0):z3f.can (Qi l)∧ ∀x y z,inS (Qi l) x y z↔inS l x y z:=by
 obtain ⟨hl,hv,hok,ho⟩:=x9s h;have hf:=w0o _ _ hok;rw [x5o h];have hc:(D6.cuts l).Pairwise (· < ·):=by show (Us (D6.ends l)).Pairwise (· < ·);rw [Jj];exact (Wc _).1
 have eS:D6.out l=(D6.goS (fun x=>bif Yn (D6.inn l x) != 0 then [] else Zm (D6.inn l x)) (D6.cuts l) ((D6.cuts l).length - 1) 0 ⟨[],[],0,0⟩).out :=by unfold Dim.out;rw [D6.go_goS,D6.goS_cg (D6.sec l) (fun x=>bif Yn (D6.inn l x) != 0 then [] else Zm (D6.inn l x))];intro j h1 h2;show _=bif Yn (D6.inn l _) != 0 then _ else _;rw [hf j h1 h2];rfl
 have hs: ∀x,Ji.can (bif Yn (D6.inn l x) != 0 then [] else Zm (D6.inn l x)):=fun x=>by
  cases g:(Yn (D6.inn l x) != 0) with
  | true=>exact Ji.nil
  | false=>obtain ⟨m1,m2,m3⟩:=w8g (show Yn (D6.inn l x)=0 by simpa using g);rw [cond_false,m3];exact (z5y m2 m1).1
 obtain ⟨h1,h2⟩:=Dim.goS_can z4h z6r Ji (cs:=D6.cuts l) hc hs;rw [eS];refine ⟨h1,fun x y z=> ?_⟩;rw [z3y,z3y,show ptL z3f.inB _ (z,x,y)↔_ from h2 z (x,y)];have ia: ∀j,j+1<(D6.cuts l).length →rd (D6.cuts l) j≤z→z<rd (D6.cuts l) (j+1)→(ptL Ji.inB (bif Yn (D6.inn l (rd (D6.cuts l) j)) != 0 then [] else Zm (D6.inn l (rd (D6.cuts l) j))) (x,y)↔ptL z3f.inB l (z,x,y)):=fun j j1 j2 j3=>by have q:=hf j (Nat.zero_le _) (by omega);obtain ⟨m1,m2,m3⟩:=w8g q;rw [q,show ((0:Int) != 0)=false from rfl,cond_false,m3,(z5y m2 m1).2,Dim.inn_slab l l (fun r hr=>hr) j1 j2 j3];exact Dim.pt_inn (D:=D6) Ji.inB l z (x,y)
 constructor
 ·rintro ⟨j,j1,j2,j3,j4⟩;exact (ia j j1 j2 j3).1 j4
 ·intro hp;refine Classical.byContradiction fun hn=> ?_;have hx: ∀j,j+1<(D6.cuts l).length → ¬(rd (D6.cuts l) j≤z∧z<rd (D6.cuts l) (j+1)):=fun j j1 j2=>hn ⟨j,j1,j2.1,j2.2,(ia j j1 j2.1 j2.2).2 hp⟩;have g:=(Dim.pt_inn (D:=D6) Ji.inB l z (x,y)).2 hp;rw [Dim.inn_out l l (fun r hr=>hr) hx] at g;exact y3o _ _ g
theorem y1k {L:List R6} (h:Zf L=0):Jr L=0∧Qi L=L:=by
 have hs:=Jw h;have key:Jr L=0:=by
  unfold Zf at h;unfold Jr;cases g1:decide (400<L.length) with
  | true=>rw [g1] at h;cases h
  | false=>
   cases g2:L.all Ut with
   | false=>rw [g1,g2] at h;cases h
   | true=>
    rw [g1,g2,cond_false,cond_true] at h;cases g3:okF L ((D6.cuts L).length - 1) 0 with
    | false=>rw [g3] at h;cases h
    | true=>rw [cond_false,cond_true,cond_true];unfold y9c;rw [←hs.2.2.1,Ys (by have:=hs.1;omega)];rfl
 exact ⟨key,(x5o key).trans hs.2.2.1.symm⟩
theorem w7f {L:List R6} (h:Zf L=0):z3f.can L:=by obtain ⟨h1,h2⟩:=y1k h;have:=(w6t h1).1;rwa [h2] at this
end Go.Am
namespace Go.Am
open Go.Proofs.Tryz
open Go.Proofs Go.Sort Go.Shelf Go.RowKit Go.Lib
theorem w7d {l:List R6} (h:z7f l=0):Zf l=0:=(v9c l).trans h
theorem lA :Zf ([(R6.mk 1 1 1 3 3 3)]:List R6)=0:=w7d (by kernel_rfl)
theorem lB :Zf ([(R6.mk 0 0 0 4 4 4)]:List R6)=0:=w7d (by kernel_rfl)
theorem lC :Zf ([(R6.mk 0 0 0 5 1 1)]:List R6)=0:=w7d (by kernel_rfl)
theorem lE :Zf ([(R6.mk 0 0 0 1 1 1)]:List R6)=0:=w7d (by kernel_rfl)
theorem aO0 :Zr ([(R6.mk 1 1 1 3 3 3)]:List R6) 2=[(R6.mk 0 0 0 4 4 4)]:=by unfold Zr u7w;rw [lA,show ([(R6.mk 1 1 1 3 3 3)]:List R6).map (oB 2)=[(R6.mk 0 0 0 4 4 4)] by kernel_rfl,(y1k lB).2];kernel_rfl
theorem aO1 :Vg ([(R6.mk 1 1 1 3 3 3)]:List R6) 2=0:=by unfold Vg;rw [lA,show ([(R6.mk 1 1 1 3 3 3)]:List R6).map (oB 2)=[(R6.mk 0 0 0 4 4 4)] by kernel_rfl,(y1k lB).1];kernel_rfl
def rnK (lo hi:R6→Int) (n:Int) (L:List R6):List Int:=z1w (rnE lo hi n L)
theorem w0b (lo hi:R6→Int) (n:Int) (L:List R6):rnC lo hi n L=rnK lo hi n L:=Jj _
def colK (L:List R6) (a b e f n:Int):List R2:=v9a L a b e f (rnK R6.b R6.e n L) ((rnK R6.b R6.e n L).length - 1) 0 []
theorem j1c (L:List R6) (a b e f n:Int):z0g L a b e f n=colK L a b e f n:=by unfold z0g colK;rw [w0b]
def layK (L:List R6) (a b n:Int):List R4:=(D4.goX (fun x x'=>colK (crS R6.a R6.d L x x') x x' a b n) (rnK R6.a R6.d n L) ((rnK R6.a R6.d n L).length - 1) 0 ⟨[],[],0,0⟩).out
theorem u8j (L:List R6) (a b n:Int):z1d L a b n=layK L a b n:=by unfold z1d layK;rw [w0b,show u3i L a b n=fun x x'=>colK (crS R6.a R6.d L x x') x x' a b n from funext fun x=>funext fun x'=>j1c _ _ _ _ _ _]
theorem v0s (L:List R6) (n:Int):w1l L n=fun x x'=>layK (crS R6.c R6.f L x x') x x' n:=funext fun x=>funext fun x'=>u8j _ _ _ _
theorem aIO :v3f ([(R6.mk 1 1 1 3 3 3)]:List R6) 2=[]:=by unfold v3f;rw [w0b,v0s];kernel_rfl
theorem aI1 :Ud ([(R6.mk 1 1 1 3 3 3)]:List R6) 2=0:=by unfold Ud;rw [lA,w0b,v0s,aIO];kernel_rfl
theorem aI0 :Xh ([(R6.mk 1 1 1 3 3 3)]:List R6) 2=[]:=by unfold Xh;rw [aI1,aIO];rfl
theorem aD1 :Kz ([(R6.mk 1 1 1 3 3 3)]:List R6) ([(R6.mk 0 0 0 4 4 4)]:List R6)=0:=by unfold Kz eDi;rw [lA,lB];kernel_rfl
theorem aD0 :Je ([(R6.mk 1 1 1 3 3 3)]:List R6) ([(R6.mk 0 0 0 4 4 4)]:List R6)=1:=by unfold Je eDi;rw [lA,lB];kernel_rfl
theorem aR1 :z2v ([(R6.mk 0 0 0 5 1 1)]:List R6) ([(R6.mk 0 0 0 1 1 1)]:List R6)=0:=by unfold z2v eRe;rw [lC,lE];kernel_rfl
theorem aR0 :z1o ([(R6.mk 0 0 0 5 1 1)]:List R6) ([(R6.mk 0 0 0 1 1 1)]:List R6)=4:=by unfold z1o eRe;rw [lC,lE];kernel_rfl
theorem aS1 :z2v ([(R6.mk 0 0 0 1 1 1)]:List R6) ([(R6.mk 0 0 0 5 1 1)]:List R6)=0:=by unfold z2v eRe;rw [lE,lC];kernel_rfl
theorem aS0 :z1o ([(R6.mk 0 0 0 1 1 1)]:List R6) ([(R6.mk 0 0 0 5 1 1)]:List R6)=0:=by unfold z1o eRe;rw [lE,lC];kernel_rfl
theorem v9h : ∃N,Yj x1h N z8g=.ret [.bool true]:=⟨0,by
 unfold z8g;simp only [Zp,show∀l n,Qs l n=true from fun _ _=>rfl,show∀l n,z3x l n=true from fun _ _=>rfl,show∀l m,z4c l m=true from fun _ _=>rfl,show∀l m,Jx l m=true from fun _ _=>rfl,aO0,aO1,aI0,aI1,aD0,aD1,aR0,aR1,aS0,aS1,cond_true];kernel_rfl⟩
def j0m :List AVal→Option (AVal×Bool)
 | []=>some (.bool true,true)
 | _=>none
theorem v7s {S:Specs} (hS:Zq prog S):Zq prog (S.with w0z j0m):=by
 refine z3b hS (by kernel_rfl) fun args v h=> ?_;unfold j0m at h;split at h
 ·simp only [Option.some.injEq,Prod.mk.injEq,and_true] at h;subst h;obtain ⟨N,hN⟩:=v9h;exact ⟨_,_,.nil,rfl,v2n N _ hN,3,rfl⟩
 ·cases h
def x0u (L:List R6):Bool:=decide ((L.length:Int)≤6)&&(x6x L&&(z7f L == 0))
def z7s (L:List R6):Bool:=true
theorem u9h (L:List R6) (h:z7s L=true): ∃N,Yj (x7w L) N (y2i L)=.ret [.bool (x0u L)]:=⟨0,by
 unfold y2i x0u;simp only [Zp,show∀l,z4v l=true from fun _=>rfl,v5i,cond_true];cases decide ((L.length:Int)≤6) <;> cases x6x L <;> rfl⟩
def fFit :List AVal→Option (AVal×Bool)
 | [a0]=>match asL R6 a0 with
  | some (L0,g0,n0)=>some (.bool (x0u L0),isT R6 n0 g0&&(z7s L0))
  | _=>none
 | _=>none
theorem j0e {S:Specs} (hS:Zq prog S):Zq prog (S.with u2o fFit):=by
 refine z3b hS (by kernel_rfl) fun args v h=> ?_;unfold fFit at h;split at h
 ·rename_i a0;split at h
  ·rename_i L0 g0 n0 e0;simp only [Option.some.injEq,Prod.mk.injEq,Bool.and_eq_true] at h;obtain ⟨rfl,ho0,hw⟩:=h;obtain ⟨N,hN⟩:=u9h L0 hw;exact ⟨_,_,(.cons (asL_le e0 ho0) .nil),rfl,v7n L0 N _ hN,3,rfl⟩
  ·cases h
 ·cases h
def Di :Specs:=((Dh.with w0z j0m).with u2o fFit)
theorem v3b :Zq prog Di:=(j0e (v7s z3c))
end Go.Am
namespace Go.Am
open Go.Proofs.Tryz
open Go.Proofs
inductive pikS where
def pikC (l0:List R6) (x1:Int):pikS→Cfg
 :=nofun
def x6s (l0:List R6) (x1:Int):pikS→Xe pikS
 :=nofun
def y1x (l0:List R6) (x1:Int):Xe pikS:=(bif (Wg (cvT l0)) then (bif ((Zf (cvT l0)) != 0) then (.ret [.nils,(.int .i64 (Zf (cvT l0)))]) else (bif (decide (x1<0)) then (.ret [.nils,(.int .i64 2)]) else (bif (decide (x1>9)) then (.ret [.nils,(.int .i64 2)]) else (bif (!decide (x1<0)) then (bif (Qs (cvT l0) (IntKind.wrap .i64 ((1:Int)*2 ^ (min x1.toNat 64)))) then (.ret [(.dat (Zr (cvT l0) (IntKind.wrap .i64 ((1:Int)*2 ^ (min x1.toNat 64)))).length (Zz (Zr (cvT l0) (IntKind.wrap .i64 ((1:Int)*2 ^ (min x1.toNat 64)))))),(.int .i64 (Vg (cvT l0) (IntKind.wrap .i64 ((1:Int)*2 ^ (min x1.toNat 64)))))]) else .stuck) else .stuck)))) else .stuck)
theorem w3q (l0:List R6) (x1:Int): ∀s,Xr prog (Zy prog 38) (pikC l0 x1) (pikC l0 x1 s) (x6s l0 x1 s)
 :=nofun
theorem x6t (l0:List R6) (x1:Int):Xr prog (Zy prog 38) (pikC l0 x1) (Zi prog 38 [(.dat l0.length (Zz l0)),(.int .i64 x1)] true []) (y1x l0 x1):=(lo fun bO=>(lb (fun k0=>(lr 24 38 [1,0,1,1,0,0] 1 16 [(4,.nils),(5,(ii (Zf (cvT l0))))] (sl v3b 24 [] ⟨[],[],[some [4,5]],[]⟩ ⟨[],[],[]⟩ [true] (tt k0 (pp (pp (xr l0) (xw bO)) nn))))) (fun k0=>(lb (fun k1=>(lr 24 38 [1,1,0,1,0,0] 1 16 [(4,.nils),(5,(ii 2))] (sl v3b 35 [] ⟨[],[],[some [4,5]],[]⟩ ⟨[],[],[]⟩ [false,true,true,true] (tt k1 (tt k0 (pp (pp (xr l0) (xw bO)) nn)))))) (fun k1=>(lb (fun k2=>(lr 24 38 [1,1,0,1,0,0] 1 16 [(4,.nils),(5,(ii 2))] (sl v3b 35 [] ⟨[],[],[some [4,5]],[]⟩ ⟨[],[],[]⟩ [false,false,false,true] (tt k2 (tt k1 (tt k0 (pp (pp (xr l0) (xw bO)) nn))))))) (fun k2=>(lo fun o0=>(lo fun o1=>(lr 24 3 [1,1,1,1,1,1,0] 1 16 [(4,(.dat (Zr (cvT l0) (wr ((1:Int)*2 ^ (min (tn x1) 64)))).length (Zz (Zr (cvT l0) (wr ((1:Int)*2 ^ (min (tn x1) 64))))))),(5,(ii (Vg (cvT l0) (wr ((1:Int)*2 ^ (min (tn x1) 64))))))] (sl v3b 42 [] ⟨[],[],[some [4,5]],[]⟩ ⟨[],[],[]⟩ [false,false,false,false] (pp (pp (xr l0) (xw o1)) (ww o0 (tt k2 (tt k1 (tt k0 (pp (pp (xr l0) (xw bO)) nn)))))))))))))))))
theorem v5u (l0:List R6) (x1:Int) (n:Nat) (vs:List AVal) (h:Yj (x6s l0 x1) n (y1x l0 x1)=.ret vs):Kg prog (Zy prog 38) (Zi prog 38 [(.dat l0.length (Zz l0)),(.int .i64 x1)] true []) vs:=by have:=Yw (w3q l0 x1) n _ (x6t l0 x1);rwa [h] at this
end Go.Am
namespace Go.Am
open Go.Proofs.Tryz
open Go.Proofs Go.Sort Go.Shelf Go.RowKit Go.Lib
def pikN (k:Int):Int:=IntKind.wrap .i64 ((1:Int)*2 ^ (min k.toNat 64))
def pikP (L:List R6) (k:Int):Bool:=(Zf L == 0)&&(!decide (k<0)&& !decide (k>9))
def Wn (L:List R6) (k:Int):List R6:=bif pikP L k then Zr L (pikN k) else []
def z0p (L:List R6) (k:Int):Int:=bif Zf L != 0 then Zf L else bif decide (k<0)||decide (k>9) then 2 else Vg L (pikN k)
def z1i (L:List R6) (k:Int):Bool:=true
def pikW (L:List R6) (k:Int):List AVal:=bif pikP L k then [.dat (Wn L k).length (Zz (Wn L k)),.int .i64 (z0p L k)] else [.nils,.int .i64 (z0p L k)]
theorem u7q (L:List R6) (k:Int): ∃N,Yj (x6s L k) N (y1x L k)=.ret (pikW L k):=⟨0,by
 have hk:(Zf L != 0)= !(Zf L == 0):=rfl;unfold y1x pikW Wn z0p pikP;simp only [Zp,z4k,cond_true,hk,show∀l n,Qs l n=true from fun _ _=>rfl];cases (Zf L == 0) <;> cases decide (k<0) <;> cases decide (k>9) <;> rfl⟩
def fPik :List AVal→Option (AVal×Bool)
 | [a0,.int .i64 x1]=>match asL R6 a0 with
  | some (L0,g0,n0)=>some (.tup [.dat (Wn L0 x1).length (Zz (Wn L0 x1)),.int .i64 (z0p L0 x1)],isT R6 n0 g0&&z1i L0 x1)
  | _=>none
 | _=>none
theorem u9t {S:Specs} (hS:Zq prog S):Zq prog (S.with u2p fPik):=by
 refine v1i hS (by kernel_rfl) fun args v h=> ?_;unfold fPik at h;split at h
 ·rename_i a0 x1;split at h
  ·rename_i L0 g0 n0 e0;simp only [Option.some.injEq,Prod.mk.injEq,Bool.and_eq_true] at h;obtain ⟨rfl,ho0,hw⟩:=h;obtain ⟨N,hN⟩:=u7q L0 x1;refine ⟨_,pikW L0 x1,(.cons (asL_le e0 ho0) (.cons (.refl _) .nil)),?_,v5u L0 x1 N _ hN,3,?_⟩
   ·unfold pikW;rcases Yv (pikP L0 x1) with q | q
    ·rw [q];exact fun ρ u hu=>hu
    ·rw [q];unfold Wn;rw [q];exact fun ρ u hu=>z6n (.cons (z2f R6) (RLe.refl _)) ρ u hu
   ·unfold pikW;cases pikP L0 x1 <;> rfl
  ·cases h
 ·cases h
def Dj :Specs:=(Di.with u2p fPik)
theorem y1b :Zq prog Dj:=(u9t v3b)
end Go.Am
namespace Go.Am
open Go.Proofs.Tryz
open Go.Proofs
inductive levS where
 | h0 (v7:Int)
def levC (l0:List R6) (x1:Int):levS→Cfg
 | .h0 v7=>⟨⟨55,0,true⟩,none,(Zb prog 31 [1,1,1,1,1,0,1,0,0] 0),none,(Zy prog 16),⟨Yq [(0,(.dat l0.length (Zz l0))),(1,(ii x1)),(7,(ii v7))],Uv [] 0,0,[],true⟩,[],.leaf⟩
def v6m :List (Option (List Nat)):=[some [0,1,7]]
def v6n :List (Option (List Nat)):=[]
def z6b (l0:List R6) (x1:Int):levS→Xe levS
 | .h0 v7=>(bif (decide (v7>0)) then (bif (z1i (cvT l0) v7) then (bif ((z0p (cvT l0) v7) == 0) then (bif (Jx (cvT l0) (cvT (Wn (cvT l0) v7))) then (bif ((Kz (cvT l0) (cvT (Wn (cvT l0) v7))) == 0) then (bif (decide ((Je (cvT l0) (cvT (Wn (cvT l0) v7)))≤x1)) then (.ret [(.int .i64 v7),(.int .i64 0)]) else (.to (.h0 (IntKind.wrap .i64 (v7 - 1))))) else (.to (.h0 (IntKind.wrap .i64 (v7 - 1))))) else .stuck) else (.to (.h0 (IntKind.wrap .i64 (v7 - 1))))) else .stuck) else (.ret [(.int .i64 0),(.int .i64 0)]))
def y2a (l0:List R6) (x1:Int):Xe levS:=(bif (Wg (cvT l0)) then (bif ((Zf (cvT l0)) != 0) then (.ret [(.int .i64 0),(.int .i64 (Zf (cvT l0)))]) else (bif (decide (x1<0)) then (.ret [(.int .i64 0),(.int .i64 2)]) else (bif (decide (x1>1000)) then (.ret [(.int .i64 0),(.int .i64 2)]) else (bif ((l0.length:Int) == 0) then (.ret [(.int .i64 0),(.int .i64 6)]) else (bif (decide ((l0.length:Int)>40)) then (.ret [(.int .i64 0),(.int .i64 4)]) else (.to (.h0 9))))))) else .stuck)
theorem w3u (l0:List R6) (x1:Int): ∀s,Xr prog (Zy prog 31) (levC l0 x1) (levC l0 x1 s) (z6b l0 x1 s)
 | .h0 v7=>(lb (fun k0=>(lo fun aJ=>(lb (fun k1=>(lo fun cK=>(lb (fun k2=>(lb (fun k3=>(lr 55 31 [1,1,1,1,1,0,1,0,0,1,0,0,1,1,0,1,1,0,0] 1 16 [(4,(ii v7)),(5,(ii 0))] (sl y1b 55 [] ⟨[],[],[some [4,5]],[]⟩ ⟨[],[],[]⟩ (trs 6 []) (tt k3 (tt k2 (pp (pp (xr l0) (pp (xI R6 (Wn (cvT l0) v7).length (Zz (Wn (cvT l0) v7))) (xw cK))) (tt k1 (pp (pp (xr l0) (xw aJ)) (tt k0 nn))))))))) (fun k3=>(sl y1b 57 [] ⟨[],[],v6m,v6n⟩ ⟨[],[],[]⟩ (trs 5 [false]) (tt k3 (tt k2 (pp (pp (xr l0) (pp (xI R6 (Wn (cvT l0) v7).length (Zz (Wn (cvT l0) v7))) (xw cK))) (tt k1 (pp (pp (xr l0) (xw aJ)) (tt k0 nn)))))))))) (fun k2=>(sl y1b 57 [] ⟨[],[],v6m,v6n⟩ ⟨[],[],[]⟩ (bl 6 3) (tt k2 (pp (pp (xr l0) (pp (xI R6 (Wn (cvT l0) v7).length (Zz (Wn (cvT l0) v7))) (xw cK))) (tt k1 (pp (pp (xr l0) (xw aJ)) (tt k0 nn)))))))))) (fun k1=>(sl y1b 35 [] ⟨[],[],v6m,v6n⟩ ⟨[],[],[]⟩ (bl 2 1) (tt k1 (pp (pp (xr l0) (xw aJ)) (tt k0 nn)))))))) (fun k0=>(lr 55 3 [1,1,1,1,1,1,0] 1 16 [(4,(ii 0)),(5,(ii 0))] (sl y1b 13 [] ⟨[],[],[some [4,5]],[]⟩ ⟨[],[],[]⟩ [false] (tt k0 nn)))))
theorem x7b (l0:List R6) (x1:Int):Xr prog (Zy prog 31) (levC l0 x1) (Zi prog 31 [(.dat l0.length (Zz l0)),(.int .i64 x1)] true []) (y2a l0 x1):=(lo fun bO=>(lb (fun k0=>(lr 55 31 [1,0,1,1,0,0] 1 16 [(4,(ii 0)),(5,(ii (Zf (cvT l0))))] (sl y1b 24 [] ⟨[],[],[some [4,5]],[]⟩ ⟨[],[],[]⟩ [true] (tt k0 (pp (pp (xr l0) (xw bO)) nn))))) (fun k0=>(lb (fun k1=>(lr 55 31 [1,1,0,1,0,0] 1 16 [(4,(ii 0)),(5,(ii 2))] (sl y1b 35 [] ⟨[],[],[some [4,5]],[]⟩ ⟨[],[],[]⟩ [false,true,true,true] (tt k1 (tt k0 (pp (pp (xr l0) (xw bO)) nn)))))) (fun k1=>(lb (fun k2=>(lr 55 31 [1,1,0,1,0,0] 1 16 [(4,(ii 0)),(5,(ii 2))] (sl y1b 35 [] ⟨[],[],[some [4,5]],[]⟩ ⟨[],[],[]⟩ [false,false,false,true] (tt k2 (tt k1 (tt k0 (pp (pp (xr l0) (xw bO)) nn))))))) (fun k2=>(lb (fun k3=>(lr 55 31 [1,1,1,0,1,0,0] 1 16 [(4,(ii 0)),(5,(ii 6))] (sl y1b 44 [] ⟨[],[],[some [4,5]],[]⟩ ⟨[],[],[]⟩ [false,false,false,false,true] (tt k3 (tt k2 (tt k1 (tt k0 (pp (pp (xr l0) (xw bO)) nn)))))))) (fun k3=>(lb (fun k4=>(lr 55 31 [1,1,1,1,0,1,0,0] 1 16 [(4,(ii 0)),(5,(ii 4))] (sl y1b 53 [] ⟨[],[],[some [4,5]],[]⟩ ⟨[],[],[]⟩ [false,false,false,false,false,true] (tt k4 (tt k3 (tt k2 (tt k1 (tt k0 (pp (pp (xr l0) (xw bO)) nn))))))))) (fun k4=>(sl y1b 56 [] ⟨[],[],v6m,v6n⟩ ⟨[],[],[]⟩ [false,false,false,false,false,false] (tt k4 (tt k3 (tt k2 (tt k1 (tt k0 (pp (pp (xr l0) (xw bO)) nn))))))))))))))))))
theorem v6l (l0:List R6) (x1:Int) (n:Nat) (vs:List AVal) (h:Yj (z6b l0 x1) n (y2a l0 x1)=.ret vs):Kg prog (Zy prog 31) (Zi prog 31 [(.dat l0.length (Zz l0)),(.int .i64 x1)] true []) vs:=by have:=Yw (w3u l0 x1) n _ (x7b l0 x1);rwa [h] at this
end Go.Am
namespace Go.Am
open Go.Proofs.Tryz
open Go.Proofs Go.Sort Go.Shelf Go.RowKit Go.Lib
def u8g (L:List R6) (d k:Int):Bool:=(z0p L k == 0)&&((Kz L (Wn L k) == 0)&&decide (Je L (Wn L k)≤d))
def u3a (L:List R6) (d:Int):Nat→Int
 | 0=>0
 | k+1=>bif u8g L d ((k+1:Nat):Int) then ((k+1:Nat):Int) else u3a L d k
def z7n (L:List R6) (d:Int):Int:=bif Zf L != 0 then Zf L else bif decide (d<0)||decide (d>1000) then 2 else bif ((L.length:Int) == 0) then 6 else bif decide ((L.length:Int)>40) then 4 else 0
def Vq (L:List R6) (d:Int):Int:=bif z7n L d == 0 then u3a L d 9 else 0
def z3v (L:List R6) (d:Int):Bool:=true
theorem u2z {L:List R6} {d:Int}: ∀(k:Nat),k≤9→ ∃N,Yj (z6b L d) N (.to (.h0 (k:Int)))=.ret [.int .i64 (u3a L d k),.int .i64 0]
 | 0,h=>by refine ⟨1,?_⟩;rw [Zw];simp (disch:=omega) only [z6b,Ys,cond_false];rfl
 | k+1,h=>by
  obtain ⟨N,hN⟩:=u2z (L:=L) (d:=d) k (by omega);have hw:IntKind.wrap .i64 (((k+1:Nat):Int) - 1)=(k:Int):=by rw [Zh];exact Zu (by omega)
  refine ⟨N+1,?_⟩;have e:z6b L d (.h0 ((k+1:Nat):Int))=bif u8g L d ((k+1:Nat):Int) then .ret [.int .i64 ((k+1:Nat):Int),.int .i64 0] else .to (.h0 (k:Int)):=by simp (disch:=omega) only [z6b,Zp,Ye,hw,show∀l k,z1i l k=true from fun _ _=>rfl,show∀l m,Jx l m=true from fun _ _=>rfl,cond_true];unfold u8g;cases (z0p L ((k+1:Nat):Int) == 0) <;> cases (Kz L (Wn L ((k+1:Nat):Int)) == 0) <;> cases decide (Je L (Wn L ((k+1:Nat):Int))≤d) <;> rfl
  rw [Zw,e];unfold u3a;rcases Yv (u8g L d ((k+1:Nat):Int)) with q | q
  ·rw [q];exact Zg _ _ _
  ·rw [q];exact hN
theorem u8e (L:List R6) (d:Int) (h:z3v L d=true): ∃N,Yj (z6b L d) N (y2a L d)=.ret [.int .i64 (Vq L d),.int .i64 (z7n L d)]:=by
 obtain ⟨N,hN⟩:=u2z (L:=L) (d:=d) 9 (Nat.le_refl _);refine ⟨N,?_⟩;have hk:(Zf L != 0)= !(Zf L == 0):=rfl;unfold y2a Vq z7n;simp only [Zp,z4k,cond_true,hk];rcases Yv (Zf L == 0) with a | a <;> rcases Yv (decide (d<0)) with b | b <;> rcases Yv (decide (d>1000)) with c | c <;> rcases Yv ((L.length:Int) == 0) with e | e <;> rcases Yv (decide ((L.length:Int)>40)) with f | f <;> rw [a,b,c,e,f] <;>
  simp only [Bool.not_true,Bool.not_false,Bool.or_true,Bool.or_false,Bool.true_or,cond_true,cond_false,a] <;> first | exact hN | exact Zg _ _ _
def fLev :List AVal→Option (AVal×Bool)
 | [a0,.int .i64 x1]=>match asL R6 a0 with
  | some (L0,g0,n0)=>some (.tup [.int .i64 (Vq L0 x1),.int .i64 (z7n L0 x1)],isT R6 n0 g0&&(z3v L0 x1))
  | _=>none
 | _=>none
theorem u9x {S:Specs} (hS:Zq prog S):Zq prog (S.with v0d fLev):=by
 refine z3b hS (by kernel_rfl) fun args v h=> ?_;unfold fLev at h;split at h
 ·rename_i a0 x1;split at h
  ·rename_i L0 g0 n0 e0;simp only [Option.some.injEq,Prod.mk.injEq,Bool.and_eq_true] at h;obtain ⟨rfl,ho0,hw⟩:=h;obtain ⟨N,hN⟩:=u8e L0 x1 hw;exact ⟨_,_,(.cons (asL_le e0 ho0) (.cons (.refl _) .nil)),rfl,v6l L0 x1 N _ hN,3,rfl⟩
  ·cases h
 ·cases h
def Dk :Specs:=(Dj.with v0d fLev)
theorem Dk_ok :Zq prog Dk:=(u9x y1b)
end Go.Am
namespace Go.Am
open Go.Proofs Go.Sort Go.Shelf Go.RowKit Go.Lib
def opB (k:Nat) (a b:Bool):Bool:=match k with
 | 0=>a||b
 | 1=>a&&b
 | _=>a&& !b
theorem u2d (k:Nat):opB k false false=false:=by
 match k with
 | 0=>rfl
 | 1=>rfl
 | _+2=>rfl
def Wu (i:Int) (l:List R2):List R3:=l.flatMap fun s=>[⟨s.a,i,1⟩,⟨s.b,i,-1⟩]
def z4w (i:Int) (E:List R3) (y:Int):Int:=(E.map fun e=>if e.b=i∧e.a≤y then e.c else 0).sum
theorem Vs (i:Int) (e:R3) (E:List R3) (y:Int):z4w i (e::E) y=(if e.b=i∧e.a≤y then e.c else 0)+z4w i E y:=by simp [z4w]
theorem y3t (i:Int) (E F:List R3) (y:Int):z4w i (E++F) y=z4w i E y+z4w i F y:=by simp [z4w]
theorem x2u (i:Int) {E F:List R3} (h:E.Perm F) (y:Int):z4w i E y=z4w i F y:=by
 induction h with
 | nil=>rfl
 | cons e _ ih=>rw [Vs,Vs,ih]
 | swap a b l=>simp only [Vs];omega
 | trans _ _ i1 i2=>rw [i1,i2]
theorem w9s (i:Int) (E:List R3) (y:Int) (h: ∀e∈E,y<e.a):z4w i E y=0:=by
 induction E with
 | nil=>rfl
 | cons e E ih=>rw [Vs,if_neg (by have:=h e (by simp);omega),ih fun f hf=>h f (by simp [hf])];rfl
theorem x2v (i:Int) (l:List R2) (hv: ∀s∈l,s.a<s.b) (y:Int):0≤z4w i (Wu i l) y∧(0<z4w i (Wu i l) y↔pt l y):=by
 induction l with
 | nil=>exact ⟨Int.le_refl _,by simp [z4w,Wu,pt]⟩
 | cons s l ih=>
  obtain ⟨i1,i2⟩:=ih fun t ht=>hv t (by simp [ht]);have hs:=hv s (by simp);have e:z4w i (Wu i (s::l)) y=(if s.a≤y∧y<s.b then 1 else 0)+z4w i (Wu i l) y:=by
   show z4w i (⟨s.a,i,1⟩::⟨s.b,i,-1⟩::Wu i l) y=_;rw [Vs,Vs];show (if i=i∧s.a≤y then (1:Int) else 0)+((if i=i∧s.b≤y then (-1:Int) else 0)+z4w i (Wu i l) y)=_;by_cases h1:s.a≤y
   ·by_cases h2:s.b≤y
    ·rw [if_pos ⟨rfl,h1⟩,if_pos ⟨rfl,h2⟩,if_neg (show¬(s.a≤y∧y<s.b) by omega)];omega
    ·rw [if_pos ⟨rfl,h1⟩,if_neg (fun h=>h2 h.2),if_pos (show s.a≤y∧y<s.b by omega)];omega
   ·rw [if_neg (fun h=>h1 h.2),if_neg (fun h=>by have:=h.2;omega),if_neg (show¬(s.a≤y∧y<s.b) by omega)];omega
  rw [e];by_cases h:s.a≤y∧y<s.b
  ·rw [if_pos h];exact ⟨by omega,⟨fun _=>⟨s,by simp,h⟩,fun _=>by omega⟩⟩
  ·rw [if_neg h];refine ⟨by omega,?_⟩;rw [Int.zero_add,i2];constructor
   ·rintro ⟨t,ht,h2⟩;exact ⟨t,by simp [ht],h2⟩
   ·rintro ⟨t,ht,h2⟩;rcases List.mem_cons.1 ht with rfl | ht
    ·exact absurd h2 h
    ·exact ⟨t,ht,h2⟩
theorem y7t (i j:Int) (hij:i≠j) (l:List R2) (y:Int):z4w i (Wu j l) y=0:=by
 induction l with
 | nil=>rfl
 | cons s l ih=>show z4w i (⟨s.a,j,1⟩::⟨s.b,j,-1⟩::Wu j l) y=0;rw [Vs,Vs,if_neg (fun h=>hij h.1.symm),if_neg (fun h=>hij h.1.symm),ih];rfl
def sw2 (f:Bool→Bool→Bool):List R3→Int→Int→Int→Bool→List R2→List R2
 | [],_,_,_,_,out=>out
 | e::r,o,p,last,inn,out=>
  sw2 f r (bif e.b == 0 then o+e.c else o) (bif e.b == 0 then p else p+e.c) e.a (f (decide ((bif e.b == 0 then o+e.c else o)>0)) (decide ((bif e.b == 0 then p else p+e.c)>0))) (Ve out last inn e.a)
def Two (E:List R3):Prop:= ∀e∈E,e.b=0∨e.b=1
theorem w6e (f:Bool→Bool→Bool): ∀(E:List R3) (o p last:Int) (out:List R2),Asc E→Two E→(∀e∈E,last≤e.a)→Can out→(∀s∈out,s.b≤last)→
  Can (sw2 f E o p last (f (decide (o>0)) (decide (p>0))) out)∧ ∀y,pt (sw2 f E o p last (f (decide (o>0)) (decide (p>0))) out) y↔pt out y∨(last≤y∧f (decide (o+z4w 0 E y>0)) (decide (p+z4w 1 E y>0))=true∧ ∃e∈E,y<e.a)
 | [],o,p,last,out,_,_,_,hc,_=>⟨hc,fun y=>⟨.inl,fun h=>h.elim id fun ⟨_,_,e,he,_⟩=>by cases he⟩⟩
 | e ::r,o,p,last,out,hE,ht,hl,hc,hb=>by
  have he:=hl e (by simp);have hr:=List.pairwise_cons.1 hE;obtain ⟨p1,p2,p3⟩:=y9b (f (decide (o>0)) (decide (p>0))) hc hb he;have hz: ∀y,y<e.a→ ∀i,z4w i (e::r) y=0:=fun y hy i=>w9s i _ _ fun g hg=>by
   rcases List.mem_cons.1 hg with rfl | hg
   ·exact hy
   ·have:=hr.1 g hg;omega
  have main: ∀(o' p':Int),(∀y,e.a≤y→o'+z4w 0 r y=o+z4w 0 (e::r) y∧p'+z4w 1 r y=p+z4w 1 (e::r) y)→
    Can (sw2 f r o' p' e.a (f (decide (o'>0)) (decide (p'>0))) (Ve out last (f (decide (o>0)) (decide (p>0))) e.a))∧
    ∀y,pt (sw2 f r o' p' e.a (f (decide (o'>0)) (decide (p'>0))) (Ve out last (f (decide (o>0)) (decide (p>0))) e.a)) y↔pt out y∨(last≤y∧f (decide (o+z4w 0 (e::r) y>0)) (decide (p+z4w 1 (e::r) y>0))=true∧ ∃g∈e::r,y<g.a):=fun o' p' hop=>by
   obtain ⟨q1,q2⟩:=w6e f r o' p' e.a (Ve out last (f (decide (o>0)) (decide (p>0))) e.a) hr.2 (fun g hg=>ht g (by simp [hg])) hr.1 p1 p2;refine ⟨q1,fun y=> ?_⟩;rw [q2,p3];constructor
   ·rintro ((h | ⟨h1,h2,h3⟩) | ⟨h1,h2,g,hg,h3⟩)
    ·exact .inl h
    ·refine .inr ⟨h2,?_,e,by simp,h3⟩;rw [hz y h3,hz y h3,Int.add_zero,Int.add_zero];exact h1
    ·refine .inr ⟨by omega,?_,g,by simp [hg],h3⟩;obtain ⟨e1,e2⟩:=hop y h1;rw [←e1,←e2];exact h2
   ·rintro (h | ⟨h1,h2,g,hg,h3⟩)
    ·exact .inl (.inl h)
    ·by_cases hy:e.a≤y
     ·right;obtain ⟨e1,e2⟩:=hop y hy;refine ⟨hy,by rw [e1,e2];exact h2,g,?_,h3⟩;rcases List.mem_cons.1 hg with rfl | hg
      ·omega
      ·exact hg
     ·left;right;rw [hz y (by omega),hz y (by omega),Int.add_zero,Int.add_zero] at h2;exact ⟨h2,h1,by omega⟩
  show Can (sw2 f r _ _ _ _ _)∧ ∀y,pt (sw2 f r _ _ _ _ _) y↔_;rcases ht e (by simp) with h0 | h0
  ·have hb0:(e.b == 0)=true:=by rw [h0];rfl
   rw [hb0,cond_true,cond_true];refine main _ _ fun y hy=>⟨?_,?_⟩
   ·rw [Vs,if_pos ⟨h0,hy⟩];omega
   ·rw [Vs,if_neg (fun h=>by have:=h.1;omega)];omega
  ·have hb0:(e.b == 0)=false:=by rw [h0];rfl
   rw [hb0,cond_false,cond_false];refine main _ _ fun y hy=>⟨?_,?_⟩
   ·rw [Vs,if_neg (fun h=>by have:=h.1;omega)];omega
   ·rw [Vs,if_pos ⟨h0,hy⟩];omega
instance ptDec (l:List R2) (y:Int):Decidable (pt l y):=Classical.propDecidable _
theorem u5k (f:Bool→Bool→Bool) (hf:f false false=false) (a b:List R2) (ha: ∀s∈a,s.a<s.b) (hb: ∀s∈b,s.a<s.b) (E:List R3) (hp:E.Perm (Wu 0 a++Wu 1 b)) (hE:Asc E):
  Can (sw2 f E 0 0 0 false [])∧ ∀y,pt (sw2 f E 0 0 0 false []) y↔f (decide (pt a y)) (decide (pt b y))=true:=by
 have hn: ∀y,z4w 0 E y=z4w 0 (Wu 0 a) y∧z4w 1 E y=z4w 1 (Wu 1 b) y:=fun y=>by rw [x2u 0 hp,x2u 1 hp,y3t,y3t,y7t 0 1 (by decide),y7t 1 0 (by decide)];omega
 have hd: ∀y,decide (z4w 0 E y>0)=decide (pt a y)∧decide (z4w 1 E y>0)=decide (pt b y):=fun y=>by obtain ⟨e1,e2⟩:=hn y;exact ⟨decide_eq_decide.2 (by rw [e1];exact (x2v 0 a ha y).2),decide_eq_decide.2 (by rw [e2];exact (x2v 1 b hb y).2)⟩
 have ht:Two E:=fun e he=>by
  rcases List.mem_append.1 (hp.mem_iff.1 he) with h | h
  ·obtain ⟨s,_,h⟩:=List.mem_flatMap.1 h;simp only [List.mem_cons,List.not_mem_nil,or_false] at h;rcases h with rfl | rfl <;> exact .inl rfl
  ·obtain ⟨s,_,h⟩:=List.mem_flatMap.1 h;simp only [List.mem_cons,List.not_mem_nil,or_false] at h;rcases h with rfl | rfl <;> exact .inr rfl
 have cover: ∀y,f (decide (pt a y)) (decide (pt b y))=true→ ∃e∈E,y<e.a∧ ∃g∈E,g.a≤y:=fun y hy=>by
  by_cases h1:pt a y
  ·obtain ⟨s,hs,s1,s2⟩:=h1;exact ⟨⟨s.b,0,-1⟩,hp.mem_iff.2 (List.mem_append.2 (.inl (List.mem_flatMap.2 ⟨s,hs,by simp⟩))),s2,⟨s.a,0,1⟩,hp.mem_iff.2 (List.mem_append.2 (.inl (List.mem_flatMap.2 ⟨s,hs,by simp⟩))),s1⟩
  ·by_cases h2:pt b y
   ·obtain ⟨s,hs,s1,s2⟩:=h2;exact ⟨⟨s.b,1,-1⟩,hp.mem_iff.2 (List.mem_append.2 (.inr (List.mem_flatMap.2 ⟨s,hs,by simp⟩))),s2,⟨s.a,1,1⟩,hp.mem_iff.2 (List.mem_append.2 (.inr (List.mem_flatMap.2 ⟨s,hs,by simp⟩))),s1⟩
   ·rw [decide_eq_false h1,decide_eq_false h2,hf] at hy;cases hy
 cases E with
 | nil=>refine ⟨.nil,fun y=>⟨fun ⟨s,hs,_⟩=>(by cases hs),fun hy=> ?_⟩⟩;obtain ⟨e,he,_⟩:=cover y hy;cases he
 | cons e r=>
  have hr:=List.pairwise_cons.1 hE;have hz0:f (decide ((0:Int)>0)) (decide ((0:Int)>0))=false:=hf;have e0:sw2 f (e::r) 0 0 0 false []=sw2 f (e::r) 0 0 e.a (f (decide ((0:Int)>0)) (decide ((0:Int)>0))) []:=by rw [hz0];show sw2 f r _ _ _ _ (Ve [] 0 false e.a)=sw2 f r _ _ _ _ (Ve [] e.a false e.a);rfl
  rw [e0];obtain ⟨q1,q2⟩:=w6e f (e::r) 0 0 e.a [] hE ht (fun g hg=>by
   rcases List.mem_cons.1 hg with rfl | hg
   ·exact Int.le_refl _
   ·exact hr.1 g hg) .nil (by simp)
  refine ⟨q1,fun y=> ?_⟩;rw [q2,Int.zero_add,Int.zero_add,(hd y).1,(hd y).2];constructor
  ·rintro (⟨s,hs,_⟩ | ⟨_,h2,_⟩)
   ·cases hs
   ·exact h2
  ·intro hy;obtain ⟨g,hg,h1,k,hk,h2⟩:=cover y hy;refine .inr ⟨?_,hy,g,hg,h1⟩;rcases List.mem_cons.1 hk with rfl | hk
   ·exact h2
   ·have h3:e.a≤k.a:=hr.1 k hk;omega
end Go.Am
namespace Go.Am
open Go.Proofs Go.Sort Go.Shelf Go.RowKit Go.Lib
def tri :Nat→Nat
 | 0=>0
 | k+1=>tri k+k
theorem w6c : ∀n,tri (n+1)+tri n=n*n
 | 0=>rfl
 | n+1=>by have:=w6c n;show tri (n+1)+(n+1)+(tri n+n)=(n+1)*(n+1);rw [Nat.add_mul,Nat.mul_add];omega
def hat (n:Nat):Nat→Nat
 | 0=>0
 | v+1=>hat n v+min v (2*n - v)
theorem v0v (n:Nat): ∀v,v≤n+1→hat n v=tri v
 | 0,_=>rfl
 | v+1,h=>by show hat n v+min v (2*n - v)=tri v+v;rw [v0v n v (by omega)];omega
theorem y2f (n:Nat): ∀j,j≤n→hat n (n+1+j)+tri (n - j)=n*n
 | 0,_=>by rw [Nat.add_zero,v0v n _ (Nat.le_refl _)];exact w6c n
 | j+1,h=>by
  have:=y2f n j (by omega);show hat n (n+1+j)+min (n+1+j) (2*n - (n+1+j))+tri (n - (j+1))=_;have e:tri (n - j)=tri (n - (j+1))+(n - (j+1)):=by rw [show n - j=(n - (j+1))+1 by omega];rfl
  omega
theorem hat_le (n v:Nat):hat n v≤n*n:=by
 by_cases h1:v≤2*n+1
 ·by_cases h2:v≤n+1
  ·have h3:=y2f n 0 (Nat.zero_le _);have mono: ∀k v,hat n v≤hat n (v+k):=fun k v=>by
    induction k with
    | zero=>exact Nat.le_refl _
    | succ k ih=>exact Nat.le_trans ih (Nat.le_add_right _ _)
   have:=mono (n+1 - v) v;rw [show v+(n+1 - v)=n+1+0 by omega] at this;omega
  ·have:=y2f n (v - (n+1)) (by omega);rw [show n+1+(v - (n+1))=v by omega] at this;omega
 ·have h3:hat n (2*n+1)≤n*n:=by have:=y2f n n (Nat.le_refl _);rw [show n+1+n=2*n+1 by omega] at this;omega
  have: ∀k,hat n (2*n+1+k)=hat n (2*n+1):=fun k=>by
   induction k with
   | zero=>rfl
   | succ k ih=>show hat n (2*n+1+k)+min (2*n+1+k) (2*n - (2*n+1+k))=_;rw [ih];omega
  have h4:=this (v - (2*n+1));rw [show 2*n+1+(v - (2*n+1))=v by omega] at h4;omega
theorem w1n (n:Nat) (E:Nat→Nat): ∀k,(∀i,i+1<k→E i<E (i+1))→((List.range k).map fun i=>min (E i) (2*n - E i)).sum ≤(match k with | 0=>0 | k+1=>hat n (E k+1))
 | 0,_=>Nat.le_refl _
 | k+1,h=>by
  rw [List.range_succ,List.map_append,List.sum_append];have ih:=w1n n E k fun i hi=>h i (by omega);have mono: ∀k v,hat n v≤hat n (v+k):=fun k v=>by
   induction k with
   | zero=>exact Nat.le_refl _
   | succ k ih=>exact Nat.le_trans ih (Nat.le_add_right _ _)
  simp only [List.map_cons,List.map_nil,List.sum_cons,List.sum_nil,Nat.add_zero];show _≤hat n (E k)+min (E k) (2*n - E k);cases k with
  | zero=>simp only [List.range_zero,List.map_nil,List.sum_nil];omega
  | succ k=>have h1:=h k (by omega);have h2:=mono (E (k+1) - (E k+1)) (E k+1);rw [show E k+1+(E (k+1) - (E k+1))=E (k+1) by omega] at h2;simp only at ih;omega
def x4w (p:Int→Bool) (l:List Int):Nat:=(l.filter p).length
theorem z1q (p:Int→Bool) (x:Int) (l:List Int):x4w p (x::l)=(if p x=true then 1 else 0)+x4w p l:=by
 unfold x4w;rw [List.filter_cons];split
 ·simp;omega
 ·simp
theorem j1g (p:Int→Bool) (l:List Int):x4w p l≤l.length:=List.length_filter_le _ _
theorem v1y {p q:Int→Bool} (h: ∀x,p x=true→q x=true) (l:List Int):x4w p l≤x4w q l:=by
 induction l with
 | nil=>exact Nat.le_refl _
 | cons x l ih=>
  rw [z1q,z1q];by_cases h1:p x=true
  ·rw [if_pos h1,if_pos (h x h1)];omega
  ·rw [if_neg h1];omega
theorem j1f {p q:Int→Bool} (h: ∀x,p x=true→q x=true) {l:List Int} {y:Int} (hy:y∈l) (hq:q y=true) (hp:p y=false):x4w p l<x4w q l:=by
 induction l with
 | nil=>cases hy
 | cons x l ih=>
  rw [z1q,z1q];rcases List.mem_cons.1 hy with rfl | hy
  ·have:=v1y h l;rw [hp,hq];simp;omega
  ·have:=ih hy;by_cases h1:p x=true
   ·rw [if_pos h1,if_pos (h x h1)];omega
   ·rw [if_neg h1];omega
namespace Dim
variable {α β:Type} {D:Dim α β}
theorem inn_min (l:List α) (x:Int) (hv: ∀r∈l,D.lo r<D.hi r):(D.inn l x).length ≤min (x4w (fun y=>decide (y≤x)) (D.ends l)) (2*l.length - x4w (fun y=>decide (y≤x)) (D.ends l)):=by
 induction l with
 | nil=>exact Nat.zero_le _
 | cons r l ih=>
  have ih:=ih fun s hs=>hv s (by simp [hs]);have hr:=hv r (by simp);have hc:=j1g (fun y=>decide (y≤x)) (D.ends l);rw [D.ends_length] at hc;have e:x4w (fun y=>decide (y≤x)) (D.ends (r::l))=(if D.lo r≤x then 1 else 0)+((if D.hi r≤x then 1 else 0)+x4w (fun y=>decide (y≤x)) (D.ends l)):=by show x4w _ (D.lo r::D.hi r::D.ends l)=_;rw [z1q,z1q];simp only [decide_eq_true_eq]
  have e2:(D.inn (r::l) x).length =(if D.lo r≤x∧x<D.hi r then 1 else 0)+(D.inn l x).length :=by
   unfold inn;rw [List.filter_cons];by_cases h:D.lo r≤x∧x<D.hi r
   ·rw [if_pos (by simp [h.1,h.2]),if_pos h];simp;omega
   ·rw [if_neg (by simp;intro h1;exact Int.not_lt.1 fun h2=>h ⟨h1,h2⟩),if_neg h,Nat.zero_add]
  rw [e,e2,List.length_cons];by_cases h1:D.lo r≤x <;> by_cases h2:D.hi r≤x
  ·rw [if_pos h1,if_pos h2,if_neg (by omega)];omega
  ·rw [if_pos h1,if_neg h2,if_pos (by omega)];omega
  ·omega
  ·rw [if_neg h1,if_neg h2,if_neg (by omega)];omega
theorem open_sum (l:List α) (hv: ∀r∈l,D.lo r<D.hi r): ∀k,k≤(D.cuts l).length →((List.range k).map fun i=>(D.inn l (rd (D.cuts l) i)).length).sum ≤l.length*l.length:=fun k hk=>by
 have hc:(D.cuts l).Pairwise (· < ·):=by show (Us (D.ends l)).Pairwise (· < ·);rw [Jj];exact (Wc _).1
 have hm: ∀i,i<(D.cuts l).length →rd (D.cuts l) i∈D.ends l:=fun i hi=>by
  have:rd (D.cuts l) i∈Us (D.ends l):=by rw [Yt hi];exact List.getElem_mem hi
  rw [Jj,(Wc _).2] at this;exact this
 have h1:((List.range k).map fun i=>(D.inn l (rd (D.cuts l) i)).length).sum ≤((List.range k).map fun i=>min (x4w (fun y=>decide (y≤rd (D.cuts l) i)) (D.ends l)) (2*l.length - x4w (fun y=>decide (y≤rd (D.cuts l) i)) (D.ends l))).sum :=by
  induction k with
  | zero=>exact Nat.le_refl _
  | succ k ih=>rw [List.range_succ,List.map_append,List.map_append,List.sum_append,List.sum_append];have:=ih (by omega);have h2:=D.inn_min l (rd (D.cuts l) k) hv;simp only [List.map_cons,List.map_nil,List.sum_cons,List.sum_nil];omega
 refine Nat.le_trans h1 ?_;have h2:=w1n l.length (fun i=>x4w (fun y=>decide (y≤rd (D.cuts l) i)) (D.ends l)) k fun i hi=>by have hlt:=z3a hc (show i<i+1 by omega) (show i+1<_ by omega);refine j1f (fun x hx=> ?_) (hm (i+1) (by omega)) (decide_eq_true (Int.le_refl _)) (decide_eq_false (by omega));have:=of_decide_eq_true hx;exact decide_eq_true (by omega)
 refine Nat.le_trans h2 ?_;cases k with
 | zero=>exact Nat.zero_le _
 | succ k=>exact hat_le _ _
theorem goS_length (sec:Int→List β) (cs:List Int): ∀(k i:Nat) (s:Sw α β),(D.goS sec cs k i s).out.length ≤s.out.length+((List.range k).map fun j=>(sec (rd cs (i+j))).length).sum
 | 0,i,s=>Nat.le_refl _
 | k+1,i,s=>by
  have h1:=goS_length sec cs k (i+1) (D.oneS (sec (rd cs i)) (rd cs i) (rd cs (i+1)) s);have h2:(D.oneS (sec (rd cs i)) (rd cs i) (rd cs (i+1)) s).out.length ≤s.out.length+(sec (rd cs i)).length :=by
   unfold oneS;cases (decide (0<(sec (rd cs i)).length)&&((s.fin == rd cs i)&&D.same s.last (sec (rd cs i)))) with
   | true=>rw [cond_true,D.grow_length];omega
   | false=>rw [cond_false];simp
  rw [List.range_succ_eq_map,List.map_cons,List.map_map,List.sum_cons,show rd cs (i+0)=rd cs i from rfl];have e:((fun j=>(sec (rd cs (i+j))).length)∘Nat.succ)=fun j=>(sec (rd cs (i+1+j))).length :=by
   funext j;simp only [Function.comp];rw [show i+j.succ=i+1+j by omega]
  rw [e];show (D.goS sec cs k (i+1) _).out.length ≤_;omega
theorem goJ_length (a b:List α) (J:List β→List β→List β) (hJ: ∀x,(J (D.inn a x) (D.inn b x)).length ≤(D.inn a x).length +(D.inn b x).length) (hv: ∀r∈a++b,D.lo r<D.hi r):
  (D.goS (fun x=>J (D.inn a x) (D.inn b x)) (D.cuts (a++b)) ((D.cuts (a++b)).length - 1) 0 ⟨[],[],0,0⟩).out.length ≤(a.length+b.length)*(a.length+b.length):=by
 have h1:=D.goS_length (fun x=>J (D.inn a x) (D.inn b x)) (D.cuts (a++b)) ((D.cuts (a++b)).length - 1) 0 ⟨[],[],0,0⟩;have h2:=D.open_sum (a++b) hv ((D.cuts (a++b)).length - 1) (Nat.sub_le _ _);rw [List.length_append] at h2;refine Nat.le_trans h1 (Nat.le_trans ?_ h2);simp only [List.length_nil,Nat.zero_add];generalize (D.cuts (a++b)).length - 1=k
 induction k with
 | zero=>exact Nat.le_refl _
 | succ k ih=>rw [List.range_succ,List.map_append,List.map_append,List.sum_append,List.sum_append];have:=hJ (rd (D.cuts (a++b)) k);simp only [List.map_cons,List.map_nil,List.sum_cons,List.sum_nil];rw [D.inn_append,List.length_append];omega
end Dim
end Go.Am
namespace Go.Am
open Go.Proofs Go.Sort Go.Shelf Go.RowKit Go.Lib
def spJ (k:Nat) (a b:List R2):List R2:=sw2 (opB k) (z0n (Wu 0 a++Wu 1 b)) 0 0 0 false []
theorem z7y (i:Int) (l:List R2) (hv:l.all z1c=true):y0v (Wu i l)=true:=List.all_eq_true.2 fun e he=>by obtain ⟨s,hs,h1⟩:=List.mem_flatMap.1 he;have hv:=List.all_eq_true.1 hv s hs;simp only [z1c,Bool.and_eq_true,decide_eq_true_eq] at hv;simp only [List.mem_cons,List.not_mem_nil,or_false] at h1;rcases h1 with rfl | rfl <;> exact decide_eq_true (by simp only;omega)
theorem x9n {l:List R2} (hv:l.all z1c=true): ∀s∈l,s.a<s.b:=fun s hs=>by have:=List.all_eq_true.1 hv s hs;simp only [z1c,Bool.and_eq_true,decide_eq_true_eq] at this;exact this.1
theorem x5l (k:Nat) {a b:List R2} (ha:a.all z1c=true) (hb:b.all z1c=true):x1r.can (spJ k a b)∧ ∀y,ptL x1r.inB (spJ k a b) y↔opB k (decide (pt a y)) (decide (pt b y))=true:=by
 have hbnd:y0v (Wu 0 a++Wu 1 b)=true:=by have h1:=z7y 0 a ha;have h2:=z7y 1 b hb;unfold y0v at*;rw [List.all_append,h1,h2];rfl
 obtain ⟨hp,_⟩:=Ks _ hbnd;exact u5k (opB k) (u2d k) a b (x9n ha) (x9n hb) _ hp (x9r _ hbnd)
theorem w0p : ∀(l S:List Int),l.Pairwise (· < ·)→(∀x∈l,x∈S)→l.length≤S.length
 | [],S,_,_=>Nat.zero_le _
 | x::l,S,h,hs=>by obtain ⟨h1,h2⟩:=List.pairwise_cons.1 h;have hx:=hs x (by simp);have:=w0p l (S.erase x) h2 fun y hy=>(List.mem_erase_of_ne (by have:=h1 y hy;omega)).2 (hs y (by simp [hy]));rw [List.length_erase_of_mem hx] at this;have:=List.length_pos_of_mem hx;simp only [List.length_cons];omega
def x4c (L:List R2):List Int:=L.flatMap fun s=>[s.a,s.b]
theorem z4f (L:List R2):(x4c L).length =2*L.length:=by
 induction L with
 | nil=>rfl
 | cons r l ih=>show (_::_::x4c l).length =_;simp only [List.length_cons,ih];omega
theorem v2f {L:List R2} (h:Can L):(x4c L).Pairwise (· < ·):=by
 induction L with
 | nil=>exact .nil
 | cons s L ih=>
  have hp:=h.pos s (by simp);have hn: ∀y∈x4c L,s.b<y:=fun y hy=>by obtain ⟨t,ht,h1⟩:=List.mem_flatMap.1 hy;have:=h.head t ht;have:=h.pos t (by simp [ht]);simp only [List.mem_cons,List.not_mem_nil,or_false] at h1;omega
  show (s.a::s.b::x4c L).Pairwise (· < ·);refine List.pairwise_cons.2 ⟨fun y hy=> ?_,List.pairwise_cons.2 ⟨hn,ih h.tail⟩⟩;rcases List.mem_cons.1 hy with rfl | hy
  ·exact hp
  ·have:=hn y hy;omega
theorem w5d {L:List R2} (h:Can L) (S:List Int) (hS: ∀y,y ∉ S→(pt L (y - 1)↔pt L y)):2*L.length≤S.length:=by
 rw [←z4f];refine w0p _ S (v2f h) fun y hy=>Classical.byContradiction fun hn=> ?_;obtain ⟨s,hs,h1⟩:=List.mem_flatMap.1 hy;have hp:=h.pos s hs;have sepL: ∀t∈L,t=s∨t.b<s.a∨s.b<t.a:=fun t ht=>by
  obtain ⟨i,hi,ei⟩:=List.getElem_of_mem hs;obtain ⟨j,hj,ej⟩:=List.getElem_of_mem ht;have pw:=List.pairwise_iff_getElem.1 h.sep;rcases Nat.lt_trichotomy i j with q | q | q
  ·have:=pw i j hi hj q;rw [ei,ej] at this;exact .inr (.inr this)
  ·subst q;exact .inl (ej.symm.trans ei)
  ·have:=pw j i hj hi q;rw [ei,ej] at this;exact .inr (.inl this)
 simp only [List.mem_cons,List.not_mem_nil,or_false] at h1;rcases h1 with rfl | rfl
 ·obtain ⟨t,ht,t1,t2⟩:=(hS _ hn).2 ⟨s,hs,Int.le_refl _,hp⟩;rcases sepL t ht with rfl | q | q <;> omega
 ·obtain ⟨t,ht,t1,t2⟩:=(hS _ hn).1 ⟨s,hs,by omega,by omega⟩;rcases sepL t ht with rfl | q | q <;> omega
theorem w9g {l:List R2} {y:Int} (h:y ∉ x4c l):pt l (y - 1)↔pt l y:=by
 constructor
 ·rintro ⟨s,hs,h1,h2⟩;refine ⟨s,hs,by omega,?_⟩;have:y≠s.b:=fun e=>h (List.mem_flatMap.2 ⟨s,hs,by simp [e]⟩);omega
 ·rintro ⟨s,hs,h1,h2⟩;refine ⟨s,hs,?_,by omega⟩;have:y≠s.a:=fun e=>h (List.mem_flatMap.2 ⟨s,hs,by simp [e]⟩);omega
theorem y6o (k:Nat) {a b:List R2} (ha:a.all z1c=true) (hb:b.all z1c=true):(spJ k a b).length ≤a.length+b.length:=by
 obtain ⟨h1,h2⟩:=x5l k ha hb;have:=w5d h1 (x4c a++x4c b) fun y hy=>by rw [List.mem_append,not_or] at hy;have e1:decide (pt a (y - 1))=decide (pt a y):=decide_eq_decide.2 (w9g hy.1);have e2:decide (pt b (y - 1))=decide (pt b y):=decide_eq_decide.2 (w9g hy.2);have q1:pt (spJ k a b) (y - 1)↔_:=h2 (y - 1);have q2:pt (spJ k a b) y↔_:=h2 y;rw [q1,q2,e1,e2]
 rw [List.length_append,z4f,z4f] at this;omega
def rgJ (k:Nat) (a b:List R4):List R4:=(D4.goS (fun x=>spJ k (D4.inn a x) (D4.inn b x)) (D4.cuts (a++b)) ((D4.cuts (a++b)).length - 1) 0 ⟨[],[],0,0⟩).out
theorem u5q (k:Nat):spJ k [] []=[]:=by have:=y6o k (a:=[]) (b:=[]) rfl rfl;exact List.eq_nil_of_length_eq_zero (by simpa using this)
instance ptDec4 (l:List R4) (p:Int×Int):Decidable (ptL Ji.inB l p):=Classical.propDecidable _
theorem x0d (l:List R4) (x y:Int):pt (D4.inn l x) y↔ptL Ji.inB l (x,y):=Dim.pt_inn (D:=D4) x1r.inB l x y
theorem w8o (k:Nat) {a b:List R4} (ha: ∀r∈a,Kv r=true) (hb: ∀r∈b,Kv r=true):
  Ji.can (rgJ k a b)∧(∀p,ptL Ji.inB (rgJ k a b) p↔opB k (decide (ptL Ji.inB a p)) (decide (ptL Ji.inB b p))=true)∧(rgJ k a b).length ≤(a.length+b.length)*(a.length+b.length):=by
 have hs: ∀x,x1r.can (spJ k (D4.inn a x) (D4.inn b x))∧ ∀y,ptL x1r.inB (spJ k (D4.inn a x) (D4.inn b x)) y↔opB k (decide (pt (D4.inn a x) y)) (decide (pt (D4.inn b x) y))=true:=fun x=>x5l k (z4y ha x) (z4y hb x);obtain ⟨h1,h2⟩:=Dim.goJ_can z9u y3f x1r a b (spJ k) (fun x=>(hs x).1) (u5q k);refine ⟨h1,fun ⟨x,y⟩=> ?_,?_⟩
 ·rw [show ptL Ji.inB (rgJ k a b) (x,y)↔_ from h2 x y,(hs x).2];have e1:decide (pt (D4.inn a x) y)=decide (ptL Ji.inB a (x,y)):=decide_eq_decide.2 (x0d a x y);have e2:decide (pt (D4.inn b x) y)=decide (ptL Ji.inB b (x,y)):=decide_eq_decide.2 (x0d b x y);rw [e1,e2]
 ·refine Dim.goJ_length a b (spJ k) (fun x=>y6o k (z4y ha x) (z4y hb x)) fun r hr=> ?_;have hv:Kv r=true:=by
   rcases List.mem_append.1 hr with h | h
   ·exact ha r h
   ·exact hb r h
  simp only [Kv,Bool.and_eq_true,decide_eq_true_eq] at hv;exact hv.1
end Go.Am
namespace Go.Am
open Go.Proofs.Tryz
open Go.Proofs
inductive schS where
 | h0 (v10:Int)
def schC (l0:List R2):schS→Cfg
 | .h0 v10=>⟨⟨34,0,true⟩,none,(Zb prog 169 [1,1,0,1,0,0] 0),none,(Zy prog 15),⟨Yq [(0,(.dat l0.length (Zz l0))),(8,(.dat l0.length (Zz l0))),(9,(ii (l0.length:Int))),(10,(ii v10))],Uv [] 0,0,[],true⟩,[],.leaf⟩
def u6j :List (Option (List Nat)):=[some [0,8,9,10]]
def u6k :List (Option (List Nat)):=[]
def z3k (l0:List R2):schS→Xe schS
 | .h0 v10=>(bif (decide (v10<(l0.length:Int))) then (bif ((decide (0≤v10∧v10<(l0.length:Int)))&&true) then (bif (decide ((rd l0 v10.toNat).a <(rd l0 v10.toNat).b)) then (bif (decide ((rd l0 v10.toNat).a ≥(-1000000))) then (bif (!(decide ((rd l0 v10.toNat).b ≤1000000))) then (.ret [(.int .i64 8)]) else (bif (decide (v10>0)) then (bif ((decide (0≤(IntKind.wrap .i64 (v10 - 1))∧(IntKind.wrap .i64 (v10 - 1))<(l0.length:Int)))&&true) then (bif (decide ((rd l0 (Int.toNat (IntKind.wrap .i64 (v10 - 1)))).b ≥(rd l0 v10.toNat).a)) then (.ret [(.int .i64 8)]) else (.to (.h0 (IntKind.wrap .i64 (v10+1))))) else .stuck) else (.to (.h0 (IntKind.wrap .i64 (v10+1)))))) else (.ret [(.int .i64 8)])) else (.ret [(.int .i64 8)])) else .stuck) else (.ret [(.int .i64 0)]))
def y1n (l0:List R2):Xe schS:=(bif (decide ((l0.length:Int)>400)) then (.ret [(.int .i64 4)]) else (.to (.h0 0)))
theorem w2v (l0:List R2): ∀s,Xr prog (Zy prog 169) (schC l0) (schC l0 s) (z3k l0 s)
 | .h0 v10=>(lb (fun k0=>(lo fun aJ=>(lb (fun k1=>(lb (fun k2=>(lb (fun k3=>(lr 34 169 [1,1,0,1,0,0,1,1,0,0,1,1,0,0] 1 15 [(2,(ii 8))] (sl z6k 25 [] ⟨[],[],[some [2]],[]⟩ ⟨[],[],[]⟩ (trs 12 []) (tt k3 (tt k2 (tt k1 (ww aJ (tt k0 nn)))))))) (fun k3=>(lb (fun k4=>(lo fun cL=>(lb (fun k5=>(lr 34 169 [1,1,0,1,0,0,1,1,0,0,1,1,0,0] 1 15 [(2,(ii 8))] (sl z6k 25 [] ⟨[],[],[some [2]],[]⟩ ⟨[],[],[]⟩ (trs 7 (bl 14 12280)) (tt k5 (ww cL (tt k4 (tt k3 (tt k2 (tt k1 (ww aJ (tt k0 nn))))))))))) (fun k5=>(sl z6k 28 [] ⟨[],[],u6j,u6k⟩ ⟨[],[],[]⟩ (trs 7 (bl 14 4088)) (tt k5 (ww cL (tt k4 (tt k3 (tt k2 (tt k1 (ww aJ (tt k0 nn))))))))))))) (fun k4=>(sl z6k 28 [] ⟨[],[],u6j,u6k⟩ ⟨[],[],[]⟩ (trs 7 (bl 14 0)) (tt k4 (tt k3 (tt k2 (tt k1 (ww aJ (tt k0 nn)))))))))))) (fun k2=>(lr 34 169 [1,1,0,1,0,0,1,1,0,0,1,1,0,0] 1 15 [(2,(ii 8))] (sl z6k 25 [] ⟨[],[],[some [2]],[]⟩ ⟨[],[],[]⟩ (trs 4 (bl 8 248)) (tt k2 (tt k1 (ww aJ (tt k0 nn))))))))) (fun k1=>(lr 34 169 [1,1,0,1,0,0,1,1,0,0,1,1,0,0] 1 15 [(2,(ii 8))] (sl z6k 25 [] ⟨[],[],[some [2]],[]⟩ ⟨[],[],[]⟩ (bl 12 3969) (tt k1 (ww aJ (tt k0 nn))))))))) (fun k0=>(lr 34 3 [1,1,1,1,1,1,0] 1 15 [(2,(ii 0))] (sl z6k 11 [] ⟨[],[],[some [2]],[]⟩ ⟨[],[],[]⟩ [false] (tt k0 nn)))))
theorem x5s (l0:List R2):Xr prog (Zy prog 169) (schC l0) (Zi prog 169 [(.dat l0.length (Zz l0))] true []) (y1n l0):=(lb (fun k0=>(lr 34 169 [1,0,1,0,0] 1 15 [(2,(ii 4))] (sl z6k 16 [] ⟨[],[],[some [2]],[]⟩ ⟨[],[],[]⟩ [true] (tt k0 nn)))) (fun k0=>(sl z6k 22 [] ⟨[],[],u6j,u6k⟩ ⟨[],[],[]⟩ [false] (tt k0 nn))))
theorem v4i (l0:List R2) (n:Nat) (vs:List AVal) (h:Yj (z3k l0) n (y1n l0)=.ret vs):Kg prog (Zy prog 169) (Zi prog 169 [(.dat l0.length (Zz l0))] true []) vs:=by have:=Yw (w2v l0) n _ (x5s l0);rwa [h] at this
inductive cdS where
def cdC (x0:Bool) (x1:Bool):cdS→Cfg
 :=nofun
def v2c (x0:Bool) (x1:Bool):cdS→Xe cdS
 :=nofun
def x8u (x0:Bool) (x1:Bool):Xe cdS:=(bif x0 then (.ret [(.bool (!x1))]) else (.ret [(.bool false)]))
theorem v2b (x0:Bool) (x1:Bool): ∀s,Xr prog (Zy prog 149) (cdC x0 x1) (cdC x0 x1 s) (v2c x0 x1 s)
 :=nofun
theorem w5c (x0:Bool) (x1:Bool):Xr prog (Zy prog 149) (cdC x0 x1) (Zi prog 149 [(.bool x0),(.bool x1)] true []) (x8u x0 x1):=(lb (fun k0=>(lr 10 3 [1,1,1,1,1,1,0] 1 3 [(4,(.bool (!x1)))] (sl z6k 13 [] ⟨[],[],[some [4]],[]⟩ ⟨[],[],[]⟩ [true,true] (tt k0 nn)))) (fun k0=>(lr 10 3 [1,1,1,1,1,1,0] 1 3 [(4,(.bool false))] (sl z6k 13 [] ⟨[],[],[some [4]],[]⟩ ⟨[],[],[]⟩ [false,false] (tt k0 nn)))))
theorem j1h (x0:Bool) (x1:Bool) (n:Nat) (vs:List AVal) (h:Yj (v2c x0 x1) n (x8u x0 x1)=.ret vs):Kg prog (Zy prog 149) (Zi prog 149 [(.bool x0),(.bool x1)] true []) vs:=by have:=Yw (v2b x0 x1) n _ (w5c x0 x1);rwa [h] at this
end Go.Am
namespace Go.Am
open Go.Proofs.Tryz
open Go.Proofs
open Go.Sort Go.Shelf Go.RowKit Go.Lib
def w2p (l:List R2) (i:Nat):Bool:=z1c (rd l i)&&(decide (i=0)||decide ((rd l (i - 1)).b <(rd l i).a))
def y5u (l:List R2):Int:=bif decide (400<l.length) then 4 else bif (List.range l.length).all (w2p l) then 0 else 8
def z3l (l:List R2):Bool:=true
theorem u0s (l:List R2) (hl:l.length≤400): ∀(k i:Nat),i+k=l.length→(∀j,j<i→w2p l j=true)→ ∃n,Yj (z3k l) n (.to (.h0 (i:Int)))=.ret [.int .i64 (bif (List.range l.length).all (w2p l) then 0 else 8)]
 | 0,i,h,ht=>by have hv:(List.range l.length).all (w2p l)=true:=List.all_eq_true.2 fun j hj=>ht j (by have:=List.mem_range.1 hj;omega);refine ⟨1,?_⟩;rw [Zw,hv];simp (disch:=omega) only [z3k,Zo,cond_true,cond_false,Zg]
 | k +1,i,h,ht=>by
  have hi:i<l.length:=by omega
  have hlt:decide ((i:Int)<(l.length:Int))=true:=decide_eq_true (by omega);have hin:decide (0≤(i:Int)∧(i:Int)<(l.length:Int))=true:=decide_eq_true (by omega);have step:z3k l (.h0 (i:Int))=bif w2p l i then .to (.h0 ((i+1:Nat):Int)) else .ret [.int .i64 8]:=by
   unfold w2p z1c;by_cases hi0:i=0
   ·have g1:decide ((i:Int)>0)=false:=decide_eq_false (by omega);rw [decide_eq_true hi0];simp (disch:=omega) only [z3k,hlt,hin,g1,Zu,Zx,Zj,y5f,z6i,Bool.true_or,Bool.and_true,cond_true,cond_false]
   ·have g1:decide ((i:Int)>0)=true:=decide_eq_true (by omega);have g2:IntKind.wrap .i64 ((i:Int) - 1)=((i - 1:Nat):Int):=by rw [Zu (by omega)];omega
    have g3:decide (0≤((i - 1:Nat):Int)∧((i - 1:Nat):Int)<(l.length:Int))=true:=decide_eq_true (by omega);have g4:decide ((rd l (i - 1)).b ≥(rd l i).a)= !decide ((rd l (i - 1)).b <(rd l i).a):=by
     by_cases q:(rd l (i - 1)).b <(rd l i).a
     ·rw [decide_eq_true q,decide_eq_false (by omega)];rfl
     ·rw [decide_eq_false q,decide_eq_true (by omega)];rfl
    rw [decide_eq_false hi0];simp (disch:=omega) only [z3k,hlt,hin,g1,g2,g3,g4,Zu,Zx,Zj,y5f,z6i,Bool.false_or,Bool.and_true,cond_true,cond_false]
  rcases Yv (w2p l i) with q | q
  ·obtain ⟨n,hn⟩:=u0s l hl k (i+1) (by omega) (fun j hj=>by
    rcases Nat.eq_or_lt_of_le (Nat.le_of_lt_succ hj) with rfl | hj
    ·exact q
    ·exact ht j hj)
   refine ⟨n+1,?_⟩;rw [Zw,step,q,cond_true];exact hn
  ·have hv:(List.range l.length).all (w2p l)=false:=Bool.eq_false_iff.2 fun e=>by have:=List.all_eq_true.1 e i (List.mem_range.2 hi);rw [q] at this;cases this
   refine ⟨1,?_⟩;rw [Zw,step,q,hv,cond_false,Zg];rfl
theorem u6i (l:List R2) (h:z3l l=true): ∃n,Yj (z3k l) n (y1n l)=.ret [.int .i64 (y5u l)]:=by
 unfold y1n y5u;by_cases h:400<l.length
 ·refine ⟨0,?_⟩;rw [decide_eq_true h,Ye (show (l.length:Int)>400 by omega)];rfl
 ·obtain ⟨n,hn⟩:=u0s l (by omega) l.length 0 (Nat.zero_add _) (fun j hj=>absurd hj (Nat.not_lt_zero _));refine ⟨n,?_⟩;rw [decide_eq_false h,Ys (show¬(l.length:Int)>400 by omega),cond_false,cond_false];exact hn
inductive Op where
 | d
abbrev Op.k :Op→Nat
 | .d =>2
abbrev nC :Op→Nat
 | .d =>nSpD1
abbrev nSp :Op→Nat
 | .d =>nSpD
abbrev nRg :Op→Nat
 | .d =>nRgD
abbrev nSl :Op→Nat
 | .d =>nSlD
def cV (q:Op) (a b:Bool):Bool:=opB q.k a b
theorem cd_run (a b:Bool): ∃N,Yj (v2c a b) N (x8u a b)=.ret [.bool (cV .d a b)]:=⟨0,by cases a <;> cases b <;> rfl⟩
theorem z6q (l:List R2):y5u l=0↔l.length≤400∧l.all z1c=true∧Can l:=by
 unfold y5u;constructor
 ·intro h;by_cases h1:400<l.length
  ·rw [decide_eq_true h1] at h;cases h
  ·rw [decide_eq_false h1,cond_false] at h;cases hq:(List.range l.length).all (w2p l) with
   | false=>rw [hq] at h;cases h
   | true=>
    have hq:=fun i hi=>List.all_eq_true.1 hq i (List.mem_range.2 hi);have hv: ∀i,i<l.length→z1c (rd l i)=true:=fun i hi=>by have:=hq i hi;unfold w2p at this;rw [Bool.and_eq_true] at this;exact this.1
    have hp: ∀i,i<l.length→(rd l i).a <(rd l i).b :=fun i hi=>by have:=hv i hi;simp only [z1c,Bool.and_eq_true,decide_eq_true_eq] at this;exact this.1
    have hs: ∀i,i+1<l.length→(rd l i).b <(rd l (i+1)).a :=fun i hi=>by
     have:=hq (i+1) hi;unfold w2p at this;rw [Bool.and_eq_true,Bool.or_eq_true] at this;rcases this.2 with q | q
     ·have:=of_decide_eq_true q;omega
     ·exact of_decide_eq_true q
    refine ⟨by omega,List.all_eq_true.2 fun s hs=> ?_,⟨fun s hs=> ?_,?_⟩⟩
    ·obtain ⟨i,hi,rfl⟩:=List.getElem_of_mem hs;rw [←Yt hi];exact hv i hi
    ·obtain ⟨i,hi,rfl⟩:=List.getElem_of_mem hs;rw [←Yt hi];exact hp i hi
    ·refine List.pairwise_iff_getElem.2 fun i j hi hj hij=> ?_;rw [←Yt hi,←Yt hj];clear hi
     induction j with
     | zero=>omega
     | succ j ih=>
      have h1:=hs j hj;rcases Nat.eq_or_lt_of_le (Nat.le_of_lt_succ hij) with rfl | q
      ·exact h1
      ·have h2:=ih (by omega) q;have h3:=hp j (by omega);omega
 ·rintro ⟨h1,h2,h3⟩;rw [decide_eq_false (by omega),cond_false];have:(List.range l.length).all (w2p l)=true:=List.all_eq_true.2 fun i hi=>by
   have hi:=List.mem_range.1 hi;unfold w2p;rw [List.all_eq_true.1 h2 (rd l i) (by rw [Yt hi];exact List.getElem_mem hi),Bool.true_and,Bool.or_eq_true];by_cases h0:i=0
   ·exact .inl (decide_eq_true h0)
   ·refine .inr (decide_eq_true ?_);have:=List.pairwise_iff_getElem.1 h3.sep (i - 1) i (by omega) hi (by omega);rwa [←Yt,←Yt] at this
  rw [this];rfl
def fSch :List AVal→Option (AVal×Bool)
 | [a0]=>match asL R2 a0 with
  | some (L0,g0,n0)=>some (.int .i64 (y5u L0),isT R2 n0 g0&&(z3l L0))
  | _=>none
 | _=>none
theorem u9o {S:Specs} (hS:Zq prog S):Zq prog (S.with w0r fSch):=by
 refine z3b hS (by kernel_rfl) fun args v h=> ?_;unfold fSch at h;split at h
 ·rename_i a0;split at h
  ·rename_i L0 g0 n0 e0;simp only [Option.some.injEq,Prod.mk.injEq,Bool.and_eq_true] at h;obtain ⟨rfl,ho0,hw⟩:=h;obtain ⟨N,hN⟩:=u6i L0 hw;exact ⟨_,_,(.cons (asL_le e0 ho0) .nil),rfl,v4i L0 N _ hN,3,rfl⟩
  ·cases h
 ·cases h
def fCd :List AVal→Option (AVal×Bool)
 | [.bool b0,.bool b1]=>some (.bool (cV .d b0 b1),true)
 | _=>none
theorem fCd_ok {S:Specs} (hS:Zq prog S):Zq prog (S.with (nC .d) fCd):=by
 refine z3b hS (by kernel_rfl) fun args v h=> ?_;unfold fCd at h;split at h
 ·rename_i b0 b1;simp only [Option.some.injEq,Prod.mk.injEq,and_true] at h;subst h;obtain ⟨N,hN⟩:=cd_run b0 b1;exact ⟨_,_,(.cons (.refl _) (.cons (.refl _) .nil)),rfl,j1h b0 b1 N _ hN,3,rfl⟩
 ·cases h
def Va :Specs:=((T9.with w0r fSch).with (nC .d) fCd)
theorem z1s :Zq prog Va:=(fCd_ok (u9o z6k))
end Go.Am
namespace Go.Am
open Go.Proofs.Tryz
open Go.Proofs
inductive spjS where
 | h0 (v3:List R3) (v17:Int)
 | h1 (v3:List R3) (v17:Int)
 | h2 (v5:List R3) (v6:Int) (v7:Int) (aB:Int) (bU:Int) (aE:Int) (aC:Bool) (aD:List R2)
abbrev Uj (aD:List R2) (aE:Int) (v5:List R3) (v7:Int):=(aD++[(R2.mk aE (rd v5 (0+(tn v7))).a)])
def w6m (l0:List R2) (l1:List R2):AFr:=⟨⟨29,0,true⟩,(Wd prog 148 [1,1,1,0] 3),(Zb prog 148 [1,1,1,0] 1),none,(Zy prog 23),Yq [(21,(.dat l0.length (Zz l0))),(22,(.dat l1.length (Zz l1))),(23,(.fn 149 []))]⟩
abbrev z9y (aD:List R2) (aE:Int) (v5:List R3) (v7:Int):=(Zt (Zz aD) 0 aD.length 2 [(ii aE),(ii (rd v5 (0+(tn v7))).a)])
def w6l (l0:List R2) (l1:List R2):AFr:=⟨⟨11,0,true⟩,(Wd prog 126 [1,0] 2),(Zb prog 126 [1,0] 1),none,(Zy prog 16),Yq [(6,(.dat l0.length (Zz l0))),(7,(.dat l1.length (Zz l1)))]⟩
def v9x :AFr:=⟨⟨42,0,true⟩,(Wd prog 170 [1,1,1,1,1,0,0] 3),(Zb prog 170 [1,1,1,1,1,0,0] 1),none,(Zy prog 4),Yq [(5,(.ptr 1 0)),(6,.nils),(7,(.ptr 2 0)),(8,(.ptr 3 0)),(9,(.ptr 4 0)),(10,(.ptr 5 0)),(11,(.ptr 6 0)),(16,(.sl 0 0 2 (.un 1)))]⟩
abbrev y6n (v3:List R3) (l0:List R2) (v17:Int):=(v3++[(R3.mk (rd l0 (tn v17)).a 0 1),(R3.mk (rd l0 (tn v17)).b 0 (-1))])
abbrev y6m (v3:List R3) (l1:List R2) (v17:Int):=(v3++[(R3.mk (rd l1 (tn v17)).a 1 1),(R3.mk (rd l1 (tn v17)).b 1 (-1))])
def spjC (q:Op) (l0:List R2) (l1:List R2):spjS→Cfg
 | .h0 v3 v17=>⟨⟨38,0,true⟩,none,(Zb prog 185 [1,1,0,1,0,0,1,1,0,0,1,1,0,0] 0),none,(Zy prog 15),⟨Yq [(3,(.sla 7 3 0 v3.length (.un 3))),(4,(ii 0)),(8,(.sl 0 0 2 (.un 1))),(9,(ii 2)),(10,(ii 0)),(15,(.dat l0.length (Zz l0))),(16,(ii (l0.length:Int))),(17,(ii v17))],Uv [⟨[(.dat l0.length (Zz l0)),(.dat l1.length (Zz l1))],158,none⟩,⟨[(.fn 149 [])],198,none⟩,⟨[(ii 0),(ii 0)],235,none⟩,⟨[.nils],158,none⟩,⟨[(ii 0)],3,none⟩,⟨[(.bool false)],4,none⟩,⟨[(.fn 184 [(.ptr 5 0),(.ptr 4 0),(.ptr 3 0)])],236,none⟩,⟨rows v3.length (Zz v3),240,some ⟨3,v3.length,(Zz v3)⟩⟩] 0,8,[],true⟩,[v9x,(w6m l0 l1),(w6l l0 l1)],.leaf⟩
 | .h1 v3 v17=>⟨⟨38,0,true⟩,none,(Zb prog 185 [1,1,0,1,0,0,1,1,0,0,1,1,0,0] 0),none,(Zy prog 15),⟨Yq [(3,(.sla 7 3 0 v3.length (.un 3))),(4,(ii 1)),(8,(.sl 0 0 2 (.un 1))),(9,(ii 2)),(10,(ii 1)),(15,(.dat l1.length (Zz l1))),(16,(ii (l1.length:Int))),(17,(ii v17))],Uv [⟨[(.dat l0.length (Zz l0)),(.dat l1.length (Zz l1))],158,none⟩,⟨[(.fn 149 [])],198,none⟩,⟨[(ii 0),(ii 0)],235,none⟩,⟨[.nils],158,none⟩,⟨[(ii 0)],3,none⟩,⟨[(.bool false)],4,none⟩,⟨[(.fn 184 [(.ptr 5 0),(.ptr 4 0),(.ptr 3 0)])],236,none⟩,⟨rows v3.length (Zz v3),240,some ⟨3,v3.length,(Zz v3)⟩⟩] 0,8,[],true⟩,[v9x,(w6m l0 l1),(w6l l0 l1)],.leaf⟩
 | .h2 v5 v6 v7 aB bU aE aC aD=>⟨⟨16,0,true⟩,none,(Zb prog 197 [1,0,0] 0),none,[],⟨Yq [(0,(.yld 0)),(5,(.sla 7 3 0 v5.length (.un 3))),(6,(ii v6)),(7,(ii v7))],z0z [(1,⟨[(.fn 149 [])],198,none⟩),(2,⟨[(ii aB),(ii bU)],235,none⟩),(3,⟨[(ii aE)],3,none⟩),(4,⟨[(.bool aC)],4,none⟩),(5,⟨[(.fn 184 [(.ptr 4 0),(.ptr 3 0),(.ptr 6 0)])],236,none⟩),(6,⟨[(.sla 8 2 0 aD.length (.un 2))],158,none⟩),(7,⟨rows v5.length (Zz v5),240,some ⟨3,v5.length,(Zz v5)⟩⟩),(8,⟨rows aD.length (Zz aD),110,some ⟨2,aD.length,(Zz aD)⟩⟩)],9,[],true⟩,[⟨⟨42,0,true⟩,none,(.inRangeFunc 0::(Zb prog 170 [1,1,1,1,1,0,1,0] 1)),none,(Zy prog 4),Yq [(6,.nils),(8,(.ptr 6 0))]⟩,(w6m l0 l1),(w6l l0 l1)],(z5j [(0,⟨.ready,none,42,Yq [(5,(.ptr 1 0)),(7,(.ptr 2 0)),(9,(.ptr 3 0)),(10,(.ptr 4 0)),(11,(.ptr 5 0))],[18],(Xd prog 170 [1,1,1,1,1,0,1,0,0]),(Xd prog 170 [1,1,1,1,1,0,1,0,1])⟩)])⟩
def spjN0 :List (Option (List Nat)):=[some [3,4,8,9,10,15,16,17],some [5,6,7,8,9,10,11,16],some [21,22,23],some [6,7]]
def spjM0 :List (Option (List Nat)):=[]
def spjN1 :List (Option (List Nat)):=[some [3,4,8,9,10,15,16,17],some [5,6,7,8,9,10,11,16],some [21,22,23],some [6,7]]
def spjM1 :List (Option (List Nat)):=[]
def y3a :List (Option (List Nat)):=[some [0,5,6,7],some [6,8],some [21,22,23],some [6,7]]
def y3b :List (Option (List Nat)):=[some [5,7,9,10,11],none,none,none,none,none,none,none,none]
def Wm (q:Op) (l0:List R2) (l1:List R2):spjS→Xe spjS
 | .h0 v3 v17=>(bif (decide (v17<(l0.length:Int))) then (bif ((decide (0≤v17∧v17<(l0.length:Int)))&&true) then (bif (Nat.beq 3 3&&((decide (0+v3.length=v3.length))&&decide ((v3.length+2+1)*(24+1)≤Un))) then (.to (.h0 (v3++[(R3.mk (rd l0 v17.toNat).a 0 1),(R3.mk (rd l0 v17.toNat).b 0 (-1))]) (IntKind.wrap .i64 (v17+1)))) else .stuck) else .stuck) else (.to (.h1 v3 0)))
 | .h1 v3 v17=>(bif (decide (v17<(l1.length:Int))) then (bif ((decide (0≤v17∧v17<(l1.length:Int)))&&true) then (bif (Nat.beq 3 3&&((decide (0+v3.length=v3.length))&&decide ((v3.length+2+1)*(24+1)≤Un))) then (.to (.h1 (v3++[(R3.mk (rd l1 v17.toNat).a 1 1),(R3.mk (rd l1 v17.toNat).b 1 (-1))]) (IntKind.wrap .i64 (v17+1)))) else .stuck) else .stuck) else (bif (y0v (cvT v3)) then (bif (decide (v3.length<4611686018427387904)) then (bif (decide (v3.length=v3.length)) then (.to (.h2 (z0n (cvT v3)) (v3.length:Int) 0 0 0 0 false ([]:List R2))) else .stuck) else .stuck) else .stuck))
 | .h2 v5 v6 v7 aB bU aE aC aD=>(bif (decide (v7<v6)) then (bif ((decide (0≤v7∧v7<(v5.length:Int)))&&true) then (bif (decide ((0+v7.toNat)<v5.length)) then (bif (!aC) then (bif (decide ((rd v5 (0+v7.toNat)).b =Int.ofNat 0)) then (.to (.h2 v5 v6 (IntKind.wrap .i64 (v7+1)) (IntKind.wrap .i64 (aB+(rd v5 (0+v7.toNat)).c)) bU (rd v5 (0+v7.toNat)).a ((cV q) (decide ((IntKind.wrap .i64 (aB+(rd v5 (0+v7.toNat)).c))>0)) (decide (bU>0))) aD)) else (bif (decide ((rd v5 (0+v7.toNat)).b =Int.ofNat 1)) then (.to (.h2 v5 v6 (IntKind.wrap .i64 (v7+1)) aB (IntKind.wrap .i64 (bU+(rd v5 (0+v7.toNat)).c)) (rd v5 (0+v7.toNat)).a ((cV q) (decide (aB>0)) (decide ((IntKind.wrap .i64 (bU+(rd v5 (0+v7.toNat)).c))>0))) aD)) else .stuck)) else (bif (aE == (rd v5 (0+v7.toNat)).a) then (bif (decide ((rd v5 (0+v7.toNat)).b =Int.ofNat 0)) then (.to (.h2 v5 v6 (IntKind.wrap .i64 (v7+1)) (IntKind.wrap .i64 (aB+(rd v5 (0+v7.toNat)).c)) bU (rd v5 (0+v7.toNat)).a ((cV q) (decide ((IntKind.wrap .i64 (aB+(rd v5 (0+v7.toNat)).c))>0)) (decide (bU>0))) aD)) else (bif (decide ((rd v5 (0+v7.toNat)).b =Int.ofNat 1)) then (.to (.h2 v5 v6 (IntKind.wrap .i64 (v7+1)) aB (IntKind.wrap .i64 (bU+(rd v5 (0+v7.toNat)).c)) (rd v5 (0+v7.toNat)).a ((cV q) (decide (aB>0)) (decide ((IntKind.wrap .i64 (bU+(rd v5 (0+v7.toNat)).c))>0))) aD)) else .stuck)) else (bif (decide ((aD.length:Int)>0)) then (bif ((decide (0≤(IntKind.wrap .i64 ((aD.length:Int) - 1))∧(IntKind.wrap .i64 ((aD.length:Int) - 1))<(aD.length:Int)))&&true) then (bif (decide ((0+(Int.toNat (IntKind.wrap .i64 ((aD.length:Int) - 1))))<aD.length)) then (bif ((rd aD (0+(Int.toNat (IntKind.wrap .i64 ((aD.length:Int) - 1))))).b == aE) then (bif (decide ((rd v5 (0+v7.toNat)).b =Int.ofNat 0)) then (.to (.h2 v5 v6 (IntKind.wrap .i64 (v7+1)) (IntKind.wrap .i64 (aB+(rd v5 (0+v7.toNat)).c)) bU (rd v5 (0+v7.toNat)).a ((cV q) (decide ((IntKind.wrap .i64 (aB+(rd v5 (0+v7.toNat)).c))>0)) (decide (bU>0))) (aD.set (0+(Int.toNat (IntKind.wrap .i64 ((aD.length:Int) - 1)))) (R2.mk (rd aD (0+(Int.toNat (IntKind.wrap .i64 ((aD.length:Int) - 1))))).a (rd v5 (0+v7.toNat)).a)))) else (bif (decide ((rd v5 (0+v7.toNat)).b =Int.ofNat 1)) then (.to (.h2 v5 v6 (IntKind.wrap .i64 (v7+1)) aB (IntKind.wrap .i64 (bU+(rd v5 (0+v7.toNat)).c)) (rd v5 (0+v7.toNat)).a ((cV q) (decide (aB>0)) (decide ((IntKind.wrap .i64 (bU+(rd v5 (0+v7.toNat)).c))>0))) (aD.set (0+(Int.toNat (IntKind.wrap .i64 ((aD.length:Int) - 1)))) (R2.mk (rd aD (0+(Int.toNat (IntKind.wrap .i64 ((aD.length:Int) - 1))))).a (rd v5 (0+v7.toNat)).a)))) else .stuck)) else (bif (Nat.beq 2 2&&((decide (0+aD.length=aD.length))&&decide ((aD.length+1+1)*(16+1)≤Un))) then (bif (decide ((rd v5 (0+v7.toNat)).b =Int.ofNat 0)) then (.to (.h2 v5 v6 (IntKind.wrap .i64 (v7+1)) (IntKind.wrap .i64 (aB+(rd v5 (0+v7.toNat)).c)) bU (rd v5 (0+v7.toNat)).a ((cV q) (decide ((IntKind.wrap .i64 (aB+(rd v5 (0+v7.toNat)).c))>0)) (decide (bU>0))) (aD++[(R2.mk aE (rd v5 (0+v7.toNat)).a)]))) else (bif (decide ((rd v5 (0+v7.toNat)).b =Int.ofNat 1)) then (.to (.h2 v5 v6 (IntKind.wrap .i64 (v7+1)) aB (IntKind.wrap .i64 (bU+(rd v5 (0+v7.toNat)).c)) (rd v5 (0+v7.toNat)).a ((cV q) (decide (aB>0)) (decide ((IntKind.wrap .i64 (bU+(rd v5 (0+v7.toNat)).c))>0))) (aD++[(R2.mk aE (rd v5 (0+v7.toNat)).a)]))) else .stuck)) else .stuck)) else .stuck) else .stuck) else (bif (Nat.beq 2 2&&((decide (0+aD.length=aD.length))&&decide ((aD.length+1+1)*(16+1)≤Un))) then (bif (decide ((rd v5 (0+v7.toNat)).b =Int.ofNat 0)) then (.to (.h2 v5 v6 (IntKind.wrap .i64 (v7+1)) (IntKind.wrap .i64 (aB+(rd v5 (0+v7.toNat)).c)) bU (rd v5 (0+v7.toNat)).a ((cV q) (decide ((IntKind.wrap .i64 (aB+(rd v5 (0+v7.toNat)).c))>0)) (decide (bU>0))) (aD++[(R2.mk aE (rd v5 (0+v7.toNat)).a)]))) else (bif (decide ((rd v5 (0+v7.toNat)).b =Int.ofNat 1)) then (.to (.h2 v5 v6 (IntKind.wrap .i64 (v7+1)) aB (IntKind.wrap .i64 (bU+(rd v5 (0+v7.toNat)).c)) (rd v5 (0+v7.toNat)).a ((cV q) (decide (aB>0)) (decide ((IntKind.wrap .i64 (bU+(rd v5 (0+v7.toNat)).c))>0))) (aD++[(R2.mk aE (rd v5 (0+v7.toNat)).a)]))) else .stuck)) else .stuck)))) else .stuck) else .stuck) else (bif (decide ((aD.length:Int)>400)) then (.ret [.nils,(.int .i64 4)]) else (.ret [(.dat aD.length (Zz aD)),(.int .i64 0)])))
def y1i (q:Op) (l0:List R2) (l1:List R2):Xe spjS:=(bif (z3l (cvT l0)) then (bif ((y5u (cvT l0)) != 0) then (.ret [.nils,(.int .i64 (y5u (cvT l0)))]) else (bif (z3l (cvT l1)) then (bif ((y5u (cvT l1)) != 0) then (.ret [.nils,(.int .i64 (y5u (cvT l1)))]) else (.to (.h0 ([]:List R3) 0))) else .stuck)) else .stuck)
theorem w2n (q:Op) (l0:List R2) (l1:List R2): ∀s,Xr prog (Zy prog 126) (spjC q l0 l1) (spjC q l0 l1 s) (Wm q l0 l1 s):=by cases q <;> refine (?f: ∀q:Op,∀s,Xr prog (Zy prog 126) (spjC q l0 l1) (spjC q l0 l1 s) (Wm q l0 l1 s)) _ <;> exact fun q=>fun
 | .h0 v3 v17=>(lb (fun k0=>(lo fun o0=>(lo fun o1=>(sl z1s 36 [] ⟨[0,1,2,3,4,5,6,10],[],spjN0,spjM0⟩ ⟨[(3,.len (y6n v3 l0 v17).length)],(kpB 7 [.rowed 3 (y6n v3 l0 v17).length (Zz (y6n v3 l0 v17))]),[]⟩ [true] (pp (xL (v3.length+2) (y6n v3 l0 v17).length) (pp (xL (v3.length+2) (y6n v3 l0 v17).length) (pp (xS (v3.length+2) (Zt (Zz v3) 0 v3.length 3 [(ii (rd l0 (tn v17)).a),(ii 0),(ii 1),(ii (rd l0 (tn v17)).b),(ii 0),(ii (-1))]) (Zz (y6n v3 l0 v17))) (pp (pp (xF (Zt (Zz v3) 0 v3.length 3 [(ii (rd l0 (tn v17)).a),(ii 0),(ii 1),(ii (rd l0 (tn v17)).b),(ii 0),(ii (-1))])) nn) (ww o1 (ww o0 (tt k0 nn))))))))))) (fun k0=>(sl z1s 38 [] ⟨(List.range 8),[],spjN1,spjM1⟩ ⟨[],[],[]⟩ (bl 2 2) (pp (fl v3 nn) (tt k0 nn)))))
 | .h1 v3 v17=>(lb (fun k0=>(lo fun o0=>(lo fun o1=>(sl z1s 36 [] ⟨[0,1,2,3,4,5,6,10],[],spjN1,spjM1⟩ ⟨[(3,.len (y6m v3 l1 v17).length)],(kpB 7 [.rowed 3 (y6m v3 l1 v17).length (Zz (y6m v3 l1 v17))]),[]⟩ [true] (pp (xL (v3.length+2) (y6m v3 l1 v17).length) (pp (xL (v3.length+2) (y6m v3 l1 v17).length) (pp (xS (v3.length+2) (Zt (Zz v3) 0 v3.length 3 [(ii (rd l1 (tn v17)).a),(ii 1),(ii 1),(ii (rd l1 (tn v17)).b),(ii 1),(ii (-1))]) (Zz (y6m v3 l1 v17))) (pp (pp (xF (Zt (Zz v3) 0 v3.length 3 [(ii (rd l1 (tn v17)).a),(ii 1),(ii 1),(ii (rd l1 (tn v17)).b),(ii 1),(ii (-1))])) nn) (ww o1 (ww o0 (tt k0 nn))))))))))) (fun k0=>(lo fun o0=>(lo fun o1=>(lo fun o2=>(sl z1s 54 [(110,2,Zz ([]:List R2))] ⟨[9,1,2,4,5,6,3,7,10],[],y3a,y3b⟩ ⟨[(5,.len (z0n (cvT v3)).length)],(kpB 6 [.cells [.grow 8 2],.rowed 3 (z0n (cvT v3)).length (Zz (z0n (cvT v3))),.keep]),[]⟩ (bl 2 0) (pp (xL v3.length (z0n (cvT v3)).length (by first | exact z7o _ | exact Vu rfl)) (pp (xL v3.length (z0n (cvT v3)).length (by first | exact z7o _ | exact Vu rfl)) (pp (xS v3.length (Zz (z0n (cvT v3))) (Zz (z0n (cvT v3)))) (pp (fl (z0n (cvT v3)) (fl ([]:List R2) nn)) (pp (pp (xG (Nat.beq 3 3)) (pp (xG (Nat.beq 3 3)) (pp (xG (Nat.beq 0 0)) (pp (pp (xG (decide (v3.length=v3.length))) (pp (xr v3) (xG (decide (v3.length<4611686018427387904))))) (xG (y0v (cvT v3))))))) (tt k0 nn))))))))))))
 | .h2 v5 v6 v7 aB bU aE aC aD=>(lb (fun k0=>(lo fun aJ=>(lo fun bJ=>(lb (fun k1=>(lb (fun k2=>(sl z1s 62 [] ⟨(List.range 9),[],y3a,y3b⟩ ⟨[],[],[]⟩ (trs 5 (bl 3 0)) (pp (fl v5 (fl aD nn)) (ww k2 (tt k1 (ww bJ (ww aJ (tt k0 nn)))))))) (fun k2=>(lb (fun k3=>(sl z1s 62 [] ⟨(List.range 9),[],y3a,y3b⟩ ⟨[],[],[]⟩ (trs 6 (bl 4 2)) (pp (fl v5 (fl aD nn)) (ww k3 (tt k1 (ww bJ (ww aJ (tt k0 nn)))))))) (fun k3=>trivial))))) (fun k1=>(lb (fun k2=>(lb (fun k3=>(sl z1s 62 [] ⟨(List.range 9),[],y3a,y3b⟩ ⟨[],[],[]⟩ (bl 8 17) (pp (fl v5 (fl aD nn)) (ww k3 (tt k2 (tt k1 (ww bJ (ww aJ (tt k0 nn))))))))) (fun k3=>(lb (fun k4=>(sl z1s 62 [] ⟨(List.range 9),[],y3a,y3b⟩ ⟨[],[],[]⟩ (bl 10 177) (pp (fl v5 (fl aD nn)) (ww k4 (tt k2 (tt k1 (ww bJ (ww aJ (tt k0 nn))))))))) (fun k4=>trivial))))) (fun k2=>(lb (fun k3=>(lo fun cM=>(lo fun dP=>(lb (fun k4=>(lb (fun k5=>(sl z1s 81 [] ⟨(List.range 9),[],y3a,y3b⟩ ⟨[],(kpB 6 [.cells [.len (aD.set (0+(tn (wr ((aD.length:Int) - 1)))) (R2.mk (rd aD (0+(tn (wr ((aD.length:Int) - 1))))).a (rd v5 (0+(tn v7))).a)).length],.keep,.rowed 2 (aD.set (0+(tn (wr ((aD.length:Int) - 1)))) (R2.mk (rd aD (0+(tn (wr ((aD.length:Int) - 1))))).a (rd v5 (0+(tn v7))).a)).length (Zz (aD.set (0+(tn (wr ((aD.length:Int) - 1)))) (R2.mk (rd aD (0+(tn (wr ((aD.length:Int) - 1))))).a (rd v5 (0+(tn v7))).a)))]),[]⟩ (bl 17 16353) (pp (xL aD.length (aD.set (0+(tn (wr ((aD.length:Int) - 1)))) (R2.mk (rd aD (0+(tn (wr ((aD.length:Int) - 1))))).a (rd v5 (0+(tn v7))).a)).length) (pp (xL aD.length (aD.set (0+(tn (wr ((aD.length:Int) - 1)))) (R2.mk (rd aD (0+(tn (wr ((aD.length:Int) - 1))))).a (rd v5 (0+(tn v7))).a)).length) (pp (xS aD.length (Xj (Zz aD) (0+(tn (wr ((aD.length:Int) - 1)))) 1 [(ii (rd v5 (0+(tn v7))).a)]) (Zz (aD.set (0+(tn (wr ((aD.length:Int) - 1)))) (R2.mk (rd aD (0+(tn (wr ((aD.length:Int) - 1))))).a (rd v5 (0+(tn v7))).a)))) (pp (fl v5 (pp (xF (Xj (Zz aD) (0+(tn (wr ((aD.length:Int) - 1)))) 1 [(ii (rd v5 (0+(tn v7))).a)])) nn)) (ww k5 (ww dP (ww cM (tt k4 (ww dP (ww cM (tt k3 (tt k2 (tt k1 (ww bJ (ww aJ (tt k0 nn)))))))))))))))))) (fun k5=>(lb (fun k6=>(sl z1s 81 [] ⟨(List.range 9),[],y3a,y3b⟩ ⟨[],(kpB 6 [.cells [.len (aD.set (0+(tn (wr ((aD.length:Int) - 1)))) (R2.mk (rd aD (0+(tn (wr ((aD.length:Int) - 1))))).a (rd v5 (0+(tn v7))).a)).length],.keep,.rowed 2 (aD.set (0+(tn (wr ((aD.length:Int) - 1)))) (R2.mk (rd aD (0+(tn (wr ((aD.length:Int) - 1))))).a (rd v5 (0+(tn v7))).a)).length (Zz (aD.set (0+(tn (wr ((aD.length:Int) - 1)))) (R2.mk (rd aD (0+(tn (wr ((aD.length:Int) - 1))))).a (rd v5 (0+(tn v7))).a)))]),[]⟩ (bl 19 98273) (pp (xL aD.length (aD.set (0+(tn (wr ((aD.length:Int) - 1)))) (R2.mk (rd aD (0+(tn (wr ((aD.length:Int) - 1))))).a (rd v5 (0+(tn v7))).a)).length) (pp (xL aD.length (aD.set (0+(tn (wr ((aD.length:Int) - 1)))) (R2.mk (rd aD (0+(tn (wr ((aD.length:Int) - 1))))).a (rd v5 (0+(tn v7))).a)).length) (pp (xS aD.length (Xj (Zz aD) (0+(tn (wr ((aD.length:Int) - 1)))) 1 [(ii (rd v5 (0+(tn v7))).a)]) (Zz (aD.set (0+(tn (wr ((aD.length:Int) - 1)))) (R2.mk (rd aD (0+(tn (wr ((aD.length:Int) - 1))))).a (rd v5 (0+(tn v7))).a)))) (pp (fl v5 (pp (xF (Xj (Zz aD) (0+(tn (wr ((aD.length:Int) - 1)))) 1 [(ii (rd v5 (0+(tn v7))).a)])) nn)) (ww k6 (ww dP (ww cM (tt k4 (ww dP (ww cM (tt k3 (tt k2 (tt k1 (ww bJ (ww aJ (tt k0 nn)))))))))))))))))) (fun k6=>trivial))))) (fun k4=>(lo fun cL=>(lb (fun k5=>(sl z1s 81 [] ⟨[0,1,2,3,4,5,6,7,12],[],y3a,y3b⟩ ⟨[],(kpB 6 [.cells [.len (Uj aD aE v5 v7).length],.keep,.rowed 2 (Uj aD aE v5 v7).length (Zz (Uj aD aE v5 v7))]),[]⟩ (bl 17 8161) (pp (xL (aD.length+1) (Uj aD aE v5 v7).length) (pp (xL (aD.length+1) (Uj aD aE v5 v7).length) (pp (xS (aD.length+1) (z9y aD aE v5 v7) (Zz (Uj aD aE v5 v7))) (pp (fl v5 (pp (xF (z9y aD aE v5 v7)) nn)) (ww k5 (ww cL (tt k4 (ww dP (ww cM (tt k3 (tt k2 (tt k1 (ww bJ (ww aJ (tt k0 nn))))))))))))))))) (fun k5=>(lb (fun k6=>(sl z1s 81 [] ⟨[0,1,2,3,4,5,6,7,12],[],y3a,y3b⟩ ⟨[],(kpB 6 [.cells [.len (Uj aD aE v5 v7).length],.keep,.rowed 2 (Uj aD aE v5 v7).length (Zz (Uj aD aE v5 v7))]),[]⟩ (bl 19 90081) (pp (xL (aD.length+1) (Uj aD aE v5 v7).length) (pp (xL (aD.length+1) (Uj aD aE v5 v7).length) (pp (xS (aD.length+1) (z9y aD aE v5 v7) (Zz (Uj aD aE v5 v7))) (pp (fl v5 (pp (xF (z9y aD aE v5 v7)) nn)) (ww k6 (ww cL (tt k4 (ww dP (ww cM (tt k3 (tt k2 (tt k1 (ww bJ (ww aJ (tt k0 nn))))))))))))))))) (fun k6=>trivial)))))))))) (fun k3=>(lo fun cM=>(lb (fun k4=>(sl z1s 81 [] ⟨[0,1,2,3,4,5,6,7,12],[],y3a,y3b⟩ ⟨[],(kpB 6 [.cells [.len (Uj aD aE v5 v7).length],.keep,.rowed 2 (Uj aD aE v5 v7).length (Zz (Uj aD aE v5 v7))]),[]⟩ (bl 17 1) (pp (xL (aD.length+1) (Uj aD aE v5 v7).length) (pp (xL (aD.length+1) (Uj aD aE v5 v7).length) (pp (xS (aD.length+1) (z9y aD aE v5 v7) (Zz (Uj aD aE v5 v7))) (pp (fl v5 (pp (xF (z9y aD aE v5 v7)) nn)) (ww k4 (ww cM (tt k3 (tt k2 (tt k1 (ww bJ (ww aJ (tt k0 nn)))))))))))))) (fun k4=>(lb (fun k5=>(sl z1s 81 [] ⟨[0,1,2,3,4,5,6,7,12],[],y3a,y3b⟩ ⟨[],(kpB 6 [.cells [.len (Uj aD aE v5 v7).length],.keep,.rowed 2 (Uj aD aE v5 v7).length (Zz (Uj aD aE v5 v7))]),[]⟩ (bl 19 81921) (pp (xL (aD.length+1) (Uj aD aE v5 v7).length) (pp (xL (aD.length+1) (Uj aD aE v5 v7).length) (pp (xS (aD.length+1) (z9y aD aE v5 v7) (Zz (Uj aD aE v5 v7))) (pp (fl v5 (pp (xF (z9y aD aE v5 v7)) nn)) (ww k5 (ww cM (tt k3 (tt k2 (tt k1 (ww bJ (ww aJ (tt k0 nn)))))))))))))) (fun k5=>trivial)))))))))))))) (fun k0=>(lb (fun k1=>(lr 11 3 [1,1,1,1,1,1,0] 1 16 [(4,.nils),(5,(ii 4))] (sl z1s 37 [] ⟨[],[],[some [4,5]],[]⟩ ⟨[],[],[]⟩ (bl 2 2) (tt k1 (tt k0 nn))))) (fun k1=>(lr 11 3 [1,1,1,1,1,1,0] 1 16 [(4,(.dat aD.length (Zz aD))),(5,(ii 0))] (sl z1s 39 [] ⟨[],[8],[some [4,5]],[]⟩ ⟨[(4,.frz aD.length aD.length (Zz aD) (Zz aD))],[],[]⟩ (bl 2 0) (pp (xZ (z2u 2 2 0 aD.length aD.length (Zz aD)) aD.length (Zz aD)) (pp (xL aD.length aD.length) (pp (xS aD.length (Zz aD) (Zz aD)) (pp (fl aD nn) (tt k1 (tt k0 nn))))))))))))
theorem x5k (q:Op) (l0:List R2) (l1:List R2):Xr prog (Zy prog 126) (spjC q l0 l1) (Zi prog 126 [(.dat l0.length (Zz l0)),(.dat l1.length (Zz l1))] true []) (y1i q l0 l1):=by cases q <;> exact (lo fun bO=>(lb (fun k0=>(lr 11 3 [1,1,1,1,1,1,0] 1 16 [(4,.nils),(5,(ii (y5u (cvT l0))))] (sl z1s 40 [] ⟨[],[],[some [4,5]],[]⟩ ⟨[],[],[]⟩ [true] (tt k0 (pp (pp (xr l0) (xw bO)) nn))))) (fun k0=>(lo fun aJ=>(lb (fun k1=>(lr 11 3 [1,1,1,1,1,1,0] 1 16 [(4,.nils),(5,(ii (y5u (cvT l1))))] (sl z1s 54 [] ⟨[],[],[some [4,5]],[]⟩ ⟨[],[],[]⟩ [false,true] (tt k1 (pp (pp (xr l1) (xw aJ)) (tt k0 (pp (pp (xr l0) (xw bO)) nn))))))) (fun k1=>(sl z1s 124 [(240,3,Zz ([]:List R3))] ⟨[6,0,1,2,3,4,5,7],[],spjN0,spjM0⟩ ⟨[(3,.grow 7 3)],[],[]⟩ [false,false,true] (pp (fl ([]:List R3) nn) (tt k1 (pp (pp (xr l1) (xw aJ)) (tt k0 (pp (pp (xr l0) (xw bO)) nn))))))))))))
theorem v3p (q:Op) (l0:List R2) (l1:List R2) (n:Nat) (vs:List AVal) (h:Yj (Wm q l0 l1) n (y1i q l0 l1)=.ret vs):Kg prog (Zy prog 126) (Zi prog 126 [(.dat l0.length (Zz l0)),(.dat l1.length (Zz l1))] true []) vs:=by have:=Yw (w2n q l0 l1) n _ (x5k q l0 l1);rwa [h] at this
end Go.Am
namespace Go.Am
open Go.Proofs.Tryz
open Go.Proofs
open Go.Sort Go.Shelf Go.RowKit Go.Lib
def spE (k:Nat) (a b:List R2):Int:=bif y5u a != 0 then y5u a else bif y5u b != 0 then y5u b else y9c (spJ k a b).length
theorem y0i (i:Int) (l:List R2):(Wu i l).length =2*l.length:=by
 induction l with
 | nil=>rfl
 | cons r l ih=>show (_::_::Wu i l).length =_;simp only [List.length_cons,ih];omega
theorem y8u (j:Int) (l:List R2) (i:Nat) (h:i<l.length):Wu j (l.drop i)=Wu j [rd l i]++Wu j (l.drop (i+1)):=by rw [Yc h];rfl
theorem z7x {j:Int} {l:List R2} {e:R3} (h:e∈Wu j l):e.b=j∧(e.c=1∨e.c= -1):=by
 obtain ⟨s,_,h⟩:=List.mem_flatMap.1 h;simp only [List.mem_cons,List.not_mem_nil,or_false] at h;rcases h with rfl | rfl
 ·exact ⟨rfl,.inl rfl⟩
 ·exact ⟨rfl,.inr rfl⟩
theorem x9p (f:Bool→Bool→Bool) (e:R3) (r:List R3) (o p last:Int) (inn:Bool) (out:List R2):sw2 f (e::r) o p last inn out=sw2 f r (bif e.b == 0 then o+e.c else o) (bif e.b == 0 then p else p+e.c) e.a (f (decide ((bif e.b == 0 then o+e.c else o)>0)) (decide ((bif e.b == 0 then p else p+e.c)>0))) (Ve out last inn e.a):=rfl
section
variable (q:Op) (a b:List R2)
theorem v9u (L:List R3) (hL:L.length≤2000) (hE: ∀i,i<L.length→((rd L i).b =0∨(rd L i).b =1)∧((rd L i).c =1∨(rd L i).c = -1)): ∀(k i:Nat) (o p last:Int) (inn:Bool) (out:List R2),i+k=L.length→ -(i:Int)≤o→o≤i→ -(i:Int)≤p→p≤i→out.length≤i→
  ∃n,Yj (Wm q a b) n (.to (.h2 L (L.length:Int) (i:Int) o p last inn out))=.ret (Jf (sw2 (opB q.k) (L.drop i) o p last inn out))
 | 0,i,o,p,last,inn,out,h,ho1,ho2,hp1,hp2,hout=>by
  refine ⟨1,?_⟩;rw [Zw,List.drop_eq_nil_of_le (by omega)];unfold Jf;show _=Xe.ret (bif decide ((out.length:Int)>400) then _ else _);rcases Yv (decide ((out.length:Int)>400)) with g | g <;>
  simp (disch:=omega) only [Wm,Zo,g,cond_true,cond_false,Zg];rfl
 | k + 1,i,o,p,last,inn,out,h,ho1,ho2,hp1,hp2,hout=>by
  obtain ⟨hb,hc⟩:=hE i (by omega);have hcl:=z2k out last inn (rd L i).a;have hcf: ∀x y,cV q x y=opB q.k x y:=fun _ _=>rfl;have hlt:decide ((i:Int)<(L.length:Int))=true:=decide_eq_true (by omega);have hw:IntKind.wrap .i64 (o+(rd L i).c)=o+(rd L i).c :=Zu (by rcases hc with hc | hc <;> omega);have hw':IntKind.wrap .i64 (p+(rd L i).c)=p+(rd L i).c :=Zu (by rcases hc with hc | hc <;> omega);have key: ∀(o' p':Int) (out':List R2),-((i+1:Nat):Int)≤o'→o'≤((i+1:Nat):Int)→ -((i+1:Nat):Int)≤p'→p'≤((i+1:Nat):Int)→out'=Ve out last inn (rd L i).a →
    Wm q a b (.h2 L (L.length:Int) (i:Int) o p last inn out)=.to (.h2 L (L.length:Int) ((i+1:Nat):Int) o' p' (rd L i).a (opB q.k (decide (o'>0)) (decide (p'>0))) out')→
    sw2 (opB q.k) (L.drop i) o p last inn out=sw2 (opB q.k) (L.drop (i+1)) o' p' (rd L i).a (opB q.k (decide (o'>0)) (decide (p'>0))) out'→
    ∃n,Yj (Wm q a b) n (.to (.h2 L (L.length:Int) (i:Int) o p last inn out))=.ret (Jf (sw2 (opB q.k) (L.drop i) o p last inn out)):=fun o' p' out' b1 b2 b3 b4 eo hs hq=>by
   obtain ⟨n,hn⟩:=v9u L hL hE k (i+1) o' p' (rd L i).a (opB q.k (decide (o'>0)) (decide (p'>0))) out' (by omega) b1 b2 b3 b4 (by rw [eo];omega);refine ⟨n+1,?_⟩;rw [Zw,hs,hq];exact hn
  rcases hb with hb | hb
  ·have hz:decide ((rd L i).b =Int.ofNat 0)=true:=decide_eq_true hb;have hb0:((rd L i).b == 0)=true:=by rw [hb];rfl
   refine key (o+(rd L i).c) p (Ve out last inn (rd L i).a) (by rcases hc with hc | hc <;> omega) (by rcases hc with hc | hc <;> omega) (by omega) (by omega) rfl ?_ ?_
   ·unfold Ve;cases inn with
    | false=>simp (disch:=omega) only [Wm,hlt,hz,hw,hw',hcf,Zd,Ze,Zs,Zu,Zx,Zj,Nat.zero_add,Bool.and_true,cond_true,cond_false,Bool.not_false]
    | true=>
     rcases Yv (last == (rd L i).a) with g | g
     ·simp (disch:=omega) only [Wm,hlt,hz,hw,hw',hcf,Zd,Ze,Zs,Zu,Zx,Zj,Nat.zero_add,Bool.and_true,cond_true,cond_false,Bool.not_true,g]
     ·by_cases h0:0<out.length
      ·rw [decide_eq_true h0,Bool.true_and];rcases Yv ((rd out (out.length - 1)).b == last) with q2 | q2
       ·simp (disch:=omega) only [Wm,hlt,hz,hw,hw',hcf,Zd,Ze,Zs,Zu,Zx,Zj,Nat.zero_add,Bool.and_true,cond_true,cond_false,Bool.not_true,g,q2,Ye,Zn]
       ·simp (disch:=omega) only [Wm,hlt,hz,hw,hw',hcf,Zd,Ze,Zs,Zu,Zx,Zj,Nat.zero_add,Bool.and_true,cond_true,cond_false,Bool.not_true,Bool.true_and,g,q2,Ye,Zn,Yx,Zc,Yu,decide_true]
      ·rw [decide_eq_false h0,Bool.false_and];simp (disch:=omega) only [Wm,hlt,hz,hw,hw',hcf,Zd,Ze,Zs,Zu,Zx,Zj,Nat.zero_add,Bool.and_true,cond_true,cond_false,Bool.not_true,Bool.true_and,g,Ys,Yx,Zc,Yu,decide_true]
   ·rw [Yc (show i<L.length by omega),x9p,hb0];rfl
  ·have hz0:decide ((rd L i).b =Int.ofNat 0)=false:=decide_eq_false (by rw [hb];decide);have hz:decide ((rd L i).b =Int.ofNat 1)=true:=decide_eq_true hb;have hb0:((rd L i).b == 0)=false:=by rw [hb];rfl
   refine key o (p+(rd L i).c) (Ve out last inn (rd L i).a) (by omega) (by omega) (by rcases hc with hc | hc <;> omega) (by rcases hc with hc | hc <;> omega) rfl ?_ ?_
   ·unfold Ve;cases inn with
    | false=>simp (disch:=omega) only [Wm,hlt,hz0,hz,hw,hw',hcf,Zd,Ze,Zs,Zu,Zx,Zj,Nat.zero_add,Bool.and_true,cond_true,cond_false,Bool.not_false]
    | true=>
     rcases Yv (last == (rd L i).a) with g | g
     ·simp (disch:=omega) only [Wm,hlt,hz0,hz,hw,hw',hcf,Zd,Ze,Zs,Zu,Zx,Zj,Nat.zero_add,Bool.and_true,cond_true,cond_false,Bool.not_true,g]
     ·by_cases h0:0<out.length
      ·rw [decide_eq_true h0,Bool.true_and];rcases Yv ((rd out (out.length - 1)).b == last) with q2 | q2
       ·simp (disch:=omega) only [Wm,hlt,hz0,hz,hw,hw',hcf,Zd,Ze,Zs,Zu,Zx,Zj,Nat.zero_add,Bool.and_true,cond_true,cond_false,Bool.not_true,g,q2,Ye,Zn]
       ·simp (disch:=omega) only [Wm,hlt,hz0,hz,hw,hw',hcf,Zd,Ze,Zs,Zu,Zx,Zj,Nat.zero_add,Bool.and_true,cond_true,cond_false,Bool.not_true,Bool.true_and,g,q2,Ye,Zn,Yx,Zc,Yu,decide_true]
      ·rw [decide_eq_false h0,Bool.false_and];simp (disch:=omega) only [Wm,hlt,hz0,hz,hw,hw',hcf,Zd,Ze,Zs,Zu,Zx,Zj,Nat.zero_add,Bool.and_true,cond_true,cond_false,Bool.not_true,Bool.true_and,g,Ys,Yx,Zc,Yu,decide_true]
   ·rw [Yc (show i<L.length by omega),x9p,hb0];rfl
theorem v9v (ha:a.length≤400) (hb:b.length≤400) (va:a.all z1c=true) (vb:b.all z1c=true): ∀(k i:Nat) (E:List R3),i+k=b.length→E.length=2*a.length+2*i→E++Wu 1 (b.drop i)=Wu 0 a++Wu 1 b→ ∃n,Yj (Wm q a b) n (.to (.h1 E (i:Int)))=.ret (Jf (spJ q.k a b))
 | 0,i,E,h,hl,he=>by
  rw [List.drop_eq_nil_of_le (by omega),show Wu 1 []=[] from rfl,List.append_nil] at he;subst he;have hbnd:y0v (Wu 0 a++Wu 1 b)=true:=by have h1:=z7y 0 a va;have h2:=z7y 1 b vb;unfold y0v at*;rw [List.all_append,h1,h2];rfl
  have hsl:=y2w (Wu 0 a++Wu 1 b);obtain ⟨hp,_⟩:=Ks _ hbnd;obtain ⟨n,hn⟩:=v9u q a b (z0n (Wu 0 a++Wu 1 b)) (by rw [hsl];omega) (fun i hi=>by
   have hm:rd (z0n (Wu 0 a++Wu 1 b)) i∈Wu 0 a++Wu 1 b:=hp.mem_iff.1 (by rw [Yt hi];exact List.getElem_mem hi);rcases List.mem_append.1 hm with g | g
   ·exact ⟨.inl (z7x g).1,(z7x g).2⟩
   ·exact ⟨.inr (z7x g).1,(z7x g).2⟩) (z0n (Wu 0 a++Wu 1 b)).length 0 0 0 0 false [] (Nat.zero_add _) (by omega) (by omega) (by omega) (by omega) (Nat.zero_le _)
  refine ⟨n+1,?_⟩;rw [Zw];have step:Wm q a b (.h1 (Wu 0 a++Wu 1 b) (i:Int))=.to (.h2 (z0n (Wu 0 a++Wu 1 b)) (((Wu 0 a++Wu 1 b).length :Nat):Int) 0 0 0 0 false []):=by simp (disch:=omega) only [Wm,Zp,Zo,hbnd,Zs,decide_true,cond_true,cond_false]
  rw [step,←hsl];exact hn
 | k+1,i,E,h,hl,he=>by rw [y8u 1 b i (by omega),←List.append_assoc] at he;obtain ⟨n,hn⟩:=v9v ha hb va vb k (i+1) (E++Wu 1 [rd b i]) (by omega) (by rw [List.length_append,y0i];simp;omega) he;refine ⟨n+1,?_⟩;rw [Zw];simp (disch:=omega) only [Wm,Yx,Zc,Yu,decide_true,Bool.true_and,Zd,Ze,Zs,Zu,Zx,Zj,Nat.zero_add,Bool.and_true,cond_true,cond_false];exact hn
theorem v9w (ha:a.length≤400) (hb:b.length≤400) (va:a.all z1c=true) (vb:b.all z1c=true): ∀(k i:Nat) (E:List R3),i+k=a.length→E.length=2*i→E++Wu 0 (a.drop i)=Wu 0 a→ ∃n,Yj (Wm q a b) n (.to (.h0 E (i:Int)))=.ret (Jf (spJ q.k a b))
 | 0,i,E,h,hl,he=>by rw [List.drop_eq_nil_of_le (by omega),show Wu 0 []=[] from rfl,List.append_nil] at he;subst he;obtain ⟨n,hn⟩:=v9v q a b ha hb va vb b.length 0 (Wu 0 a) (Nat.zero_add _) (by omega) (by rw [List.drop_zero]);refine ⟨n+1,?_⟩;rw [Zw];simp (disch:=omega) only [Wm,Zo,cond_false];exact hn
 | k+1,i,E,h,hl,he=>by rw [y8u 0 a i (by omega),←List.append_assoc] at he;obtain ⟨n,hn⟩:=v9w ha hb va vb k (i+1) (E++Wu 0 [rd a i]) (by omega) (by rw [List.length_append,y0i];simp;omega) he;refine ⟨n+1,?_⟩;rw [Zw];simp (disch:=omega) only [Wm,Yx,Zc,Yu,decide_true,Bool.true_and,Zd,Ze,Zs,Zu,Zx,Zj,Nat.zero_add,Bool.and_true,cond_true,cond_false];exact hn
theorem u5p : ∃n,Yj (Wm q a b) n (y1i q a b)=.ret (y5v (spE q.k a b) (spJ q.k a b)):=by
 unfold y1i;have o: ∀l,z3l l=true:=fun _=>rfl;simp only [Zp,o,cond_true];rcases Yv (y5u a != 0) with q1 | q1
 ·exact ⟨0,by simp only [spE,q1,cond_true,Ki _ q1];rfl⟩
 rcases Yv (y5u b != 0) with q2 | q2
 ·exact ⟨0,by simp only [spE,q1,q2,cond_true,cond_false,Ki _ q2];rfl⟩
 obtain ⟨a1,a2,_⟩:=(z6q a).1 (by simpa using q1);obtain ⟨b1,b2,_⟩:=(z6q b).1 (by simpa using q2);obtain ⟨n,hn⟩:=v9w q a b a1 b1 a2 b2 a.length 0 [] (Nat.zero_add _) rfl (by rw [List.drop_zero,List.nil_append]);refine ⟨n,?_⟩;simp only [spE,q1,q2,cond_false,←z4e];exact hn
end
def z3h (q:Op) (a b:List R2):List R2:=x4v (spE q.k a b) (spJ q.k a b)
def w2o (q:Op) (a b:List R2):Int:=spE q.k a b
def y9m (q:Op) (a b:List R2):Bool:=true
def fSp (q:Op):List AVal→Option (AVal×Bool)
 | [a1,a2]=>match asL R2 a1,asL R2 a2 with
  | some (L1,g1,n1),some (L2,g2,n2)=>some (.tup [.dat (z3h q L1 L2).length (Zz (z3h q L1 L2)),.int .i64 (w2o q L1 L2)],isT R2 n1 g1&&(isT R2 n2 g2&&y9m q L1 L2))
  | _,_=>none
 | _=>none
theorem fSp_ok (q:Op) {S:Specs} (hS:Zq prog S):Zq prog (S.with (nSp q) (fSp q)):=by
 refine v1i hS (by cases q <;> kernel_rfl) fun args v h=> ?_;unfold fSp at h;split at h
 ·rename_i a1 a2;split at h
  ·rename_i L1 g1 n1 L2 g2 n2 e1 e2;simp only [Option.some.injEq,Prod.mk.injEq,Bool.and_eq_true] at h;obtain ⟨rfl,ho1,ho2,_⟩:=h;obtain ⟨N,hN⟩:=u5p q L1 L2;exact ⟨_,_,(.cons (asL_le e1 ho1) (.cons (asL_le e2 ho2) .nil)),z4q _ _,v3p q L1 L2 N _ hN,3,z8u _ _⟩
  ·cases h
 ·cases h
def Vb :Specs:=Va.with (nSp .d) (fSp .d)
theorem y5r :Zq prog Vb:=fSp_ok .d z1s
end Go.Am
namespace Go.Am
open Go.Proofs.Tryz
open Go.Proofs
inductive rgcS where
 | h0 (v8:Int)
def rgcC (l0:List R4):rgcS→Cfg
 | .h0 v8=>⟨⟨19,0,true⟩,none,(Zb prog 191 [1,0,1,0,0] 0),none,(Zy prog 3),⟨Yq [(0,(.dat l0.length (Zz l0))),(1,(.fn 182 [])),(7,(ii (l0.length:Int))),(8,(ii v8))],Uv [] 0,0,[],true⟩,[⟨⟨9,0,true⟩,(Wd prog 181 [1,0] 2),(Zb prog 181 [1,0] 1),none,(Zy prog 3),Yq [(5,(.dat l0.length (Zz l0))),(6,(.fn 182 []))]⟩,⟨⟨23,0,true⟩,(Wd prog 167 [1,1,0,0] 1),(Zb prog 167 [1,1,0,0] 1),none,(Zy prog 15),Yq [(0,(.dat l0.length (Zz l0))),(8,(.dat l0.length (Zz l0)))]⟩],.leaf⟩
def rgcN0 :List (Option (List Nat)):=[some [0,1,7,8],some [5,6],some [0,8]]
def rgcM0 :List (Option (List Nat)):=[]
def z2a (l0:List R4):rgcS→Xe rgcS
 | .h0 v8=>(bif (decide (v8<(l0.length:Int))) then (bif ((decide (0≤v8∧v8<(l0.length:Int)))&&true) then (bif (!(u5h (rd l0 v8.toNat).a (rd l0 v8.toNat).b (rd l0 v8.toNat).c (rd l0 v8.toNat).d)) then (bif (decide (v8≥0)) then (.ret [(.int .i64 8)]) else (bif (Kt (cvT l0)) then (bif ((z0t (cvT l0)) != 0) then (.ret [(.int .i64 8)]) else (bif (Xg (cvT (Wx (cvT l0))) (cvT l0)) then (bif (!(Vw (cvT (Wx (cvT l0))) (cvT l0))) then (.ret [(.int .i64 8)]) else (.ret [(.int .i64 0)])) else .stuck)) else .stuck)) else (.to (.h0 (IntKind.wrap .i64 (v8+1))))) else .stuck) else (bif (Kt (cvT l0)) then (bif ((z0t (cvT l0)) != 0) then (.ret [(.int .i64 8)]) else (bif (Xg (cvT (Wx (cvT l0))) (cvT l0)) then (bif (!(Vw (cvT (Wx (cvT l0))) (cvT l0))) then (.ret [(.int .i64 8)]) else (.ret [(.int .i64 0)])) else .stuck)) else .stuck))
def z7c (l0:List R4):Xe rgcS:=(bif (decide ((l0.length:Int)>400)) then (.ret [(.int .i64 4)]) else (.to (.h0 0)))
theorem w3j (l0:List R4): ∀s,Xr prog (Zy prog 167) (rgcC l0) (rgcC l0 s) (z2a l0 s)
 | .h0 v8=>(lb (fun k0=>(lo fun aJ=>(lb (fun k1=>(lb (fun k2=>(lr 23 167 [1,1,0,1,0,0] 1 15 [(2,(ii 8))] (sl y5r 53 [] ⟨[],[],[some [2]],[]⟩ ⟨[],[],[]⟩ (trs 3 []) (tt k2 (tt k1 (ww aJ (tt k0 nn))))))) (fun k2=>(lo fun cP=>(lb (fun k3=>(lr 23 167 [1,1,1,0,1,1,0,0] 1 15 [(2,(ii 8))] (sl y5r 77 [] ⟨[],[],[some [2]],[]⟩ ⟨[],[],[]⟩ (bl 8 251) (tt k3 (pp (pp (xr l0) (xw cP)) (tt k2 (tt k1 (ww aJ (tt k0 nn))))))))) (fun k3=>(lo fun cM=>(lb (fun k4=>(lr 23 167 [1,1,1,0,1,1,0,0] 1 15 [(2,(ii 8))] (sl y5r 77 [] ⟨[],[],[some [2]],[]⟩ ⟨[],[],[]⟩ (bl 8 131) (tt k4 (pp (pp (xI R4 (Wx (cvT l0)).length (Zz (Wx (cvT l0)))) (pp (xr l0) (xw cM))) (tt k3 (pp (pp (xr l0) (xw cP)) (tt k2 (tt k1 (ww aJ (tt k0 nn))))))))))) (fun k4=>(lr 23 3 [1,1,1,1,1,1,0] 1 15 [(2,(ii 0))] (sl y5r 78 [] ⟨[],[],[some [2]],[]⟩ ⟨[],[],[]⟩ (bl 8 3) (tt k4 (pp (pp (xI R4 (Wx (cvT l0)).length (Zz (Wx (cvT l0)))) (pp (xr l0) (xw cM))) (tt k3 (pp (pp (xr l0) (xw cP)) (tt k2 (tt k1 (ww aJ (tt k0 nn))))))))))))))))))) (fun k1=>(sl y5r 44 [] ⟨[],[],rgcN0,rgcM0⟩ ⟨[],[],[]⟩ (bl 2 1) (tt k1 (ww aJ (tt k0 nn)))))))) (fun k0=>(lo fun aJ=>(lb (fun k1=>(lr 23 167 [1,1,1,0,1,1,0,0] 1 15 [(2,(ii 8))] (sl y5r 46 [] ⟨[],[],[some [2]],[]⟩ ⟨[],[],[]⟩ (bl 7 124) (tt k1 (pp (pp (xr l0) (xw aJ)) (tt k0 nn)))))) (fun k1=>(lo fun cK=>(lb (fun k2=>(lr 23 167 [1,1,1,0,1,1,0,0] 1 15 [(2,(ii 8))] (sl y5r 46 [] ⟨[],[],[some [2]],[]⟩ ⟨[],[],[]⟩ (bl 7 64) (tt k2 (pp (pp (xI R4 (Wx (cvT l0)).length (Zz (Wx (cvT l0)))) (pp (xr l0) (xw cK))) (tt k1 (pp (pp (xr l0) (xw aJ)) (tt k0 nn)))))))) (fun k2=>(lr 23 3 [1,1,1,1,1,1,0] 1 15 [(2,(ii 0))] (sl y5r 47 [] ⟨[],[],[some [2]],[]⟩ ⟨[],[],[]⟩ (bl 7 0) (tt k2 (pp (pp (xI R4 (Wx (cvT l0)).length (Zz (Wx (cvT l0)))) (pp (xr l0) (xw cK))) (tt k1 (pp (pp (xr l0) (xw aJ)) (tt k0 nn)))))))))))))))
theorem x6j (l0:List R4):Xr prog (Zy prog 167) (rgcC l0) (Zi prog 167 [(.dat l0.length (Zz l0))] true []) (z7c l0):=(lb (fun k0=>(lr 23 167 [1,0,1,0,0] 1 15 [(2,(ii 4))] (sl y5r 16 [] ⟨[],[],[some [2]],[]⟩ ⟨[],[],[]⟩ [true] (tt k0 nn)))) (fun k0=>(sl y5r 40 [] ⟨[],[],rgcN0,rgcM0⟩ ⟨[],[],[]⟩ [false] (tt k0 nn))))
theorem v5g (l0:List R4) (n:Nat) (vs:List AVal) (h:Yj (z2a l0) n (z7c l0)=.ret vs):Kg prog (Zy prog 167) (Zi prog 167 [(.dat l0.length (Zz l0))] true []) vs:=by have:=Yw (w3j l0) n _ (x6j l0);rwa [h] at this
end Go.Am
namespace Go.Am
open Go.Proofs.Tryz
open Go.Proofs
open Go.Sort Go.Shelf Go.RowKit Go.Lib
def rgcF (l:List R4):Int:=bif z0t l != 0 then 8 else bif Vw (Wx l) l then 0 else 8
def y0a (l:List R4):Int:=bif decide (400<l.length) then 4 else bif l.all Kv then rgcF l else 8
def z3p (l:List R4):Bool:=true
theorem x7a (l:List R4):(Wx l).length ≤400:=by
 unfold Wx u2y x4v y9c;by_cases h:((D4.out l).length :Int)>400
 ·rw [decide_eq_true h];exact Nat.zero_le _
 ·rw [decide_eq_false h];show (D4.out l).length ≤400;omega
theorem u1p (l:List R4) (hl:l.length≤400): ∀(k i:Nat),i+k=l.length→(∀s∈l.take i,Kv s=true)→ ∃n,Yj (z2a l) n (.to (.h0 (i:Int)))=.ret (bif l.all Kv then [.int .i64 (rgcF l)] else [.int .i64 8])
 | 0,i,h,ht=>by
  have hv:l.all Kv=true:=List.all_eq_true.2 fun s hs=>ht s (by rw [List.take_of_length_le (by omega)];exact hs);have w:Kt l=true:=decide_eq_true hl;refine ⟨1,?_⟩;rw [Zw,hv,cond_true];have w2:Xg (Wx l) l=true:=decide_eq_true (by have:=x7a l;omega);unfold rgcF;rcases Yv (z0t l != 0) with q | q
  ·simp (disch:=omega) only [z2a,Zp,w,q,Zo,cond_true,cond_false,Zg]
  ·rcases Yv (Vw (Wx l) l) with q2 | q2 <;>
   simp (disch:=omega) only [z2a,Zp,w,w2,q,q2,Zo,Bool.not_true,Bool.not_false,cond_true,cond_false,Zg]
 | k+1,i,h,ht=>by
  have hi:i<l.length:=by omega
  have hs:z2a l (.h0 (i:Int))=bif Kv (rd l i) then .to (.h0 ((i+1:Nat):Int)) else .ret [.int .i64 8]:=by have e:u5h (rd l i).a (rd l i).b (rd l i).c (rd l i).d =Kv (rd l i):=rfl;simp (disch:=omega) only [z2a,e,z6i,x3w,w1v,Ze,Zu,Zx,Zj,Bool.and_true,cond_true,cond_false]
  rcases Yv (Kv (rd l i)) with q | q
  ·obtain ⟨n,hn⟩:=u1p l hl k (i+1) (by omega) (fun s hs=>by
    rw [List.take_add_one] at hs;have e:l[i]? =some (rd l i):=by rw [Yt hi];exact List.getElem?_eq_getElem _
    rw [e] at hs;simp only [Option.toList_some,List.mem_append,List.mem_singleton] at hs;rcases hs with hs | rfl
    ·exact ht s hs
    ·exact q)
   refine ⟨n+1,?_⟩;rw [Zw,hs,q,cond_true];exact hn
  ·have hv:l.all Kv=false:=Bool.eq_false_iff.2 fun e=>by have:=List.all_eq_true.1 e (rd l i) (by rw [Yt hi];exact List.getElem_mem hi);rw [this] at q;cases q
   refine ⟨1,?_⟩;rw [Zw,hv,cond_false,hs,q,cond_false,Zg]
theorem v5f (l:List R4): ∃n,Yj (z2a l) n (z7c l)=.ret (bif decide (400<l.length) then [.int .i64 4] else bif l.all Kv then [.int .i64 (rgcF l)] else [.int .i64 8]):=by
 unfold z7c;by_cases h:400<l.length
 ·refine ⟨0,?_⟩;rw [decide_eq_true h,Ye (show (l.length:Int)>400 by omega)];rfl
 ·obtain ⟨n,hn⟩:=u1p l (by omega) l.length 0 (Nat.zero_add _) (fun s hs=>by simp at hs);refine ⟨n,?_⟩;rw [decide_eq_false h,Ys (show¬(l.length:Int)>400 by omega),cond_false,cond_false];exact hn
theorem u7h (l:List R4) (h:z3p l=true): ∃n,Yj (z2a l) n (z7c l)=.ret [.int .i64 (y0a l)]:=by obtain ⟨n,hn⟩:=v5f l;refine ⟨n,hn.trans ?_⟩;unfold y0a;cases decide (400<l.length) <;> cases l.all Kv <;> rfl
def fRgc :List AVal→Option (AVal×Bool)
 | [a0]=>match asL R4 a0 with
  | some (L0,g0,n0)=>some (.int .i64 (y0a L0),isT R4 n0 g0&&(z3p L0))
  | _=>none
 | _=>none
theorem u9q {S:Specs} (hS:Zq prog S):Zq prog (S.with w0u fRgc):=by
 refine z3b hS (by kernel_rfl) fun args v h=> ?_;unfold fRgc at h;split at h
 ·rename_i a0;split at h
  ·rename_i L0 g0 n0 e0;simp only [Option.some.injEq,Prod.mk.injEq,Bool.and_eq_true] at h;obtain ⟨rfl,ho0,hw⟩:=h;obtain ⟨N,hN⟩:=u7h L0 hw;exact ⟨_,_,(.cons (asL_le e0 ho0) .nil),rfl,v5g L0 N _ hN,3,rfl⟩
  ·cases h
 ·cases h
def Vc :Specs:=(Vb.with w0u fRgc)
theorem Kk :Zq prog Vc:=(u9q y5r)
end Go.Am
namespace Go.Am
open Go.Proofs.Tryz
open Go.Proofs
inductive rgjS where
 | h0 (v16:Int) (aB:List Int)
 | h1 (v16:Int) (aB:List Int)
 | h2 (v4:Int) (aC:List R4) (aP:List R2) (aV:Int) (aW:Int) (aG:Nat) (aI:List Int)
 | h3 (v4:Int) (v38:Int) (aC:List R4) (aP:List R2) (aV:Int) (aW:Int) (aG:Nat) (aI:List Int) (aN:Int) (aT:Int) (aA:List R2)
 | h4 (v4:Int) (v38:Int) (aC:List R4) (aP:List R2) (aV:Int) (aW:Int) (aG:Nat) (aI:List Int) (aN:Int) (aT:Int) (aA:List R2) (aH:List R2)
 | h5 (v1:Int) (v2:Int) (v71:List R2) (v72:Int) (v73:Int) (aR:Int) (aF:List R4) (bB:Int) (aG:Nat) (aI:List Int) (aN:List R2) (aT:List R2)
 | h6 (v2:Int) (v8:Int) (dJ:Int) (dK:List R2) (aR:Int) (aF:List R4) (bI:List R2) (bB:Int) (cI:Int) (bG:Nat) (bW:List Int) (aA:List R2) (aH:List R2)
def y3k (l0:List R4) (l1:List R4):AFr:=⟨⟨11,0,true⟩,(Wd prog 91 [1,0] 2),(Zb prog 91 [1,0] 1),none,(Zy prog 16),Yq [(6,(.dat l0.length (Zz l0))),(7,(.dat l1.length (Zz l1)))]⟩
abbrev y7m (aF:List R4) (v8:Int) (v2:Int):=(aF.set (0+(tn v8)) (R4.mk (rd aF (0+(tn v8))).a (rd aF (0+(tn v8))).b v2 (rd aF (0+(tn v8))).d))
def w8l :=(z5j [(0,⟨.ready,none,49,Yq [(5,(.ptr 1 0)),(6,(.ptr 2 0)),(7,(.ptr 3 0)),(9,(.ptr 4 0))],[23],(Xd prog 125 [1,1,1,0,1,0,0]),(Xd prog 125 [1,1,1,0,1,0,1])⟩)])
abbrev y7l (aB:List Int):=(Xx (Yp aB.length (cOf (Zz (Yh (Yp aB.length (cOf (Zz aB))))))))
def w8k :AFr:=⟨⟨49,0,true⟩,none,(.inRangeFunc 0::(Zb prog 125 [1,1,1,0,1,0] 1)),none,(Zy prog 125),Yq [(6,(.ptr 2 0)),(7,(.ptr 3 0)),(9,(.ptr 4 0))]⟩
def y3j (l0:List R4) (l1:List R4):ABlk:=⟨[(.dat l0.length (Zz l0)),(.dat l1.length (Zz l1))],106,none⟩
def u1o :AFr:=⟨⟨49,0,true⟩,(Wd prog 125 [1,1,1,0,0] 3),(Zb prog 125 [1,1,1,0,0] 1),none,(Zy prog 125),Yq [(5,(.ptr 3 0)),(6,(.ptr 4 0)),(7,(.ptr 5 0)),(9,(.ptr 6 0)),(21,(.sl 1 0 2 (.un 1)))]⟩
abbrev y7k (aA:List R2) (l0:List R4) (v38:Int):=(aA++[(R2.mk (rd l0 (tn v38)).b (rd l0 (tn v38)).d)])
abbrev y7j (aH:List R2) (l1:List R4) (v38:Int):=(aH++[(R2.mk (rd l1 (tn v38)).b (rd l1 (tn v38)).d)])
def y3i :ABlk:=⟨[(.fn 126 [])],164,none⟩
abbrev z8t (aF:List R4) (v1:Int) (v71:List R2) (v73:Int) (v2:Int):=(aF++[(R4.mk v1 (rd v71 (tn v73)).a v2 (rd v71 (tn v73)).b)])
abbrev z8s (aB:List Int) (l0:List R4) (v16:Int):=(aB++[(rd l0 (tn v16)).a,(rd l0 (tn v16)).c])
abbrev z8r (aB:List Int) (l1:List R4) (v16:Int):=(aB++[(rd l1 (tn v16)).a,(rd l1 (tn v16)).c])
def y9y :ABlk:=⟨[(.sl 8 0 2 (.un 1))],219,none⟩
def w8m :=(Zb prog 168 [1,0,0,1,0,0,1,0,1,0,0,1,1,0,0,1,1,0,0] 0)
def rgjC (q:Op) (l0:List R4) (l1:List R4):rgjS→Cfg
 | .h0 v16 aB=>⟨⟨34,0,true⟩,none,(Zb prog 145 [1,1,0,1,0,0,1,1,0,0,1,1,0,0] 0),none,(Zy prog 15),⟨Yq [(1,(.ptr 0 0)),(3,(.ptr 2 0)),(8,(.sl 1 0 2 (.un 1))),(9,(ii 2)),(10,(ii 0)),(14,(.dat l0.length (Zz l0))),(15,(ii (l0.length:Int))),(16,(ii v16))],Uv [⟨[(.sl 1 0 2 (.un 1))],219,none⟩,(y3j l0 l1),⟨[(.sla 7 1 0 aB.length (.un 1))],47,none⟩,y3i,⟨[.nils],106,none⟩,⟨[(ii 0)],24,none⟩,⟨[.nils,.nils,(ii 0),(ii 0)],188,none⟩,⟨rows aB.length (Zz aB),3,some ⟨1,aB.length,(Zz aB)⟩⟩] 0,8,[],true⟩,[u1o,(y3k l0 l1)],.leaf⟩
 | .h1 v16 aB=>⟨⟨34,0,true⟩,none,(Zb prog 145 [1,1,0,1,0,0,1,1,0,0,1,1,0,0] 0),none,(Zy prog 15),⟨Yq [(1,(.ptr 0 0)),(3,(.ptr 2 0)),(8,(.sl 1 0 2 (.un 1))),(9,(ii 2)),(10,(ii 1)),(14,(.dat l1.length (Zz l1))),(15,(ii (l1.length:Int))),(16,(ii v16))],Uv [⟨[(.sl 1 0 2 (.un 1))],219,none⟩,(y3j l0 l1),⟨[(.sla 7 1 0 aB.length (.un 1))],47,none⟩,y3i,⟨[.nils],106,none⟩,⟨[(ii 0)],24,none⟩,⟨[.nils,.nils,(ii 0),(ii 0)],188,none⟩,⟨rows aB.length (Zz aB),3,some ⟨1,aB.length,(Zz aB)⟩⟩] 0,8,[],true⟩,[u1o,(y3k l0 l1)],.leaf⟩
 | .h2 v4 aC aP aV aW aG aI=>⟨⟨76,0,true⟩,none,(Zb prog 168 [1,0,0] 0),none,[],⟨Yq [(0,(.yld 0)),(1,(.ptr 5 0)),(2,(.ptr 7 0)),(4,(ii v4))],z0z [(1,y3i),(2,⟨[.nils],106,none⟩),(3,⟨[(ii 0)],24,none⟩),(4,⟨[(.sla 9 4 0 aC.length (.un 4)),(.dat aP.length (Zz aP)),(ii aV),(ii aW)],188,none⟩),(5,⟨[(.sla 6 1 0 aG (.un 1))],47,none⟩),(6,⟨rows aI.length (Zz aI),3,some ⟨1,aI.length,(Zz aI)⟩⟩),(7,y9y),(8,(y3j l0 l1)),(9,⟨rows aC.length (Zz aC),114,some ⟨4,aC.length,(Zz aC)⟩⟩)],10,[],true⟩,[w8k,(y3k l0 l1)],w8l⟩
 | .h3 v4 v38 aC aP aV aW aG aI aN aT aA=>⟨⟨76,0,true⟩,none,w8m,none,[],⟨Yq [(0,(.yld 0)),(1,(.ptr 5 0)),(2,(.ptr 7 0)),(4,(ii v4)),(5,(.ptr 9 0)),(6,(ii 0)),(29,(.sl 8 0 2 (.un 1))),(30,(ii 2)),(31,(ii 0)),(36,(.dat l0.length (Zz l0))),(37,(ii (l0.length:Int))),(38,(ii v38))],z0z [(1,y3i),(2,⟨[.nils],106,none⟩),(3,⟨[(ii 0)],24,none⟩),(4,⟨[(.sla 12 4 0 aC.length (.un 4)),(.dat aP.length (Zz aP)),(ii aV),(ii aW)],188,none⟩),(5,⟨[(.sla 6 1 0 aG (.un 1))],47,none⟩),(6,⟨rows aI.length (Zz aI),3,some ⟨1,aI.length,(Zz aI)⟩⟩),(7,y9y),(8,(y3j l0 l1)),(9,⟨[(ii aN),(ii aT),(.sl 10 0 2 (.ex 2))],193,none⟩),(10,⟨[(.sla 11 2 0 aA.length (.un 2)),.nils],158,none⟩),(11,⟨rows aA.length (Zz aA),110,some ⟨2,aA.length,(Zz aA)⟩⟩),(12,⟨rows aC.length (Zz aC),114,some ⟨4,aC.length,(Zz aC)⟩⟩)],13,[],true⟩,[w8k,(y3k l0 l1)],w8l⟩
 | .h4 v4 v38 aC aP aV aW aG aI aN aT aA aH=>⟨⟨76,0,true⟩,none,w8m,none,[],⟨Yq [(0,(.yld 0)),(1,(.ptr 5 0)),(2,(.ptr 7 0)),(4,(ii v4)),(5,(.ptr 9 0)),(6,(ii 1)),(29,(.sl 8 0 2 (.un 1))),(30,(ii 2)),(31,(ii 1)),(36,(.dat l1.length (Zz l1))),(37,(ii (l1.length:Int))),(38,(ii v38))],z0z [(1,y3i),(2,⟨[.nils],106,none⟩),(3,⟨[(ii 0)],24,none⟩),(4,⟨[(.sla 13 4 0 aC.length (.un 4)),(.dat aP.length (Zz aP)),(ii aV),(ii aW)],188,none⟩),(5,⟨[(.sla 6 1 0 aG (.un 1))],47,none⟩),(6,⟨rows aI.length (Zz aI),3,some ⟨1,aI.length,(Zz aI)⟩⟩),(7,y9y),(8,(y3j l0 l1)),(9,⟨[(ii aN),(ii aT),(.sl 10 0 2 (.ex 2))],193,none⟩),(10,⟨[(.sla 11 2 0 aA.length (.un 2)),(.sla 12 2 0 aH.length (.un 2))],158,none⟩),(11,⟨rows aA.length (Zz aA),110,some ⟨2,aA.length,(Zz aA)⟩⟩),(12,⟨rows aH.length (Zz aH),110,some ⟨2,aH.length,(Zz aH)⟩⟩),(13,⟨rows aC.length (Zz aC),114,some ⟨4,aC.length,(Zz aC)⟩⟩)],14,[],true⟩,[w8k,(y3k l0 l1)],w8l⟩
 | .h5 v1 v2 v71 v72 v73 aR aF bB aG aI aN aT=>⟨⟨94,0,true⟩,none,(Zb prog 146 [1,1,1,0,0] 0),none,[],⟨Yq [(0,(.ptr 0 0)),(1,(ii v1)),(2,(ii v2)),(71,(.dat v71.length (Zz v71))),(72,(ii v72)),(73,(ii v73))],z0z [(0,⟨[(.sla 10 4 0 aF.length (.un 4)),(.dat v71.length (Zz v71)),(ii bB),(ii v2)],188,none⟩),(2,y3i),(3,⟨[.nils],106,none⟩),(4,⟨[(ii 0)],24,none⟩),(5,⟨[(.sla 6 1 0 aG (.un 1))],47,none⟩),(6,⟨rows aI.length (Zz aI),3,some ⟨1,aI.length,(Zz aI)⟩⟩),(7,y9y),(8,(y3j l0 l1)),(9,⟨[(.dat aN.length (Zz aN)),(.dat aT.length (Zz aT))],158,none⟩),(10,⟨rows aF.length (Zz aF),114,some ⟨4,aF.length,(Zz aF)⟩⟩)],11,[],true⟩,[⟨⟨49,0,true⟩,(Wd prog 125 [1,1,1,0,1,0,1,0,1,1] 5),(Zb prog 125 [1,1,1,0,1,0,1,0,1,1] 1),(some 1),[],Yq [(9,(.ptr 0 0)),(41,(ii v1)),(43,(ii v2)),(44,(.dat v71.length (Zz v71)))]⟩,⟨⟨76,0,true⟩,(Wd prog 168 [1,0,0,1,0,0,1,1,0] 2),(Zb prog 168 [1,0,0,1,0,0,1,1,0] 1),none,[],Yq [(0,(.yld 1)),(1,(.ptr 5 0)),(2,(.ptr 7 0)),(4,(ii aR)),(72,(.yld 1)),(73,(.agg [(ii v1),(ii v2),(.sl 9 0 2 (.ex 2))]))]⟩,⟨⟨49,0,true⟩,none,(.inRangeFunc 1::(Zb prog 125 [1,1,1,0,1,0] 1)),none,(Zy prog 125),Yq [(6,(.ptr 3 0)),(7,(.ptr 4 0)),(9,(.ptr 0 0))]⟩,(y3k l0 l1)],(z5j [(1,⟨.busy,none,49,Yq [(5,(.ptr 2 0)),(6,(.ptr 3 0)),(7,(.ptr 4 0)),(9,(.ptr 0 0))],[23],(Xd prog 125 [1,1,1,0,1,0,0]),(Xd prog 125 [1,1,1,0,1,0,1])⟩)])⟩
 | .h6 v2 v8 dJ dK aR aF bI bB cI bG bW aA aH=>⟨⟨94,0,true⟩,none,(Zb prog 146 [0,1,0,0,1,0,0] 0),none,[],⟨Yq [(0,(.ptr 0 0)),(2,(ii v2)),(8,(ii v8))],z0z [(0,⟨[(.sla 1 4 0 aF.length (.un 4)),(.dat bI.length (Zz bI)),(ii bB),(ii cI)],188,none⟩),(1,⟨rows aF.length (Zz aF),114,some ⟨4,aF.length,(Zz aF)⟩⟩),(3,y3i),(4,⟨[.nils],106,none⟩),(5,⟨[(ii 0)],24,none⟩),(6,⟨[(.sla 7 1 0 bG (.un 1))],47,none⟩),(7,⟨rows bW.length (Zz bW),3,some ⟨1,bW.length,(Zz bW)⟩⟩),(8,⟨[(.sl 9 0 2 (.un 1))],219,none⟩),(9,(y3j l0 l1)),(10,⟨[(.dat aA.length (Zz aA)),(.dat aH.length (Zz aH))],158,none⟩)],11,[],true⟩,[⟨⟨49,0,true⟩,(Wd prog 125 [1,1,1,0,1,0,1,0,1,1] 5),(Zb prog 125 [1,1,1,0,1,0,1,0,1,1] 1),(some 2),[],Yq [(9,(.ptr 0 0)),(41,(ii dJ)),(43,(ii v2)),(44,(.dat dK.length (Zz dK)))]⟩,⟨⟨76,0,true⟩,(Wd prog 168 [1,0,0,1,0,0,1,1,0] 2),(Zb prog 168 [1,0,0,1,0,0,1,1,0] 1),none,[],Yq [(0,(.yld 2)),(1,(.ptr 6 0)),(2,(.ptr 8 0)),(4,(ii aR)),(72,(.yld 2)),(73,(.agg [(ii dJ),(ii v2),(.sl 10 0 2 (.ex 2))]))]⟩,⟨⟨49,0,true⟩,none,(.inRangeFunc 2::(Zb prog 125 [1,1,1,0,1,0] 1)),none,(Zy prog 125),Yq [(6,(.ptr 4 0)),(7,(.ptr 5 0)),(9,(.ptr 0 0))]⟩,(y3k l0 l1)],(z5j [(2,⟨.busy,none,49,Yq [(5,(.ptr 3 0)),(6,(.ptr 4 0)),(7,(.ptr 5 0)),(9,(.ptr 0 0))],[23],(Xd prog 125 [1,1,1,0,1,0,0]),(Xd prog 125 [1,1,1,0,1,0,1])⟩)])⟩
def rgjN0 :List (Option (List Nat)):=[some [1,3,8,9,10,14,15,16],some [5,6,7,9,21],some [6,7]]
def rgjM0 :List (Option (List Nat)):=[]
def rgjN1 :List (Option (List Nat)):=[some [1,3,8,9,10,14,15,16],some [5,6,7,9,21],some [6,7]]
def rgjM1 :List (Option (List Nat)):=[]
def u7f :List (Option (List Nat)):=[some [0,1,2,4],some [6,7,9],some [6,7]]
def u7g :List (Option (List Nat)):=[some [5,6,7,9],none,none,none,none,none,none,none,none,none]
def v5b :List (Option (List Nat)):=[some [0,1,2,4,5,6,29,30,31,36,37,38],some [6,7,9],some [6,7]]
def v5e :List (Option (List Nat)):=[some [5,6,7,9],none,none,none,none,none,none,none,none,none,none,none,none]
def v5a :List (Option (List Nat)):=[some [0,1,2,4,5,6,29,30,31,36,37,38],some [6,7,9],some [6,7]]
def v5d :List (Option (List Nat)):=[some [5,6,7,9],none,none,none,none,none,none,none,none,none,none,none,none,none]
def v4z :List (Option (List Nat)):=[some [0,1,2,71,72,73],some [9,41,43,44],some [0,1,2,4,72,73],some [6,7,9],some [6,7]]
def v5c :List (Option (List Nat)):=[none,some [5,6,7,9],none,none,none,none,none,none,none,none,none]
def rgjN6 :List (Option (List Nat)):=[some [0,2,8],some [9,41,43,44],some [0,1,2,4,72,73],some [6,7,9],some [6,7]]
def rgjM6 :List (Option (List Nat)):=[none,none,some [5,6,7,9],none,none,none,none,none,none,none,none]
def Yo (q:Op) (l0:List R4) (l1:List R4):rgjS→Xe rgjS
 | .h0 v16 aB=>(bif (decide (v16<(l0.length:Int))) then (bif ((decide (0≤v16∧v16<(l0.length:Int)))&&true) then (bif (Nat.beq 1 1&&((decide (0+aB.length=aB.length))&&decide ((aB.length+2+1)*(8+1)≤Un))) then (.to (.h0 (IntKind.wrap .i64 (v16+1)) (aB++[(rd l0 v16.toNat).a,(rd l0 v16.toNat).c]))) else .stuck) else .stuck) else (.to (.h1 0 aB)))
 | .h1 v16 aB=>(bif (decide (v16<(l1.length:Int))) then (bif ((decide (0≤v16∧v16<(l1.length:Int)))&&true) then (bif (Nat.beq 1 1&&((decide (0+aB.length=aB.length))&&decide ((aB.length+2+1)*(8+1)≤Un))) then (.to (.h1 (IntKind.wrap .i64 (v16+1)) (aB++[(rd l1 v16.toNat).a,(rd l1 v16.toNat).c]))) else .stuck) else .stuck) else (bif (decide (aB.length<4611686018427387904)) then (bif (decide (aB.length=aB.length)) then (.to (.h2 1 ([]:List R4) ([]:List R2) 0 0 (v1z (Yp aB.length (cOf (Zz (Yh (Yp aB.length (cOf (Zz aB)))))))) (Xx (Yp aB.length (cOf (Zz (Yh (Yp aB.length (cOf (Zz aB)))))))))) else .stuck) else .stuck))
 | .h2 v4 aC aP aV aW aG aI=>(bif (decide (v4<((aG:Nat):Int))) then (bif ((decide (0≤(IntKind.wrap .i64 (v4 - 1))∧(IntKind.wrap .i64 (v4 - 1))<((aG:Nat):Int)))&&true) then (bif (decide ((0+(Int.toNat (IntKind.wrap .i64 (v4 - 1))))<aI.length)) then (bif ((decide (0≤v4∧v4<((aG:Nat):Int)))&&true) then (bif (decide ((0+v4.toNat)<aI.length)) then (.to (.h3 v4 0 aC aP aV aW aG aI (rd aI (0+(Int.toNat (IntKind.wrap .i64 (v4 - 1))))) (rd aI (0+v4.toNat)) ([]:List R2))) else .stuck) else .stuck) else .stuck) else .stuck) else (bif (decide ((aC.length:Int)>400)) then (.ret [.nils,(.int .i64 4)]) else (.ret [(.dat aC.length (Zz aC)),(.int .i64 0)])))
 | .h3 v4 v38 aC aP aV aW aG aI aN aT aA=>(bif (decide (v38<(l0.length:Int))) then (bif ((decide (0≤v38∧v38<(l0.length:Int)))&&true) then (bif (decide ((rd l0 v38.toNat).a ≤aN)) then (bif (decide (aN<(rd l0 v38.toNat).c)) then (bif (Nat.beq 2 2&&((decide (0+aA.length=aA.length))&&decide ((aA.length+1+1)*(16+1)≤Un))) then (.to (.h3 v4 (IntKind.wrap .i64 (v38+1)) aC aP aV aW aG aI aN aT (aA++[(R2.mk (rd l0 v38.toNat).b (rd l0 v38.toNat).d)]))) else .stuck) else (.to (.h3 v4 (IntKind.wrap .i64 (v38+1)) aC aP aV aW aG aI aN aT aA))) else (.to (.h3 v4 (IntKind.wrap .i64 (v38+1)) aC aP aV aW aG aI aN aT aA))) else .stuck) else (.to (.h4 v4 0 aC aP aV aW aG aI aN aT aA ([]:List R2))))
 | .h4 v4 v38 aC aP aV aW aG aI aN aT aA aH=>(bif (decide (v38<(l1.length:Int))) then (bif ((decide (0≤v38∧v38<(l1.length:Int)))&&true) then (bif (decide ((rd l1 v38.toNat).a ≤aN)) then (bif (decide (aN<(rd l1 v38.toNat).c)) then (bif (Nat.beq 2 2&&((decide (0+aH.length=aH.length))&&decide ((aH.length+1+1)*(16+1)≤Un))) then (.to (.h4 v4 (IntKind.wrap .i64 (v38+1)) aC aP aV aW aG aI aN aT aA (aH++[(R2.mk (rd l1 v38.toNat).b (rd l1 v38.toNat).d)]))) else .stuck) else (.to (.h4 v4 (IntKind.wrap .i64 (v38+1)) aC aP aV aW aG aI aN aT aA aH))) else (.to (.h4 v4 (IntKind.wrap .i64 (v38+1)) aC aP aV aW aG aI aN aT aA aH))) else .stuck) else (bif ((y9m q) (cvT aA) (cvT aH)) then (bif (((w2o q) (cvT aA) (cvT aH)) != 0) then (.ret [.nils,(.int .i64 ((w2o q) (cvT aA) (cvT aH)))]) else (bif (decide (((((z3h q) (cvT aA) (cvT aH)).length :Nat):Int)>0)) then (bif (aW == aN) then (bif (Wh (cvT aP) (cvT ((z3h q) (cvT aA) (cvT aH)))) then (bif (Ja (cvT aP) (cvT ((z3h q) (cvT aA) (cvT aH)))) then (.to (.h6 aT aV aN ((z3h q) (cvT aA) (cvT aH)) v4 aC aP aV aW aG aI aA aH)) else (.to (.h5 aN aT ((z3h q) (cvT aA) (cvT aH)) ((((z3h q) (cvT aA) (cvT aH)).length :Nat):Int) 0 v4 aC (aC.length:Int) aG aI aA aH))) else .stuck) else (.to (.h5 aN aT ((z3h q) (cvT aA) (cvT aH)) ((((z3h q) (cvT aA) (cvT aH)).length :Nat):Int) 0 v4 aC (aC.length:Int) aG aI aA aH))) else (.to (.h5 aN aT ((z3h q) (cvT aA) (cvT aH)) ((((z3h q) (cvT aA) (cvT aH)).length :Nat):Int) 0 v4 aC (aC.length:Int) aG aI aA aH)))) else .stuck))
 | .h5 v1 v2 v71 v72 v73 aR aF bB aG aI aN aT=>(bif (decide (v73<v72)) then (bif ((decide (0≤v73∧v73<(v71.length:Int)))&&true) then (bif (Nat.beq 4 4&&((decide (0+aF.length=aF.length))&&decide ((aF.length+1+1)*(32+1)≤Un))) then (.to (.h5 v1 v2 v71 v72 (IntKind.wrap .i64 (v73+1)) aR (aF++[(R4.mk v1 (rd v71 v73.toNat).a v2 (rd v71 v73.toNat).b)]) bB aG aI aN aT)) else .stuck) else .stuck) else (.to (.h2 (IntKind.wrap .i64 (aR+1)) aF v71 bB v2 aG aI)))
 | .h6 v2 v8 dJ dK aR aF bI bB cI bG bW aA aH=>(bif (decide (v8<(aF.length:Int))) then (bif ((decide (0≤v8∧v8<(aF.length:Int)))&&true) then (bif (decide ((0+v8.toNat)<aF.length)) then (.to (.h6 v2 (IntKind.wrap .i64 (v8+1)) dJ dK aR (aF.set (0+v8.toNat) (R4.mk (rd aF (0+v8.toNat)).a (rd aF (0+v8.toNat)).b v2 (rd aF (0+v8.toNat)).d)) bI bB cI bG bW aA aH)) else .stuck) else .stuck) else (.to (.h2 (IntKind.wrap .i64 (aR+1)) aF bI bB v2 bG bW)))
def y1u (q:Op) (l0:List R4) (l1:List R4):Xe rgjS:=(bif (z3p (cvT l0)) then (bif ((y0a (cvT l0)) != 0) then (.ret [.nils,(.int .i64 (y0a (cvT l0)))]) else (bif (z3p (cvT l1)) then (bif ((y0a (cvT l1)) != 0) then (.ret [.nils,(.int .i64 (y0a (cvT l1)))]) else (.to (.h0 0 ([]:List Int)))) else .stuck)) else .stuck)
theorem w3i (q:Op) (l0:List R4) (l1:List R4): ∀s,Xr prog (Zy prog 91) (rgjC q l0 l1) (rgjC q l0 l1 s) (Yo q l0 l1 s):=by cases q <;> refine (?f: ∀q:Op,∀s,Xr prog (Zy prog 91) (rgjC q l0 l1) (rgjC q l0 l1 s) (Yo q l0 l1 s)) _ <;> exact fun q=>fun
 | .h0 v16 aB=>(lb (fun k0=>(lo fun o0=>(lo fun o1=>(sl Kk 32 [] ⟨[0,1,2,3,4,5,6,10],[],rgjN0,rgjM0⟩ ⟨[],[.keep,.keep,.cells [.len (z8s aB l0 v16).length],.keep,.keep,.keep,.keep,.rowed 1 (z8s aB l0 v16).length (Zz (z8s aB l0 v16))],[]⟩ [true] (pp (xL (aB.length+2) (z8s aB l0 v16).length) (pp (xL (aB.length+2) (z8s aB l0 v16).length) (pp (xS (aB.length+2) (Zt (Zz aB) 0 aB.length 1 [(ii (rd l0 (tn v16)).a),(ii (rd l0 (tn v16)).c)]) (Zz (z8s aB l0 v16))) (pp (pp (xF (Zt (Zz aB) 0 aB.length 1 [(ii (rd l0 (tn v16)).a),(ii (rd l0 (tn v16)).c)])) nn) (ww o1 (ww o0 (tt k0 nn))))))))))) (fun k0=>(sl Kk 36 [] ⟨(List.range 8),[],rgjN1,rgjM1⟩ ⟨[],[],[]⟩ (bl 2 2) (pp (fl aB nn) (tt k0 nn)))))
 | .h1 v16 aB=>(lb (fun k0=>(lo fun o0=>(lo fun o1=>(sl Kk 32 [] ⟨[0,1,2,3,4,5,6,10],[],rgjN1,rgjM1⟩ ⟨[],[.keep,.keep,.cells [.len (z8r aB l1 v16).length],.keep,.keep,.keep,.keep,.rowed 1 (z8r aB l1 v16).length (Zz (z8r aB l1 v16))],[]⟩ [true] (pp (xL (aB.length+2) (z8r aB l1 v16).length) (pp (xL (aB.length+2) (z8r aB l1 v16).length) (pp (xS (aB.length+2) (Zt (Zz aB) 0 aB.length 1 [(ii (rd l1 (tn v16)).a),(ii (rd l1 (tn v16)).c)]) (Zz (z8r aB l1 v16))) (pp (pp (xF (Zt (Zz aB) 0 aB.length 1 [(ii (rd l1 (tn v16)).a),(ii (rd l1 (tn v16)).c)])) nn) (ww o1 (ww o0 (tt k0 nn))))))))))) (fun k0=>(lo fun o0=>(lo fun o1=>(sl Kk 46 [(114,4,Zz ([]:List R4))] ⟨[8,3,4,5,6,2,7,0,1,9],[],u7f,u7g⟩ ⟨[],(kpB 4 [.cells [.grow 9 4,.list 0 (Zz ([]:List R2)),.keep,.keep],.keep,.rowed 1 (y7l aB).length (Zz (y7l aB)),.keep,.keep,.keep]),[]⟩ (bl 2 0) (pp (xL aB.length (y7l aB).length (by first | exact Qz _ _ | exact Vu rfl)) (pp (xS aB.length (Zz (y7l aB)) (Zz (y7l aB))) (pp (fl (y7l aB) (fl ([]:List R4) nn)) (pp (pp (xG (Nat.beq 1 1)) (pp (xG (Nat.beq 1 1)) (pp (xG (Nat.beq 0 0)) (pp (xG (decide (aB.length=aB.length))) (pp (xG (isI (Zz (Yh (Yp aB.length (cOf (Zz aB))))))) (xG (decide (aB.length<4611686018427387904)))))))) (pp (pp (xG (Nat.beq 1 1)) (pp (xG (Nat.beq 1 1)) (pp (xG (Nat.beq 0 0)) (pp (xG (decide (aB.length=aB.length))) (pp (xG (isI (Zz aB))) (xG (decide (aB.length<4611686018427387904)))))))) (tt k0 nn)))))))))))
 | .h2 v4 aC aP aV aW aG aI=>(lb (fun k0=>(lo fun o0=>(lo fun o1=>(lo fun o2=>(lo fun o3=>(sl Kk 48 [(110,2,Zz ([]:List R2))] ⟨[0,1,2,3,4,5,6,7,8,10,11,12,9],[],v5b,v5e⟩ ⟨[],(kpB 10 [.cells [.grow 11 2,.keep],.keep,.keep]),[]⟩ (trs 3 []) (pp (fl aI (fl ([]:List R2) (fl aC nn))) (ww o3 (ww o2 (ww o1 (ww o0 (tt k0 nn)))))))))))) (fun k0=>(lb (fun k1=>(lr 11 3 [1,1,1,1,1,1,0] 1 16 [(4,.nils),(5,(ii 4))] (sl Kk 49 [] ⟨[],[],[some [4,5]],[]⟩ ⟨[],[],[]⟩ (bl 2 2) (tt k1 (tt k0 nn))))) (fun k1=>(lr 11 3 [1,1,1,1,1,1,0] 1 16 [(4,(.dat aC.length (Zz aC))),(5,(ii 0))] (sl Kk 54 [] ⟨[],[9],[some [4,5]],[]⟩ ⟨[(4,.frz aC.length aC.length (Zz aC) (Zz aC))],[],[]⟩ (bl 2 0) (pp (xZ (z2u 4 4 0 aC.length aC.length (Zz aC)) aC.length (Zz aC)) (pp (xL aC.length aC.length) (pp (xS aC.length (Zz aC) (Zz aC)) (pp (fl aC nn) (tt k1 (tt k0 nn))))))))))))
 | .h3 v4 v38 aC aP aV aW aG aI aN aT aA=>(lb (fun k0=>(lo fun aJ=>(lb (fun k1=>(lb (fun k2=>(lo fun o0=>(sl Kk 39 [] ⟨[0,1,2,3,4,5,6,7,8,9,10,15,12],[],v5b,v5e⟩ ⟨[],(kpB 10 [.cells [.len (y7k aA l0 v38).length,.keep],.rowed 2 (y7k aA l0 v38).length (Zz (y7k aA l0 v38)),.keep]),[]⟩ (trs 7 []) (pp (xL (aA.length+1) (y7k aA l0 v38).length) (pp (xL (aA.length+1) (y7k aA l0 v38).length) (pp (xS (aA.length+1) (Zt (Zz aA) 0 aA.length 2 [(ii (rd l0 (tn v38)).b),(ii (rd l0 (tn v38)).d)]) (Zz (y7k aA l0 v38))) (pp (fl aI (pp (xF (Zt (Zz aA) 0 aA.length 2 [(ii (rd l0 (tn v38)).b),(ii (rd l0 (tn v38)).d)])) (fl aC nn))) (ww o0 (tt k2 (tt k1 (ww aJ (tt k0 nn)))))))))))) (fun k2=>(sl Kk 39 [] ⟨(List.range 13),[],v5b,v5e⟩ ⟨[],[],[]⟩ (trs 6 [false]) (pp (fl aI (fl aA (fl aC nn))) (tt k2 (tt k1 (ww aJ (tt k0 nn))))))))) (fun k1=>(sl Kk 39 [] ⟨(List.range 13),[],v5b,v5e⟩ ⟨[],[],[]⟩ (bl 7 1) (pp (fl aI (fl aA (fl aC nn))) (tt k1 (ww aJ (tt k0 nn))))))))) (fun k0=>(sl Kk 38 [(110,2,Zz ([]:List R2))] ⟨[0,1,2,3,4,5,6,7,8,9,10,11,13,12],[],v5a,v5d⟩ ⟨[],(kpB 10 [.cells [.keep,.grow 12 2],.keep,.keep,.keep]),[]⟩ (bl 2 2) (pp (fl aI (fl aA (fl ([]:List R2) (fl aC nn)))) (tt k0 nn)))))
 | .h4 v4 v38 aC aP aV aW aG aI aN aT aA aH=>(lb (fun k0=>(lo fun aJ=>(lb (fun k1=>(lb (fun k2=>(lo fun o0=>(sl Kk 39 [] ⟨[0,1,2,3,4,5,6,7,8,9,10,11,16,13],[],v5a,v5d⟩ ⟨[],(kpB 10 [.cells [.keep,.len (y7j aH l1 v38).length],.keep,.rowed 2 (y7j aH l1 v38).length (Zz (y7j aH l1 v38)),.keep]),[]⟩ (trs 7 []) (pp (xL (aH.length+1) (y7j aH l1 v38).length) (pp (xL (aH.length+1) (y7j aH l1 v38).length) (pp (xS (aH.length+1) (Zt (Zz aH) 0 aH.length 2 [(ii (rd l1 (tn v38)).b),(ii (rd l1 (tn v38)).d)]) (Zz (y7j aH l1 v38))) (pp (fl aI (fl aA (pp (xF (Zt (Zz aH) 0 aH.length 2 [(ii (rd l1 (tn v38)).b),(ii (rd l1 (tn v38)).d)])) (fl aC nn)))) (ww o0 (tt k2 (tt k1 (ww aJ (tt k0 nn)))))))))))) (fun k2=>(sl Kk 39 [] ⟨(List.range 14),[],v5a,v5d⟩ ⟨[],[],[]⟩ (trs 6 [false]) (pp (fl aI (fl aA (fl aH (fl aC nn)))) (tt k2 (tt k1 (ww aJ (tt k0 nn))))))))) (fun k1=>(sl Kk 39 [] ⟨(List.range 14),[],v5a,v5d⟩ ⟨[],[],[]⟩ (bl 7 1) (pp (fl aI (fl aA (fl aH (fl aC nn)))) (tt k1 (ww aJ (tt k0 nn))))))))) (fun k0=>(Ww (sl Kk (C':=⟨⟨49,0,true⟩,none,(Zb prog 125 [1,1,1,0,1,0,1,0,0] 0),(some 0),[],⟨Yq [(5,(.ptr 1 0)),(6,(.ptr 2 0)),(7,(.ptr 3 0)),(9,(.ptr 4 0)),(10,(.ptr 6 0))],z0z [(1,⟨[(.fn 126 [])],164,none⟩),(2,⟨[.nils],106,none⟩),(3,⟨[(ii 0)],24,none⟩),(4,⟨[(.sla 5 4 0 aC.length (.un 4)),(.dat aP.length (Zz aP)),(ii aV),(ii aW)],188,none⟩),(5,⟨rows aC.length (Zz aC),114,some ⟨4,aC.length,(Zz aC)⟩⟩),(6,⟨[(ii aN),(ii aT),(.sl 7 0 2 (.ex 2))],193,none⟩),(7,⟨[(.dat aA.length (Zz aA)),(.dat aH.length (Zz aH))],158,none⟩),(8,⟨[(.sla 9 1 0 aG (.un 1))],47,none⟩),(9,⟨rows aI.length (Zz aI),3,some ⟨1,aI.length,(Zz aI)⟩⟩),(10,⟨[(.sl 11 0 2 (.un 1))],219,none⟩),(11,⟨[(.dat l0.length (Zz l0)),(.dat l1.length (Zz l1))],106,none⟩)],12,[],true⟩,[⟨⟨76,0,true⟩,(Wd prog 168 [1,0,0,1,0,0,1,1,0] 2),(Zb prog 168 [1,0,0,1,0,0,1,1,0] 1),none,[],Yq [(0,(.yld 0)),(1,(.ptr 8 0)),(2,(.ptr 10 0)),(4,(ii v4)),(72,(.yld 0)),(73,(.agg [(ii aN),(ii aT),(.sl 7 0 2 (.ex 2))]))]⟩,⟨⟨49,0,true⟩,none,(.inRangeFunc 0::(Zb prog 125 [1,1,1,0,1,0] 1)),none,(Zy prog 125),Yq [(6,(.ptr 2 0)),(7,(.ptr 3 0)),(9,(.ptr 4 0))]⟩,⟨⟨11,0,true⟩,(Wd prog 91 [1,0] 2),(Zb prog 91 [1,0] 1),none,(Zy prog 16),Yq [(6,(.dat l0.length (Zz l0))),(7,(.dat l1.length (Zz l1)))]⟩],(z5j [(0,⟨.busy,none,49,Yq [(5,(.ptr 1 0)),(6,(.ptr 2 0)),(7,(.ptr 3 0)),(9,(.ptr 4 0))],[23],(Xd prog 125 [1,1,1,0,1,0,0]),(Xd prog 125 [1,1,1,0,1,0,1])⟩)])⟩) 32 [] ⟨[0,1,2,3,4,13,14,10,5,6,7,8],[11,12],[some [5,6,7,9,10],some [0,1,2,4,72,73],some [6,7,9],some [6,7]],[some [5,6,7,9],none,none,none,none,none,none,none,none,none,none,none]⟩ ⟨[],[.keep,.keep,.keep,.keep,.keep,.keep,.keep,.cells [.frz aA.length aA.length (Zz aA) (Zz aA),.frz aH.length aH.length (Zz aH) (Zz aH)],.keep,.keep,.keep,.keep],[]⟩ (bl 2 0) (pp (xZ (z2u 2 2 0 aA.length aA.length (Zz aA)) aA.length (Zz aA)) (pp (xL aA.length aA.length) (pp (xS aA.length (Zz aA) (Zz aA)) (pp (xZ (z2u 2 2 0 aH.length aH.length (Zz aH)) aH.length (Zz aH)) (pp (xL aH.length aH.length) (pp (xS aH.length (Zz aH) (Zz aH)) (pp (fl aC (fl aI nn)) (pp (fl aA (fl aH nn)) (tt k0 nn)))))))))) (lo fun aJ=>(lb (fun k1=>(lr 11 3 [1,1,1,1,1,1,0] 1 16 [(4,.nils),(5,(ii ((w2o q) (cvT aA) (cvT aH))))] (sl Kk 26 [] ⟨[],[],[some [4,5]],[]⟩ ⟨[],[],[]⟩ (bl 2 3) (tt k1 (pp (pp (xr aA) (pp (xr aH) (xw aJ))) nn))))) (fun k1=>(lb (fun k2=>(lb (fun k3=>(lo fun cM=>(lb (fun k4=>(sl Kk 51 [] ⟨[4,5,0,1,2,3,8,9,10,11,7],[],rgjN6,rgjM6⟩ ⟨[],[],[]⟩ (bl 14 16382) (pp (fl aC (fl aI nn)) (tt k4 (pp (pp (xr aP) (pp (xI R2 ((z3h q) (cvT aA) (cvT aH)).length (Zz ((z3h q) (cvT aA) (cvT aH)))) (xw cM))) (tt k3 (tt k2 (tt k1 (pp (pp (xr aA) (pp (xr aH) (xw aJ))) nn))))))))) (fun k4=>(sl Kk 71 [] ⟨[4,0,1,2,3,8,9,10,11,7,5],[],v4z,v5c⟩ ⟨[],[],[]⟩ (bl 14 8190) (pp (fl aI (fl aC nn)) (tt k4 (pp (pp (xr aP) (pp (xI R2 ((z3h q) (cvT aA) (cvT aH)).length (Zz ((z3h q) (cvT aA) (cvT aH)))) (xw cM))) (tt k3 (tt k2 (tt k1 (pp (pp (xr aA) (pp (xr aH) (xw aJ))) nn)))))))))))) (fun k3=>(sl Kk 71 [] ⟨[4,0,1,2,3,8,9,10,11,7,5],[],v4z,v5c⟩ ⟨[],[],[]⟩ (bl 14 126) (pp (fl aI (fl aC nn)) (tt k3 (tt k2 (tt k1 (pp (pp (xr aA) (pp (xr aH) (xw aJ))) nn))))))))) (fun k2=>(sl Kk 71 [] ⟨[4,0,1,2,3,8,9,10,11,7,5],[],v4z,v5c⟩ ⟨[],[],[]⟩ (bl 14 0) (pp (fl aI (fl aC nn)) (tt k2 (tt k1 (pp (pp (xr aA) (pp (xr aH) (xw aJ))) nn)))))))))))))
 | .h5 v1 v2 v71 v72 v73 aR aF bB aG aI aN aT=>(lb (fun k0=>(lo fun o0=>(lo fun o1=>(sl Kk 23 [] ⟨[0,1,2,3,4,5,6,7,8,9,13],[],v4z,v5c⟩ ⟨[],[.cells [.len (z8t aF v1 v71 v73 v2).length,.keep,.keep,.keep],.keep,.keep,.keep,.keep,.keep,.keep,.keep,.keep,.keep,.rowed 4 (z8t aF v1 v71 v73 v2).length (Zz (z8t aF v1 v71 v73 v2))],[]⟩ [true] (pp (xL (aF.length+1) (z8t aF v1 v71 v73 v2).length) (pp (xL (aF.length+1) (z8t aF v1 v71 v73 v2).length) (pp (xS (aF.length+1) (Zt (Zz aF) 0 aF.length 4 [(ii v1),(ii (rd v71 (tn v73)).a),(ii v2),(ii (rd v71 (tn v73)).b)]) (Zz (z8t aF v1 v71 v73 v2))) (pp (fl aI (pp (xF (Zt (Zz aF) 0 aF.length 4 [(ii v1),(ii (rd v71 (tn v73)).a),(ii v2),(ii (rd v71 (tn v73)).b)])) nn)) (ww o1 (ww o0 (tt k0 nn))))))))))) (fun k0=>(sl Kk 22 [] ⟨[1,2,3,4,0,5,6,7,8,10],[],u7f,u7g⟩ ⟨[],[],[]⟩ (bl 2 0) (pp (fl aI (fl aF nn)) (tt k0 nn)))))
 | .h6 v2 v8 dJ dK aR aF bI bB cI bG bW aA aH=>(lb (fun k0=>(lo fun o0=>(lo fun o1=>(sl Kk 33 [] ⟨(List.range 11),[],rgjN6,rgjM6⟩ ⟨[],[.cells [.len (y7m aF v8 v2).length,.keep,.keep,.keep],.rowed 4 (y7m aF v8 v2).length (Zz (y7m aF v8 v2)),.keep,.keep,.keep,.keep,.keep,.keep,.keep,.keep,.keep],[]⟩ [true] (pp (xL aF.length (y7m aF v8 v2).length) (pp (xL aF.length (y7m aF v8 v2).length) (pp (xS aF.length (Xj (Zz aF) (0+(tn v8)) 2 [(ii v2)]) (Zz (y7m aF v8 v2))) (pp (pp (xF (Xj (Zz aF) (0+(tn v8)) 2 [(ii v2)])) (fl bW nn)) (ww o1 (ww o0 (tt k0 nn))))))))))) (fun k0=>(sl Kk 36 [] ⟨[2,3,4,5,0,6,7,8,9,1],[],u7f,u7g⟩ ⟨[],[],[]⟩ (bl 2 0) (pp (fl bW (fl aF nn)) (tt k0 nn)))))
theorem x6i (q:Op) (l0:List R4) (l1:List R4):Xr prog (Zy prog 91) (rgjC q l0 l1) (Zi prog 91 [(.dat l0.length (Zz l0)),(.dat l1.length (Zz l1))] true []) (y1u q l0 l1):=by cases q <;> exact (lo fun bO=>(lb (fun k0=>(lr 11 3 [1,1,1,1,1,1,0] 1 16 [(4,.nils),(5,(ii (y0a (cvT l0))))] (sl Kk 65 [] ⟨[],[],[some [4,5]],[]⟩ ⟨[],[],[]⟩ [true,true] (tt k0 (tt k0 (pp (pp (xr l0) (xw bO)) nn)))))) (fun k0=>(lo fun aJ=>(lb (fun k1=>(lr 11 3 [1,1,1,1,1,1,0] 1 16 [(4,.nils),(5,(ii (y0a (cvT l1))))] (sl Kk 67 [] ⟨[],[],[some [4,5]],[]⟩ ⟨[],[],[]⟩ [false,true] (tt k1 (pp (pp (xr l1) (xw aJ)) (tt k0 (pp (pp (xr l0) (xw bO)) nn))))))) (fun k1=>(sl Kk 108 [(3,1,Zz ([]:List Int))] ⟨[5,4,6,0,1,2,3,7],[],rgjN0,rgjM0⟩ ⟨[],[.keep,.keep,.cells [.grow 7 1],.keep,.keep,.keep,.keep,.keep],[]⟩ [false,false,true] (pp (fl ([]:List Int) nn) (tt k1 (pp (pp (xr l1) (xw aJ)) (tt k0 (pp (pp (xr l0) (xw bO)) nn))))))))))))
theorem v4y (q:Op) (l0:List R4) (l1:List R4) (n:Nat) (vs:List AVal) (h:Yj (Yo q l0 l1) n (y1u q l0 l1)=.ret vs):Kg prog (Zy prog 91) (Zi prog 91 [(.dat l0.length (Zz l0)),(.dat l1.length (Zz l1))] true []) vs:=by have:=Yw (w3i q l0 l1) n _ (x6i q l0 l1);rwa [h] at this
end Go.Am
namespace Go.Am
open Go.Proofs.Tryz
open Go.Proofs
open Go.Sort Go.Shelf Go.RowKit Go.Lib
def y4q (E:Int→Int) (cs:List Int):Nat→Nat→Int
 | 0,_=>0
 | k+1,i=>bif E (rd cs i) != 0 then E (rd cs i) else y4q E cs k (i+1)
def eJ (e:Int) (n:Nat):Int:=bif e != 0 then e else y9c n
theorem w0h {α:Type} [Xu α] (L:List α):y5v (eJ 0 L.length) L=Jf L:=(z4e L).symm
theorem x1d {n:Nat} (h:y9c n=0):n≤400:=by
 unfold y9c at h;by_cases g:(n:Int)>400
 ·rw [decide_eq_true g] at h;cases h
 ·omega
theorem x3t {α:Type} {e:Int} (L:List α) (h:(e != 0)=false):x4v e L=L:=by unfold x4v;rw [h];rfl
def rgS (q:Op) (a b:List R4) (x:Int):List R2:=spJ q.k (D4.inn a x) (D4.inn b x)
def rgA (q:Op) (a b:List R4) (x:Int):Int:=spE q.k (D4.inn a x) (D4.inn b x)
theorem u7i (q:Op) (a b:List R4) (x:Int) (h:(rgA q a b x != 0)=false):(rgS q a b x).length ≤1000:=by
 have h:rgA q a b x=0:=by simpa using h
 unfold rgA spE at h;cases g1:(y5u (D4.inn a x) != 0) with
 | true=>rw [g1,cond_true] at h;rw [h] at g1;cases g1
 | false=>
  cases g2:(y5u (D4.inn b x) != 0) with
  | true=>rw [g1,g2,cond_false,cond_true] at h;rw [h] at g2;cases g2
  | false=>rw [g1,g2,cond_false,cond_false] at h;exact Nat.le_trans (x1d h) (by omega)
section
variable (q:Op) (a b:List R4) (ha:a.length≤400) (hb:b.length≤400)
include ha hb
theorem u1l (i:Nat) (out:List R4) (last:List R2) (first fin x x':Int): ∀(k j:Nat) (acc:List R2),j+k=a.length→acc.length≤j→
  ∃n,∀N,Yj (Yo q a b) (N+n) (.to (.h3 (i:Int) (j:Int) out last first fin ((D4.cuts (a++b)).length) (Xx (Yh (D4.ends (a++b)))) x x' acc))=Yj (Yo q a b) N (.to (.h4 (i:Int) 0 out last first fin ((D4.cuts (a++b)).length) (Xx (Yh (D4.ends (a++b)))) x x' (acc++D4.inn (a.drop j) x) []))
 | 0,j,acc,h,h'=>by have _u:=ha;have _v:=hb;refine ⟨1,fun N=> ?_⟩;rw [List.drop_eq_nil_of_le (by omega),show D4.inn ([]:List R4) x=[] from rfl,List.append_nil,Zw];simp (disch:=omega) only [Yo,Zo,cond_false]
 | k+1,j,acc,h,h'=>by
  have hj:j<a.length:=by omega
  obtain ⟨n,hn⟩:=u1l i out last first fin x x' k (j+1) (acc++D4.inn [rd a j] x) (by omega) (by have:=D4.inn_length [rd a j] x;simp only [List.length_append,List.length_singleton] at*;omega)
  refine ⟨n+1,fun N=> ?_⟩;have e:D4.inn (a.drop j) x=D4.inn [rd a j] x++D4.inn (a.drop (j+1)) x:=by rw [Yc hj,←D4.inn_append];rfl
  rw [e,←Nat.add_assoc,Zw,←List.append_assoc,←hn N];by_cases h1:D4.lo (rd a j)≤x
  ·by_cases h2:x<D4.hi (rd a j)
   ·rw [D4.inn_t _ _ h1 h2];simp only [D4] at h1 h2 ⊢;simp (disch:=omega) only [Yo,Xc,Zp,Zk,Zd,Ze,Yz,Zs,Yx,Zc,Zu,Zx,Yu,Zj,Nat.zero_add,decide_true,Bool.and_true,Bool.true_and,cond_true,cond_false]
   ·rw [D4.inn_f2 _ _ h2,List.append_nil];simp only [D4] at h1 h2;simp (disch:=omega) only [Yo,Xc,Zo,Zp,Zk,Zd,Ze,Yz,Zs,Yx,Zc,Zu,Zx,Yu,Zj,Nat.zero_add,decide_true,Bool.and_true,Bool.true_and,cond_true,cond_false]
  ·rw [D4.inn_f1 _ _ h1,List.append_nil];simp only [D4] at h1;simp (disch:=omega) only [Yo,x8i,Zp,Zk,Zd,Ze,Yz,Zs,Yx,Zc,Zu,Zx,Yu,Zj,Nat.zero_add,decide_true,Bool.and_true,Bool.true_and,cond_true,cond_false]
theorem u1k (i:Nat) (out:List R4) (last:List R2) (first fin x x':Int) (o1:List R2): ∀(k j:Nat) (acc:List R2),j+k=b.length→acc.length≤j→
  ∃n,∀N,Yj (Yo q a b) (N+n) (.to (.h4 (i:Int) (j:Int) out last first fin ((D4.cuts (a++b)).length) (Xx (Yh (D4.ends (a++b)))) x x' o1 acc))=Yj (Yo q a b) N (.to (.h4 (i:Int) (b.length:Int) out last first fin ((D4.cuts (a++b)).length) (Xx (Yh (D4.ends (a++b)))) x x' o1 (acc++D4.inn (b.drop j) x)))
 | 0,j,acc,h,h'=>by have _u:=ha;have _v:=hb;refine ⟨0,fun N=> ?_⟩;rw [List.drop_eq_nil_of_le (by omega),show D4.inn ([]:List R4) x=[] from rfl,List.append_nil,Nat.add_zero,show j=b.length by omega]
 | k+1,j,acc,h,h'=>by
  have hj:j<b.length:=by omega
  obtain ⟨n,hn⟩:=u1k i out last first fin x x' o1 k (j+1) (acc++D4.inn [rd b j] x) (by omega) (by have:=D4.inn_length [rd b j] x;simp only [List.length_append,List.length_singleton] at*;omega)
  refine ⟨n+1,fun N=> ?_⟩;have e:D4.inn (b.drop j) x=D4.inn [rd b j] x++D4.inn (b.drop (j+1)) x:=by rw [Yc hj,←D4.inn_append];rfl
  rw [e,←Nat.add_assoc,Zw,←List.append_assoc,←hn N];by_cases h1:D4.lo (rd b j)≤x
  ·by_cases h2:x<D4.hi (rd b j)
   ·rw [D4.inn_t _ _ h1 h2];simp only [D4] at h1 h2 ⊢;simp (disch:=omega) only [Yo,Xc,Zp,Zk,Zd,Ze,Yz,Zs,Yx,Zc,Zu,Zx,Yu,Zj,Nat.zero_add,decide_true,Bool.and_true,Bool.true_and,cond_true,cond_false]
   ·rw [D4.inn_f2 _ _ h2,List.append_nil];simp only [D4] at h1 h2;simp (disch:=omega) only [Yo,Xc,Zo,Zp,Zk,Zd,Ze,Yz,Zs,Yx,Zc,Zu,Zx,Yu,Zj,Nat.zero_add,decide_true,Bool.and_true,Bool.true_and,cond_true,cond_false]
  ·rw [D4.inn_f1 _ _ h1,List.append_nil];simp only [D4] at h1;simp (disch:=omega) only [Yo,x8i,Zp,Zk,Zd,Ze,Yz,Zs,Yx,Zc,Zu,Zx,Yu,Zj,Nat.zero_add,decide_true,Bool.and_true,Bool.true_and,cond_true,cond_false]
theorem u1j (i:Nat) (hi:i≤2000) (x x':Int) (s:List R2) (first:Int) (o1 o2:List R2) (hs:s.length≤1000): ∀(k j:Nat) (out:List R4),j+k=s.length→out.length≤10000000+j→
  ∃n,∀N,Yj (Yo q a b) (N+n) (.to (.h5 x x' s (s.length:Int) (j:Int) (i:Int) out first ((D4.cuts (a++b)).length) (Xx (Yh (D4.ends (a++b)))) o1 o2))=Yj (Yo q a b) N (.to (.h2 ((i+1:Nat):Int) (out++(s.drop j).map (D4.put x x')) s first x' ((D4.cuts (a++b)).length) (Xx (Yh (D4.ends (a++b))))))
 | 0,j,out,h,ho=>by have _u:=ha;have _v:=hb;refine ⟨1,fun N=> ?_⟩;rw [List.drop_eq_nil_of_le (by omega),Zw];simp (disch:=omega) only [Yo,Zo,Zu,Zx,cond_false,List.map_nil,List.append_nil]
 | k+1,j,out,h,ho=>by
  obtain ⟨n,hn⟩:=u1j i hi x x' s first o1 o2 hs k (j+1) (out++[D4.put x x' (rd s j)]) (by omega) (by simp;omega)
  refine ⟨n+1,fun N=> ?_⟩;have:=hn N;rw [Yc (show j<s.length by omega),List.map_cons,←Nat.add_assoc,Zw];simp (disch:=omega) only [Yo,Zp,Zk,Zd,Ze,Yz,Zs,Yx,Zc,Zu,Zx,Yu,Zj,Nat.zero_add,decide_true,Bool.and_true,Bool.true_and,cond_true,cond_false];rw [List.append_assoc] at this;exact this
theorem u1i (i:Nat) (hi:i≤2000) (x x' fin:Int) (s last:List R2) (first:Int) (o1 o2:List R2): ∀(k j:Nat) (out:List R4),j+k=out.length→out.length≤10000000→
  ∃n,∀N,Yj (Yo q a b) (N+n) (.to (.h6 x' (j:Int) x s (i:Int) out last first fin ((D4.cuts (a++b)).length) (Xx (Yh (D4.ends (a++b)))) o1 o2))=Yj (Yo q a b) N (.to (.h2 ((i+1:Nat):Int) (D4.grow out j x') last first x' ((D4.cuts (a++b)).length) (Xx (Yh (D4.ends (a++b))))))
 | 0,j,out,h,ho=>by have _u:=ha;have _v:=hb;refine ⟨1,fun N=> ?_⟩;rw [D4.grow_nil _ _ _ (by omega),Zw];simp (disch:=omega) only [Yo,Zo,Zu,Zx,cond_false]
 | k+1,j,out,h,ho=>by
  obtain ⟨n,hn⟩:=u1i i hi x x' fin s last first o1 o2 k (j+1) (out.set j (D4.ext x' (rd out j))) (by simp;omega) (by simpa using ho)
  refine ⟨n+1,fun N=> ?_⟩;have:=hn N;rw [D4.grow_set out j _ (by omega)] at this;rw [←Nat.add_assoc,Zw];simp (disch:=omega) only [Yo,Zp,Zk,Zd,Ze,Yz,Zs,Yx,Zc,Zu,Zx,Yu,Zj,Nat.zero_add,decide_true,Bool.and_true,Bool.true_and,cond_true,cond_false];exact this
theorem w8j : ∀(k i:Nat) (s:Sw R4 R2),k=(D4.cuts (a++b)).length - 1 - i→i≤(D4.cuts (a++b)).length →s.out.length≤i*1000→s.last.length≤1000→s.first≤s.out.length→
  ∃n,Yj (Yo q a b) n (.to (.h2 ((i+1:Nat):Int) s.out s.last (s.first:Int) s.fin ((D4.cuts (a++b)).length) (Xx (Yh (D4.ends (a++b))))))=.ret (y5v (eJ (y4q (rgA q a b) (D4.cuts (a++b)) k i) (D4.goS (rgS q a b) (D4.cuts (a++b)) k i s).out.length) (D4.goS (rgS q a b) (D4.cuts (a++b)) k i s).out)
 | 0,i,s,h,hi,ho,hla,hf=>by
  have _u:=ha;have _v:=hb;have hc:=D4.cuts_length (a++b);refine ⟨1,?_⟩;rw [Zw,show D4.goS (rgS q a b) (D4.cuts (a++b)) 0 i s=s from rfl,show y4q (rgA q a b) (D4.cuts (a++b)) 0 i=0 from rfl,w0h];unfold Jf;by_cases g:(s.out.length:Int)>400
  ·simp (disch:=omega) only [Yo,Zo,Ye,cond_true,cond_false,Zg]
  ·simp (disch:=omega) only [Yo,Zo,Ys,cond_true,cond_false,Zg]
 | k +1,i,s,h,hi,ho,hla,hf=>by
  have hc:=D4.cuts_length (a++b);rw [List.length_append] at hc;have hi1:i+1<(D4.cuts (a++b)).length :=by omega
  have hpl:(Xx (Yh (D4.ends (a++b)))).length =2*(a.length+b.length):=by rw [Wa,Wz,D4.ends_length,List.length_append]
  have r0:rd (Xx (Yh (D4.ends (a++b)))) i=rd (D4.cuts (a++b)) i:=Uo _ _ (by show i<(D4.cuts (a++b)).length;omega);have r1:rd (Xx (Yh (D4.ends (a++b)))) (i+1)=rd (D4.cuts (a++b)) (i+1):=Uo _ _ (by show i+1<(D4.cuts (a++b)).length;omega);have hbig:i*1000≤2000*1000:=Nat.mul_le_mul_right _ (by omega);have hgo:D4.goS (rgS q a b) (D4.cuts (a++b)) (k+1) i s=D4.goS (rgS q a b) (D4.cuts (a++b)) k (i+1) (D4.oneS (rgS q a b (rd (D4.cuts (a++b)) i)) (rd (D4.cuts (a++b)) i) (rd (D4.cuts (a++b)) (i+1)) s):=rfl;have hfe: ∀x,x=rd (D4.cuts (a++b)) i→(rgA q a b x != 0)=false→y4q (rgA q a b) (D4.cuts (a++b)) (k+1) i=y4q (rgA q a b) (D4.cuts (a++b)) k (i+1):=fun x hx z=>by show (bif rgA q a b (rd (D4.cuts (a++b)) i) != 0 then _ else _)=_;rw [←hx,z];rfl
  revert hgo hfe r0;generalize hx:rd (D4.cuts (a++b)) i=x;generalize hx':rd (D4.cuts (a++b)) (i+1)=x' at r1;intro r0 hgo hfe;obtain ⟨n3,h3⟩:=u1l q a b ha hb (i+1) s.out s.last (s.first:Int) s.fin x x' a.length 0 [] (Nat.zero_add _) (Nat.le_refl _);simp only [List.drop_zero,List.nil_append,Qv] at h3;obtain ⟨n4,h4⟩:=u1k q a b ha hb (i+1) s.out s.last (s.first:Int) s.fin x x' (D4.inn a x) b.length 0 [] (Nat.zero_add _) (Nat.le_refl _);simp only [List.drop_zero,List.nil_append,Qv] at h4;have st0: ∀N,Yj (Yo q a b) (N+n4+n3+1) (.to (.h2 ((i+1:Nat):Int) s.out s.last (s.first:Int) s.fin ((D4.cuts (a++b)).length) (Xx (Yh (D4.ends (a++b))))))=Yj (Yo q a b) N (.to (.h4 ((i+1:Nat):Int) (b.length:Int) s.out s.last (s.first:Int) s.fin ((D4.cuts (a++b)).length) (Xx (Yh (D4.ends (a++b)))) x x' (D4.inn a x) (D4.inn b x))):=fun N=>by
   rw [←h4 N,←h3 (N+n4),Zw];have e1:IntKind.wrap .i64 (((i+1:Nat):Int) - 1)=(i:Int):=by rw [Zh];exact Zu (by omega)
   simp (disch:=omega) only [Yo,e1,r0,r1,Zp,Zk,Zd,Ze,Yz,Zs,Yx,Zc,Zu,Zx,Yu,Zj,Nat.zero_add,decide_true,Bool.and_true,Bool.true_and,cond_true,cond_false]
  have w1:y9m q (D4.inn a x) (D4.inn b x)=true:=rfl;have f1:Qt (Zz (D4.inn a x))=true:=Xw _;have f2:Qt (Zz (D4.inn b x))=true:=Xw _;rcases Yv (rgA q a b x != 0) with z | z
  ·have z':(w2o q (D4.inn a x) (D4.inn b x) != 0)=true:=z;refine ⟨1+n4+n3+1,?_⟩;rw [st0 1,Zw];have e:y4q (rgA q a b) (D4.cuts (a++b)) (k+1) i=rgA q a b x:=by show (bif rgA q a b (rd (D4.cuts (a++b)) i) != 0 then rgA q a b (rd (D4.cuts (a++b)) i) else _)=_;rw [hx,z];rfl
   simp (disch:=omega) only [Yo,Zo,z',w1,f1,f2,Zp,Zk,Zd,Ze,Yz,Zs,Yx,Zc,Zu,Zx,Yu,Zj,Nat.zero_add,decide_true,Bool.and_true,Bool.true_and,cond_true,cond_false,Zg];rw [e,show eJ (rgA q a b x) _=rgA q a b x by unfold eJ;rw [z];rfl,Ki _ z];rfl
  have z':(w2o q (D4.inn a x) (D4.inn b x) != 0)=false:=z;have v:z3h q (D4.inn a x) (D4.inn b x)=rgS q a b x:=x3t _ z;have hsl:=u7i q a b x z;have w2:Wh s.last (rgS q a b x)=true:=decide_eq_true (by omega);rw [hgo,hfe x rfl z];have ol:(D4.oneS (rgS q a b x) x x' s).out.length ≤s.out.length+(rgS q a b x).length :=by
   unfold Dim.oneS;cases decide (0<(rgS q a b x).length)&&((s.fin == x)&&D4.same s.last (rgS q a b x))
   ·simp
   ·simp [Dim.grow_length]
  rcases Yv (decide (0<(rgS q a b x).length)&&((s.fin == x)&&D4.same s.last (rgS q a b x))) with g | g
  ·obtain ⟨n6,h6⟩:=u1i q a b ha hb (i+1) (by omega) x x' s.fin (rgS q a b x) s.last (s.first:Int) (D4.inn a x) (D4.inn b x) (s.out.length - s.first) s.first s.out (by omega) (by omega)
   have e:D4.oneS (rgS q a b x) x x' s=⟨D4.grow s.out s.first x',s.last,s.first,x'⟩:=by unfold Dim.oneS;rw [g];rfl
   obtain ⟨n0,h0⟩:=w8j k (i+1) (D4.oneS (rgS q a b x) x x' s) (by omega) (by omega) (by omega) (by rw [e];exact hla) (by rw [e];simpa [Dim.grow_length] using hf);refine ⟨n0+n6+1+n4+n3+1,?_⟩;rw [st0 (n0+n6+1),Zw];simp only [Bool.and_eq_true,decide_eq_true_eq] at g;obtain ⟨g1,g2,g3⟩:=g;have g3':Ja s.last (rgS q a b x)=true:=g3;simp (disch:=omega) only [Yo,Zo,Ye,z',v,g2,g3',w1,f1,f2,w2,Zp,Zk,Zd,Ze,Yz,Zs,Yx,Zc,Zu,Zx,Yu,Zj,Nat.zero_add,decide_true,Bool.and_true,Bool.true_and,cond_true,cond_false];rw [h6 n0];rw [e] at h0 ⊢;exact h0
  ·obtain ⟨n5,h5⟩:=u1j q a b ha hb (i+1) (by omega) x x' (rgS q a b x) (s.out.length:Int) (D4.inn a x) (D4.inn b x) hsl (rgS q a b x).length 0 s.out (Nat.zero_add _) (by omega);simp only [List.drop_zero,Qv] at h5;have e:D4.oneS (rgS q a b x) x x' s=⟨s.out++(rgS q a b x).map (D4.put x x'),rgS q a b x,s.out.length,x'⟩:=by unfold Dim.oneS;rw [g];rfl
   obtain ⟨n0,h0⟩:=w8j k (i+1) (D4.oneS (rgS q a b x) x x' s) (by omega) (by omega) (by omega) (by rw [e];exact hsl) (by rw [e];simp);have hg:Yj (Yo q a b) 1 (.to (.h4 ((i+1:Nat):Int) (b.length:Int) s.out s.last (s.first:Int) s.fin ((D4.cuts (a++b)).length) (Xx (Yh (D4.ends (a++b)))) x x' (D4.inn a x) (D4.inn b x)))=.to (.h5 x x' (rgS q a b x) ((rgS q a b x).length :Int) 0 ((i+1:Nat):Int) s.out (s.out.length:Int) ((D4.cuts (a++b)).length) (Xx (Yh (D4.ends (a++b)))) (D4.inn a x) (D4.inn b x)):=by
    rw [show (1:Nat)=0+1 from rfl,Zw];have e3:D4.same s.last (rgS q a b x)=Ja s.last (rgS q a b x):=rfl;rw [e3] at g;by_cases g1:0<(rgS q a b x).length
    ·rw [decide_eq_true g1,Bool.true_and] at g;rcases Yv (s.fin == x) with g2 | g2
     ·rw [g2,Bool.true_and] at g;simp (disch:=omega) only [Yo,Zo,Ye,z',v,g2,g,w1,f1,f2,w2,Zp,Zk,Zd,Ze,Yz,Zs,Yx,Zc,Zu,Zx,Yu,Zj,Nat.zero_add,decide_true,Bool.and_true,Bool.true_and,cond_true,cond_false];rfl
     ·simp (disch:=omega) only [Yo,Zo,Ye,z',v,g2,w1,f1,f2,w2,Zp,Zk,Zd,Ze,Yz,Zs,Yx,Zc,Zu,Zx,Yu,Zj,Nat.zero_add,decide_true,Bool.and_true,Bool.true_and,cond_true,cond_false];rfl
    ·simp (disch:=omega) only [Yo,Zo,Ys,z',v,w1,f1,f2,w2,Zp,Zk,Zd,Ze,Yz,Zs,Yx,Zc,Zu,Zx,Yu,Zj,Nat.zero_add,decide_true,Bool.and_true,Bool.true_and,cond_true,cond_false];rfl
   refine ⟨n0+n5+1+n4+n3+1,?_⟩;rw [st0 (n0+n5+1),z3z _ (n0+n5) 1,hg,h5 n0];rw [e] at h0 ⊢;exact h0
theorem u1m : ∀(k i:Nat) (acc:List Int),i+k=b.length→acc=D4.ends (a++b.take i)→ ∃n,Yj (Yo q a b) n (.to (.h1 (i:Int) acc))=.ret (y5v (eJ (y4q (rgA q a b) (D4.cuts (a++b)) ((D4.cuts (a++b)).length - 1) 0) (D4.goS (rgS q a b) (D4.cuts (a++b)) ((D4.cuts (a++b)).length - 1) 0 ⟨[],[],0,0⟩).out.length) (D4.goS (rgS q a b) (D4.cuts (a++b)) ((D4.cuts (a++b)).length - 1) 0 ⟨[],[],0,0⟩).out)
 | 0,i,acc,h,h'=>by
  have _u:=ha;have _v:=hb;have e:acc=D4.ends (a++b):=by rw [h',List.take_of_length_le (by omega)]
  subst e;have hle:=D4.ends_length (a++b);rw [List.length_append] at hle;obtain ⟨n,hn⟩:=w8j q a b ha hb ((D4.cuts (a++b)).length - 1) 0 ⟨[],[],0,0⟩ (by omega) (Nat.zero_le _) (Nat.zero_le _) (Nat.zero_le _) (Nat.zero_le _);refine ⟨n+1,?_⟩;rw [Zw];simp (disch:=omega) only [Yo,Vi,Jc,z4d,Zo,Zs,Yx,decide_true,cond_true,cond_false];exact hn
 | k+1,i,acc,h,h'=>by
  have hle:acc.length≤2*(400+i):=by rw [h',D4.ends_length];simp only [List.length_append,List.length_take];omega
  obtain ⟨n,hn⟩:=u1m k (i+1) (acc++D4.ends [rd b i]) (by omega) (by
   rw [h',List.take_add_one];have:b[i]? =some (rd b i):=by rw [Yt (show i<b.length by omega)];exact List.getElem?_eq_getElem _
   rw [this];simp [Dim.ends])
  refine ⟨n+1,?_⟩;rw [Zw];simp (disch:=omega) only [Yo,Zp,Zk,Zd,Ze,Yz,Zs,Yx,Zc,Zu,Zx,Yu,Zj,Nat.zero_add,decide_true,Bool.and_true,Bool.true_and,cond_true,cond_false];exact hn
theorem u1n : ∀(k i:Nat) (acc:List Int),i+k=a.length→acc=D4.ends (a.take i)→ ∃n,Yj (Yo q a b) n (.to (.h0 (i:Int) acc))=.ret (y5v (eJ (y4q (rgA q a b) (D4.cuts (a++b)) ((D4.cuts (a++b)).length - 1) 0) (D4.goS (rgS q a b) (D4.cuts (a++b)) ((D4.cuts (a++b)).length - 1) 0 ⟨[],[],0,0⟩).out.length) (D4.goS (rgS q a b) (D4.cuts (a++b)) ((D4.cuts (a++b)).length - 1) 0 ⟨[],[],0,0⟩).out)
 | 0,i,acc,h,h'=>by have _u:=ha;have _v:=hb;obtain ⟨n,hn⟩:=u1m q a b ha hb b.length 0 acc (Nat.zero_add _) (by rw [h',List.take_of_length_le (by omega),List.take_zero,List.append_nil]);refine ⟨n+1,?_⟩;rw [Zw];simp (disch:=omega) only [Yo,Zo,cond_false];exact hn
 | k+1,i,acc,h,h'=>by
  have hle:acc.length≤2*(400+i):=by rw [h',D4.ends_length];simp only [List.length_append,List.length_take];omega
  obtain ⟨n,hn⟩:=u1n k (i+1) (acc++D4.ends [rd a i]) (by omega) (by
   rw [h',List.take_add_one];have:a[i]? =some (rd a i):=by rw [Yt (show i<a.length by omega)];exact List.getElem?_eq_getElem _
   rw [this];simp [Dim.ends])
  refine ⟨n+1,?_⟩;rw [Zw];simp (disch:=omega) only [Yo,Zp,Zk,Zd,Ze,Yz,Zs,Yx,Zc,Zu,Zx,Yu,Zj,Nat.zero_add,decide_true,Bool.and_true,Bool.true_and,cond_true,cond_false];exact hn
end
def rgE (q:Op) (a b:List R4):Int:=bif y0a a != 0 then y0a a else bif y0a b != 0 then y0a b else eJ (y4q (rgA q a b) (D4.cuts (a++b)) ((D4.cuts (a++b)).length - 1) 0) (rgJ q.k a b).length
def z3q (q:Op) (a b:List R4):List R4:=x4v (rgE q a b) (rgJ q.k a b)
def w3k (q:Op) (a b:List R4):Int:=rgE q a b
def y1v (q:Op) (a b:List R4):Bool:=true
theorem w0f {l:List R4} (h:(y0a l != 0)=false):l.length≤400:=by
 refine Classical.byContradiction fun g=> ?_;have h:y0a l=0:=by simpa using h
 unfold y0a at h;rw [decide_eq_true (by omega)] at h;cases h
theorem rg_run (q:Op) (a b:List R4) (h:y1v q a b=true): ∃n,Yj (Yo q a b) n (y1u q a b)=.ret (y5v (rgE q a b) (rgJ q.k a b)):=by
 unfold y1u;have o: ∀l,z3p l=true:=fun _=>rfl;simp only [Zp,o,cond_true];rcases Yv (y0a a != 0) with q1 | q1
 ·exact ⟨0,by simp only [rgE,q1,cond_true,Ki _ q1];rfl⟩
 rcases Yv (y0a b != 0) with q2 | q2
 ·exact ⟨0,by simp only [rgE,q1,q2,cond_true,cond_false,Ki _ q2];rfl⟩
 obtain ⟨n,hn⟩:=u1n q a b (w0f q1) (w0f q2) a.length 0 [] (Nat.zero_add _) rfl;refine ⟨n,?_⟩;simp only [rgE,q1,q2,cond_false];exact hn
def fRg (q:Op):List AVal→Option (AVal×Bool)
 | [a0,a1]=>match asL R4 a0,asL R4 a1 with
  | some (L0,g0,n0),some (L1,g1,n1)=>some (.tup [.dat (z3q q L0 L1).length (Zz (z3q q L0 L1)),.int .i64 (w3k q L0 L1)],isT R4 n0 g0&&(isT R4 n1 g1&&(y1v q L0 L1)))
  | _,_=>none
 | _=>none
theorem fRg_ok (q:Op) {S:Specs} (hS:Zq prog S):Zq prog (S.with (nRg q) (fRg q)):=by
 refine v1i hS (by cases q <;> kernel_rfl) fun args v h=> ?_;unfold fRg at h;split at h
 ·rename_i a0 a1;split at h
  ·rename_i L0 g0 n0 L1 g1 n1 e0 e1;simp only [Option.some.injEq,Prod.mk.injEq,Bool.and_eq_true] at h;obtain ⟨rfl,ho0,ho1,hw⟩:=h;obtain ⟨N,hN⟩:=rg_run q L0 L1 hw;exact ⟨_,_,(.cons (asL_le e0 ho0) (.cons (asL_le e1 ho1) .nil)),z4q _ _,v4y q L0 L1 N _ hN,3,z8u _ _⟩
  ·cases h
 ·cases h
def Vd :Specs:=Vc.with (nRg .d) (fRg .d)
theorem Jn :Zq prog Vd:=fRg_ok .d Kk
end Go.Am
namespace Go.Am
open Go.Proofs.Tryz
open Go.Proofs
inductive sljS where
 | h0 (v16:Int) (aB:List Int)
 | h1 (v16:Int) (aB:List Int)
 | h2 (v4:Int) (aC:List R6) (aP:List R4) (aV:Int) (aW:Int) (aG:Nat) (aI:List Int)
 | h3 (v4:Int) (v38:Int) (aC:List R6) (aP:List R4) (aV:Int) (aW:Int) (aG:Nat) (aI:List Int) (aN:Int) (aT:Int) (aA:List R4)
 | h4 (v4:Int) (v38:Int) (aC:List R6) (aP:List R4) (aV:Int) (aW:Int) (aG:Nat) (aI:List Int) (aN:Int) (aT:Int) (aA:List R4) (aH:List R4)
 | h5 (v1:Int) (v2:Int) (v72:List R4) (v73:Int) (v74:Int) (aR:Int) (aF:List R6) (bB:Int) (aG:Nat) (aI:List Int) (aN:List R4) (aT:List R4)
 | h6 (v2:Int) (v8:Int) (cF:Int) (bM:List R4) (aR:Int) (aF:List R6) (bI:List R4) (bB:Int) (cI:Int) (bG:Nat) (bW:List Int) (aA:List R4) (aH:List R4)
def y3e (l0:List R6) (l1:List R6):AFr:=⟨⟨12,0,true⟩,(Wd prog 55 [1,0] 3),(Zb prog 55 [1,0] 1),none,(Zy prog 16),Yq [(6,(.dat l0.length (Zz l0))),(7,(.dat l1.length (Zz l1))),(8,(.agg [(.fn 91 [])]))]⟩
abbrev y6y (aF:List R6) (v8:Int) (v2:Int):=(aF.set (0+(tn v8)) (R6.mk (rd aF (0+(tn v8))).a (rd aF (0+(tn v8))).b (rd aF (0+(tn v8))).c (rd aF (0+(tn v8))).d (rd aF (0+(tn v8))).e v2))
def x9t :AFr:=⟨⟨27,0,true⟩,(Wd prog 90 [1,1,1,0] 4),(Zb prog 90 [1,1,1,0] 1),none,(Zy prog 23),Yq [(20,(.agg [(.fn 91 [])])),(23,(.sl 8 0 2 (.un 1)))]⟩
def w6y :=(z5j [(0,⟨.ready,none,65,Yq [(2,(.ptr 1 0)),(4,(.ptr 2 0)),(5,(.ptr 3 0)),(6,(.ptr 4 0))],[15],(Xd prog 108 [1,1,0,1,0,0]),(Xd prog 108 [1,1,0,1,0,1])⟩)])
abbrev y6x (aB:List Int):=(Xx (Yp aB.length (cOf (Zz (Yh (Yp aB.length (cOf (Zz aB))))))))
def w6x :AFr:=⟨⟨65,0,true⟩,none,(.inRangeFunc 0::(Zb prog 108 [1,1,0,1,0] 1)),none,(Zy prog 36),Yq [(4,(.ptr 2 0)),(5,(.ptr 3 0)),(6,(.ptr 4 0))]⟩
abbrev y6w (aA:List R4) (l0:List R6) (v38:Int):=(aA++[(R4.mk (rd l0 (tn v38)).a (rd l0 (tn v38)).b (rd l0 (tn v38)).d (rd l0 (tn v38)).e)])
abbrev y6v (aH:List R4) (l1:List R6) (v38:Int):=(aH++[(R4.mk (rd l1 (tn v38)).a (rd l1 (tn v38)).b (rd l1 (tn v38)).d (rd l1 (tn v38)).e)])
abbrev y6u (aF:List R6) (v72:List R4) (v74:Int) (v1:Int) (v2:Int):=(aF++[(R6.mk (rd v72 (tn v74)).a (rd v72 (tn v74)).b v1 (rd v72 (tn v74)).c (rd v72 (tn v74)).d v2)])
def y3d (l0:List R6) (l1:List R6):ABlk:=⟨[(.dat l0.length (Zz l0)),(.dat l1.length (Zz l1))],22,none⟩
def w7b :AFr:=⟨⟨65,0,true⟩,(Wd prog 108 [1,1,0,0] 1),(Zb prog 108 [1,1,0,0] 1),none,(Zy prog 36),Yq [(2,(.ptr 3 0)),(4,(.ptr 4 0)),(5,(.ptr 5 0)),(6,(.ptr 6 0)),(13,(.sl 1 0 2 (.un 1)))]⟩
def w7a :AFr:=⟨⟨27,0,true⟩,(Wd prog 90 [1,1,1,0] 4),(Zb prog 90 [1,1,1,0] 1),none,(Zy prog 23),Yq [(20,(.agg [(.fn 91 [])])),(23,(.sl 1 0 2 (.un 1)))]⟩
def z5t :ABlk:=⟨[(.fn 91 [])],124,none⟩
abbrev z8o (aB:List Int) (l0:List R6) (v16:Int):=(aB++[(rd l0 (tn v16)).c,(rd l0 (tn v16)).f])
abbrev z8n (aB:List Int) (l1:List R6) (v16:Int):=(aB++[(rd l1 (tn v16)).c,(rd l1 (tn v16)).f])
def y9o :ABlk:=⟨[(.sl 8 0 2 (.un 1))],168,none⟩
def w6z :=(Zb prog 150 [1,0,0,1,0,0,1,0,1,0,0,1,1,0,0,1,1,0,0] 0)
def sljC (q:Op) (l0:List R6) (l1:List R6):sljS→Cfg
 | .h0 v16 aB=>⟨⟨36,0,true⟩,none,(Zb prog 129 [1,1,0,1,0,0,1,1,0,0,1,1,0,0] 0),none,(Zy prog 15),⟨Yq [(1,(.ptr 0 0)),(3,(.ptr 2 0)),(8,(.sl 1 0 2 (.un 1))),(9,(ii 2)),(10,(ii 0)),(14,(.dat l0.length (Zz l0))),(15,(ii (l0.length:Int))),(16,(ii v16))],Uv [⟨[(.sl 1 0 2 (.un 1))],168,none⟩,(y3d l0 l1),⟨[(.sla 7 1 0 aB.length (.un 1))],47,none⟩,z5t,⟨[.nils],30,none⟩,⟨[(ii 0)],24,none⟩,⟨[.nils,.nils,(ii 0),(ii 0)],170,none⟩,⟨rows aB.length (Zz aB),3,some ⟨1,aB.length,(Zz aB)⟩⟩] 0,8,[],true⟩,[w7b,w7a,(y3e l0 l1)],.leaf⟩
 | .h1 v16 aB=>⟨⟨36,0,true⟩,none,(Zb prog 129 [1,1,0,1,0,0,1,1,0,0,1,1,0,0] 0),none,(Zy prog 15),⟨Yq [(1,(.ptr 0 0)),(3,(.ptr 2 0)),(8,(.sl 1 0 2 (.un 1))),(9,(ii 2)),(10,(ii 1)),(14,(.dat l1.length (Zz l1))),(15,(ii (l1.length:Int))),(16,(ii v16))],Uv [⟨[(.sl 1 0 2 (.un 1))],168,none⟩,(y3d l0 l1),⟨[(.sla 7 1 0 aB.length (.un 1))],47,none⟩,z5t,⟨[.nils],30,none⟩,⟨[(ii 0)],24,none⟩,⟨[.nils,.nils,(ii 0),(ii 0)],170,none⟩,⟨rows aB.length (Zz aB),3,some ⟨1,aB.length,(Zz aB)⟩⟩] 0,8,[],true⟩,[w7b,w7a,(y3e l0 l1)],.leaf⟩
 | .h2 v4 aC aP aV aW aG aI=>⟨⟨86,0,true⟩,none,(Zb prog 150 [1,0,0] 0),none,[],⟨Yq [(0,(.yld 0)),(1,(.ptr 5 0)),(2,(.ptr 7 0)),(4,(ii v4))],z0z [(1,z5t),(2,⟨[.nils],30,none⟩),(3,⟨[(ii 0)],24,none⟩),(4,⟨[(.sla 9 6 0 aC.length (.un 6)),(.dat aP.length (Zz aP)),(ii aV),(ii aW)],170,none⟩),(5,⟨[(.sla 6 1 0 aG (.un 1))],47,none⟩),(6,⟨rows aI.length (Zz aI),3,some ⟨1,aI.length,(Zz aI)⟩⟩),(7,y9o),(8,(y3d l0 l1)),(9,⟨rows aC.length (Zz aC),68,some ⟨6,aC.length,(Zz aC)⟩⟩)],10,[],true⟩,[w6x,x9t,(y3e l0 l1)],w6y⟩
 | .h3 v4 v38 aC aP aV aW aG aI aN aT aA=>⟨⟨86,0,true⟩,none,w6z,none,[],⟨Yq [(0,(.yld 0)),(1,(.ptr 5 0)),(2,(.ptr 7 0)),(4,(ii v4)),(5,(.ptr 9 0)),(6,(ii 0)),(29,(.sl 8 0 2 (.un 1))),(30,(ii 2)),(31,(ii 0)),(36,(.dat l0.length (Zz l0))),(37,(ii (l0.length:Int))),(38,(ii v38))],z0z [(1,z5t),(2,⟨[.nils],30,none⟩),(3,⟨[(ii 0)],24,none⟩),(4,⟨[(.sla 12 6 0 aC.length (.un 6)),(.dat aP.length (Zz aP)),(ii aV),(ii aW)],170,none⟩),(5,⟨[(.sla 6 1 0 aG (.un 1))],47,none⟩),(6,⟨rows aI.length (Zz aI),3,some ⟨1,aI.length,(Zz aI)⟩⟩),(7,y9o),(8,(y3d l0 l1)),(9,⟨[(ii aN),(ii aT),(.sl 10 0 2 (.ex 2))],175,none⟩),(10,⟨[(.sla 11 4 0 aA.length (.un 4)),.nils],105,none⟩),(11,⟨rows aA.length (Zz aA),114,some ⟨4,aA.length,(Zz aA)⟩⟩),(12,⟨rows aC.length (Zz aC),68,some ⟨6,aC.length,(Zz aC)⟩⟩)],13,[],true⟩,[w6x,x9t,(y3e l0 l1)],w6y⟩
 | .h4 v4 v38 aC aP aV aW aG aI aN aT aA aH=>⟨⟨86,0,true⟩,none,w6z,none,[],⟨Yq [(0,(.yld 0)),(1,(.ptr 5 0)),(2,(.ptr 7 0)),(4,(ii v4)),(5,(.ptr 9 0)),(6,(ii 1)),(29,(.sl 8 0 2 (.un 1))),(30,(ii 2)),(31,(ii 1)),(36,(.dat l1.length (Zz l1))),(37,(ii (l1.length:Int))),(38,(ii v38))],z0z [(1,z5t),(2,⟨[.nils],30,none⟩),(3,⟨[(ii 0)],24,none⟩),(4,⟨[(.sla 13 6 0 aC.length (.un 6)),(.dat aP.length (Zz aP)),(ii aV),(ii aW)],170,none⟩),(5,⟨[(.sla 6 1 0 aG (.un 1))],47,none⟩),(6,⟨rows aI.length (Zz aI),3,some ⟨1,aI.length,(Zz aI)⟩⟩),(7,y9o),(8,(y3d l0 l1)),(9,⟨[(ii aN),(ii aT),(.sl 10 0 2 (.ex 2))],175,none⟩),(10,⟨[(.sla 11 4 0 aA.length (.un 4)),(.sla 12 4 0 aH.length (.un 4))],105,none⟩),(11,⟨rows aA.length (Zz aA),114,some ⟨4,aA.length,(Zz aA)⟩⟩),(12,⟨rows aH.length (Zz aH),114,some ⟨4,aH.length,(Zz aH)⟩⟩),(13,⟨rows aC.length (Zz aC),68,some ⟨6,aC.length,(Zz aC)⟩⟩)],14,[],true⟩,[w6x,x9t,(y3e l0 l1)],w6y⟩
 | .h5 v1 v2 v72 v73 v74 aR aF bB aG aI aN aT=>⟨⟨101,0,true⟩,none,(Zb prog 131 [1,1,1,0,0] 0),none,[],⟨Yq [(0,(.ptr 0 0)),(1,(ii v1)),(2,(ii v2)),(72,(.dat v72.length (Zz v72))),(73,(ii v73)),(74,(ii v74))],z0z [(0,⟨[(.sla 10 6 0 aF.length (.un 6)),(.dat v72.length (Zz v72)),(ii bB),(ii v2)],170,none⟩),(2,z5t),(3,⟨[.nils],30,none⟩),(4,⟨[(ii 0)],24,none⟩),(5,⟨[(.sla 6 1 0 aG (.un 1))],47,none⟩),(6,⟨rows aI.length (Zz aI),3,some ⟨1,aI.length,(Zz aI)⟩⟩),(7,y9o),(8,(y3d l0 l1)),(9,⟨[(.dat aN.length (Zz aN)),(.dat aT.length (Zz aT))],105,none⟩),(10,⟨rows aF.length (Zz aF),68,some ⟨6,aF.length,(Zz aF)⟩⟩)],11,[],true⟩,[⟨⟨65,0,true⟩,(Wd prog 108 [1,1,0,1,0,1,0,1,1,1] 5),(Zb prog 108 [1,1,0,1,0,1,0,1,1,1] 1),(some 1),[],Yq [(6,(.ptr 0 0)),(54,(ii v1)),(56,(ii v2)),(57,(.dat v72.length (Zz v72)))]⟩,⟨⟨86,0,true⟩,(Wd prog 150 [1,0,0,1,0,0,1,1,0] 2),(Zb prog 150 [1,0,0,1,0,0,1,1,0] 1),none,[],Yq [(0,(.yld 1)),(1,(.ptr 5 0)),(2,(.ptr 7 0)),(4,(ii aR)),(82,(.yld 1)),(83,(.agg [(ii v1),(ii v2),(.sl 9 0 2 (.ex 2))]))]⟩,⟨⟨65,0,true⟩,none,(.inRangeFunc 1::(Zb prog 108 [1,1,0,1,0] 1)),none,(Zy prog 36),Yq [(4,(.ptr 3 0)),(5,(.ptr 4 0)),(6,(.ptr 0 0))]⟩,x9t,(y3e l0 l1)],(z5j [(1,⟨.busy,none,65,Yq [(2,(.ptr 2 0)),(4,(.ptr 3 0)),(5,(.ptr 4 0)),(6,(.ptr 0 0))],[15],(Xd prog 108 [1,1,0,1,0,0]),(Xd prog 108 [1,1,0,1,0,1])⟩)])⟩
 | .h6 v2 v8 cF bM aR aF bI bB cI bG bW aA aH=>⟨⟨101,0,true⟩,none,(Zb prog 131 [0,1,0,0,1,0,0] 0),none,[],⟨Yq [(0,(.ptr 0 0)),(2,(ii v2)),(8,(ii v8))],z0z [(0,⟨[(.sla 1 6 0 aF.length (.un 6)),(.dat bI.length (Zz bI)),(ii bB),(ii cI)],170,none⟩),(1,⟨rows aF.length (Zz aF),68,some ⟨6,aF.length,(Zz aF)⟩⟩),(3,z5t),(4,⟨[.nils],30,none⟩),(5,⟨[(ii 0)],24,none⟩),(6,⟨[(.sla 7 1 0 bG (.un 1))],47,none⟩),(7,⟨rows bW.length (Zz bW),3,some ⟨1,bW.length,(Zz bW)⟩⟩),(8,⟨[(.sl 9 0 2 (.un 1))],168,none⟩),(9,(y3d l0 l1)),(10,⟨[(.dat aA.length (Zz aA)),(.dat aH.length (Zz aH))],105,none⟩)],11,[],true⟩,[⟨⟨65,0,true⟩,(Wd prog 108 [1,1,0,1,0,1,0,1,1,1] 5),(Zb prog 108 [1,1,0,1,0,1,0,1,1,1] 1),(some 2),[],Yq [(6,(.ptr 0 0)),(54,(ii cF)),(56,(ii v2)),(57,(.dat bM.length (Zz bM)))]⟩,⟨⟨86,0,true⟩,(Wd prog 150 [1,0,0,1,0,0,1,1,0] 2),(Zb prog 150 [1,0,0,1,0,0,1,1,0] 1),none,[],Yq [(0,(.yld 2)),(1,(.ptr 6 0)),(2,(.ptr 8 0)),(4,(ii aR)),(82,(.yld 2)),(83,(.agg [(ii cF),(ii v2),(.sl 10 0 2 (.ex 2))]))]⟩,⟨⟨65,0,true⟩,none,(.inRangeFunc 2::(Zb prog 108 [1,1,0,1,0] 1)),none,(Zy prog 36),Yq [(4,(.ptr 4 0)),(5,(.ptr 5 0)),(6,(.ptr 0 0))]⟩,⟨⟨27,0,true⟩,(Wd prog 90 [1,1,1,0] 4),(Zb prog 90 [1,1,1,0] 1),none,(Zy prog 23),Yq [(20,(.agg [(.fn 91 [])])),(23,(.sl 9 0 2 (.un 1)))]⟩,(y3e l0 l1)],(z5j [(2,⟨.busy,none,65,Yq [(2,(.ptr 3 0)),(4,(.ptr 4 0)),(5,(.ptr 5 0)),(6,(.ptr 0 0))],[15],(Xd prog 108 [1,1,0,1,0,0]),(Xd prog 108 [1,1,0,1,0,1])⟩)])⟩
def sljN0 :List (Option (List Nat)):=[some [1,3,8,9,10,14,15,16],some [2,4,5,6,13],some [20,23],some [6,7,8]]
def sljM0 :List (Option (List Nat)):=[]
def sljN1 :List (Option (List Nat)):=[some [1,3,8,9,10,14,15,16],some [2,4,5,6,13],some [20,23],some [6,7,8]]
def sljM1 :List (Option (List Nat)):=[]
def u5x :List (Option (List Nat)):=[some [0,1,2,4],some [4,5,6],some [20,23],some [6,7,8]]
def u5y :List (Option (List Nat)):=[some [2,4,5,6],none,none,none,none,none,none,none,none,none]
def v3y :List (Option (List Nat)):=[some [0,1,2,4,5,6,29,30,31,36,37,38],some [4,5,6],some [20,23],some [6,7,8]]
def v4b :List (Option (List Nat)):=[some [2,4,5,6],none,none,none,none,none,none,none,none,none,none,none,none]
def v3x :List (Option (List Nat)):=[some [0,1,2,4,5,6,29,30,31,36,37,38],some [4,5,6],some [20,23],some [6,7,8]]
def v4a :List (Option (List Nat)):=[some [2,4,5,6],none,none,none,none,none,none,none,none,none,none,none,none,none]
def v3w :List (Option (List Nat)):=[some [0,1,2,72,73,74],some [6,54,56,57],some [0,1,2,4,82,83],some [4,5,6],some [20,23],some [6,7,8]]
def v3z :List (Option (List Nat)):=[none,some [2,4,5,6],none,none,none,none,none,none,none,none,none]
def sljN6 :List (Option (List Nat)):=[some [0,2,8],some [6,54,56,57],some [0,1,2,4,82,83],some [4,5,6],some [20,23],some [6,7,8]]
def sljM6 :List (Option (List Nat)):=[none,none,some [2,4,5,6],none,none,none,none,none,none,none,none]
def Yi (q:Op) (l0:List R6) (l1:List R6):sljS→Xe sljS
 | .h0 v16 aB=>(bif (decide (v16<(l0.length:Int))) then (bif ((decide (0≤v16∧v16<(l0.length:Int)))&&true) then (bif (Nat.beq 1 1&&((decide (0+aB.length=aB.length))&&decide ((aB.length+2+1)*(8+1)≤Un))) then (.to (.h0 (IntKind.wrap .i64 (v16+1)) (aB++[(rd l0 v16.toNat).c,(rd l0 v16.toNat).f]))) else .stuck) else .stuck) else (.to (.h1 0 aB)))
 | .h1 v16 aB=>(bif (decide (v16<(l1.length:Int))) then (bif ((decide (0≤v16∧v16<(l1.length:Int)))&&true) then (bif (Nat.beq 1 1&&((decide (0+aB.length=aB.length))&&decide ((aB.length+2+1)*(8+1)≤Un))) then (.to (.h1 (IntKind.wrap .i64 (v16+1)) (aB++[(rd l1 v16.toNat).c,(rd l1 v16.toNat).f]))) else .stuck) else .stuck) else (bif (decide (aB.length<4611686018427387904)) then (bif (decide (aB.length=aB.length)) then (.to (.h2 1 ([]:List R6) ([]:List R4) 0 0 (v1z (Yp aB.length (cOf (Zz (Yh (Yp aB.length (cOf (Zz aB)))))))) (Xx (Yp aB.length (cOf (Zz (Yh (Yp aB.length (cOf (Zz aB)))))))))) else .stuck) else .stuck))
 | .h2 v4 aC aP aV aW aG aI=>(bif (decide (v4<((aG:Nat):Int))) then (bif ((decide (0≤(IntKind.wrap .i64 (v4 - 1))∧(IntKind.wrap .i64 (v4 - 1))<((aG:Nat):Int)))&&true) then (bif (decide ((0+(Int.toNat (IntKind.wrap .i64 (v4 - 1))))<aI.length)) then (bif ((decide (0≤v4∧v4<((aG:Nat):Int)))&&true) then (bif (decide ((0+v4.toNat)<aI.length)) then (.to (.h3 v4 0 aC aP aV aW aG aI (rd aI (0+(Int.toNat (IntKind.wrap .i64 (v4 - 1))))) (rd aI (0+v4.toNat)) ([]:List R4))) else .stuck) else .stuck) else .stuck) else .stuck) else (bif (decide ((aC.length:Int)>400)) then (.ret [.nils,(.int .i64 4)]) else (.ret [(.dat aC.length (Zz aC)),(.int .i64 0)])))
 | .h3 v4 v38 aC aP aV aW aG aI aN aT aA=>(bif (decide (v38<(l0.length:Int))) then (bif ((decide (0≤v38∧v38<(l0.length:Int)))&&true) then (bif (decide ((rd l0 v38.toNat).c ≤aN)) then (bif (decide (aN<(rd l0 v38.toNat).f)) then (bif (Nat.beq 4 4&&((decide (0+aA.length=aA.length))&&decide ((aA.length+1+1)*(32+1)≤Un))) then (.to (.h3 v4 (IntKind.wrap .i64 (v38+1)) aC aP aV aW aG aI aN aT (aA++[(R4.mk (rd l0 v38.toNat).a (rd l0 v38.toNat).b (rd l0 v38.toNat).d (rd l0 v38.toNat).e)]))) else .stuck) else (.to (.h3 v4 (IntKind.wrap .i64 (v38+1)) aC aP aV aW aG aI aN aT aA))) else (.to (.h3 v4 (IntKind.wrap .i64 (v38+1)) aC aP aV aW aG aI aN aT aA))) else .stuck) else (.to (.h4 v4 0 aC aP aV aW aG aI aN aT aA ([]:List R4))))
 | .h4 v4 v38 aC aP aV aW aG aI aN aT aA aH=>(bif (decide (v38<(l1.length:Int))) then (bif ((decide (0≤v38∧v38<(l1.length:Int)))&&true) then (bif (decide ((rd l1 v38.toNat).c ≤aN)) then (bif (decide (aN<(rd l1 v38.toNat).f)) then (bif (Nat.beq 4 4&&((decide (0+aH.length=aH.length))&&decide ((aH.length+1+1)*(32+1)≤Un))) then (.to (.h4 v4 (IntKind.wrap .i64 (v38+1)) aC aP aV aW aG aI aN aT aA (aH++[(R4.mk (rd l1 v38.toNat).a (rd l1 v38.toNat).b (rd l1 v38.toNat).d (rd l1 v38.toNat).e)]))) else .stuck) else (.to (.h4 v4 (IntKind.wrap .i64 (v38+1)) aC aP aV aW aG aI aN aT aA aH))) else (.to (.h4 v4 (IntKind.wrap .i64 (v38+1)) aC aP aV aW aG aI aN aT aA aH))) else .stuck) else (bif (Jz (cvT aA)) then (bif ((Yn (cvT aA)) == 0) then (bif (Jz (cvT aH)) then (bif ((Yn (cvT aH)) == 0) then (bif ((y1v q) (cvT (Zm (cvT aA))) (cvT (Zm (cvT aH)))) then (bif (((w3k q) (cvT (Zm (cvT aA))) (cvT (Zm (cvT aH)))) != 0) then (.ret [.nils,(.int .i64 ((w3k q) (cvT (Zm (cvT aA))) (cvT (Zm (cvT aH)))))]) else (bif (decide (((((z3q q) (cvT (Zm (cvT aA))) (cvT (Zm (cvT aH)))).length :Nat):Int)>0)) then (bif (aW == aN) then (bif (Xg (cvT aP) (cvT ((z3q q) (cvT (Zm (cvT aA))) (cvT (Zm (cvT aH)))))) then (bif (Vw (cvT aP) (cvT ((z3q q) (cvT (Zm (cvT aA))) (cvT (Zm (cvT aH)))))) then (.to (.h6 aT aV aN ((z3q q) (cvT (Zm (cvT aA))) (cvT (Zm (cvT aH)))) v4 aC aP aV aW aG aI aA aH)) else (.to (.h5 aN aT ((z3q q) (cvT (Zm (cvT aA))) (cvT (Zm (cvT aH)))) ((((z3q q) (cvT (Zm (cvT aA))) (cvT (Zm (cvT aH)))).length :Nat):Int) 0 v4 aC (aC.length:Int) aG aI aA aH))) else .stuck) else (.to (.h5 aN aT ((z3q q) (cvT (Zm (cvT aA))) (cvT (Zm (cvT aH)))) ((((z3q q) (cvT (Zm (cvT aA))) (cvT (Zm (cvT aH)))).length :Nat):Int) 0 v4 aC (aC.length:Int) aG aI aA aH))) else (.to (.h5 aN aT ((z3q q) (cvT (Zm (cvT aA))) (cvT (Zm (cvT aH)))) ((((z3q q) (cvT (Zm (cvT aA))) (cvT (Zm (cvT aH)))).length :Nat):Int) 0 v4 aC (aC.length:Int) aG aI aA aH)))) else .stuck) else (.ret [.nils,(.int .i64 (Yn (cvT aH)))])) else .stuck) else (.ret [.nils,(.int .i64 (Yn (cvT aA)))])) else .stuck))
 | .h5 v1 v2 v72 v73 v74 aR aF bB aG aI aN aT=>(bif (decide (v74<v73)) then (bif ((decide (0≤v74∧v74<(v72.length:Int)))&&true) then (bif (Nat.beq 6 6&&((decide (0+aF.length=aF.length))&&decide ((aF.length+1+1)*(48+1)≤Un))) then (.to (.h5 v1 v2 v72 v73 (IntKind.wrap .i64 (v74+1)) aR (aF++[(R6.mk (rd v72 v74.toNat).a (rd v72 v74.toNat).b v1 (rd v72 v74.toNat).c (rd v72 v74.toNat).d v2)]) bB aG aI aN aT)) else .stuck) else .stuck) else (.to (.h2 (IntKind.wrap .i64 (aR+1)) aF v72 bB v2 aG aI)))
 | .h6 v2 v8 cF bM aR aF bI bB cI bG bW aA aH=>(bif (decide (v8<(aF.length:Int))) then (bif ((decide (0≤v8∧v8<(aF.length:Int)))&&true) then (bif (decide ((0+v8.toNat)<aF.length)) then (.to (.h6 v2 (IntKind.wrap .i64 (v8+1)) cF bM aR (aF.set (0+v8.toNat) (R6.mk (rd aF (0+v8.toNat)).a (rd aF (0+v8.toNat)).b (rd aF (0+v8.toNat)).c (rd aF (0+v8.toNat)).d (rd aF (0+v8.toNat)).e v2)) bI bB cI bG bW aA aH)) else .stuck) else .stuck) else (.to (.h2 (IntKind.wrap .i64 (aR+1)) aF bI bB v2 bG bW)))
def y1l (q:Op) (l0:List R6) (l1:List R6):Xe sljS:=(bif (Wg (cvT l0)) then (bif ((Zf (cvT l0)) != 0) then (.ret [.nils,(.int .i64 (Zf (cvT l0)))]) else (bif (Wg (cvT l1)) then (bif ((Zf (cvT l1)) != 0) then (.ret [.nils,(.int .i64 (Zf (cvT l1)))]) else (.to (.h0 0 ([]:List Int)))) else .stuck)) else .stuck)
theorem w2s (q:Op) (l0:List R6) (l1:List R6): ∀s,Xr prog (Zy prog 55) (sljC q l0 l1) (sljC q l0 l1 s) (Yi q l0 l1 s):=by cases q <;> refine (?f: ∀q:Op,∀s,Xr prog (Zy prog 55) (sljC q l0 l1) (sljC q l0 l1 s) (Yi q l0 l1 s)) _ <;> exact fun q=>fun
 | .h0 v16 aB=>(lb (fun k0=>(lo fun o0=>(lo fun o1=>(sl Jn 34 [] ⟨[0,1,2,3,4,5,6,10],[],sljN0,sljM0⟩ ⟨[],[.keep,.keep,.cells [.len (z8o aB l0 v16).length],.keep,.keep,.keep,.keep,.rowed 1 (z8o aB l0 v16).length (Zz (z8o aB l0 v16))],[]⟩ [true] (pp (xL (aB.length+2) (z8o aB l0 v16).length) (pp (xL (aB.length+2) (z8o aB l0 v16).length) (pp (xS (aB.length+2) (Zt (Zz aB) 0 aB.length 1 [(ii (rd l0 (tn v16)).c),(ii (rd l0 (tn v16)).f)]) (Zz (z8o aB l0 v16))) (pp (pp (xF (Zt (Zz aB) 0 aB.length 1 [(ii (rd l0 (tn v16)).c),(ii (rd l0 (tn v16)).f)])) nn) (ww o1 (ww o0 (tt k0 nn))))))))))) (fun k0=>(sl Jn 36 [] ⟨(List.range 8),[],sljN1,sljM1⟩ ⟨[],[],[]⟩ (bl 2 2) (pp (fl aB nn) (tt k0 nn)))))
 | .h1 v16 aB=>(lb (fun k0=>(lo fun o0=>(lo fun o1=>(sl Jn 34 [] ⟨[0,1,2,3,4,5,6,10],[],sljN1,sljM1⟩ ⟨[],[.keep,.keep,.cells [.len (z8n aB l1 v16).length],.keep,.keep,.keep,.keep,.rowed 1 (z8n aB l1 v16).length (Zz (z8n aB l1 v16))],[]⟩ [true] (pp (xL (aB.length+2) (z8n aB l1 v16).length) (pp (xL (aB.length+2) (z8n aB l1 v16).length) (pp (xS (aB.length+2) (Zt (Zz aB) 0 aB.length 1 [(ii (rd l1 (tn v16)).c),(ii (rd l1 (tn v16)).f)]) (Zz (z8n aB l1 v16))) (pp (pp (xF (Zt (Zz aB) 0 aB.length 1 [(ii (rd l1 (tn v16)).c),(ii (rd l1 (tn v16)).f)])) nn) (ww o1 (ww o0 (tt k0 nn))))))))))) (fun k0=>(lo fun o0=>(lo fun o1=>(sl Jn 46 [(68,6,Zz ([]:List R6))] ⟨[8,3,4,5,6,2,7,0,1,9],[],u5x,u5y⟩ ⟨[],(kpB 4 [.cells [.grow 9 6,.list 0 (Zz ([]:List R4)),.keep,.keep],.keep,.rowed 1 (y6x aB).length (Zz (y6x aB)),.keep,.keep,.keep]),[]⟩ (bl 2 0) (pp (xL aB.length (y6x aB).length (by first | exact Qz _ _ | exact Vu rfl)) (pp (xS aB.length (Zz (y6x aB)) (Zz (y6x aB))) (pp (fl (y6x aB) (fl ([]:List R6) nn)) (pp (pp (xG (Nat.beq 1 1)) (pp (xG (Nat.beq 1 1)) (pp (xG (Nat.beq 0 0)) (pp (xG (decide (aB.length=aB.length))) (pp (xG (isI (Zz (Yh (Yp aB.length (cOf (Zz aB))))))) (xG (decide (aB.length<4611686018427387904)))))))) (pp (pp (xG (Nat.beq 1 1)) (pp (xG (Nat.beq 1 1)) (pp (xG (Nat.beq 0 0)) (pp (xG (decide (aB.length=aB.length))) (pp (xG (isI (Zz aB))) (xG (decide (aB.length<4611686018427387904)))))))) (tt k0 nn)))))))))))
 | .h2 v4 aC aP aV aW aG aI=>(lb (fun k0=>(lo fun o0=>(lo fun o1=>(lo fun o2=>(lo fun o3=>(sl Jn 48 [(114,4,Zz ([]:List R4))] ⟨[0,1,2,3,4,5,6,7,8,10,11,12,9],[],v3y,v4b⟩ ⟨[],(kpB 10 [.cells [.grow 11 4,.keep],.keep,.keep]),[]⟩ (trs 3 []) (pp (fl aI (fl ([]:List R4) (fl aC nn))) (ww o3 (ww o2 (ww o1 (ww o0 (tt k0 nn)))))))))))) (fun k0=>(lb (fun k1=>(lr 12 3 [1,1,1,1,1,1,0] 1 16 [(4,.nils),(5,(ii 4))] (sl Jn 39 [] ⟨[],[],[some [4,5]],[]⟩ ⟨[],[],[]⟩ (bl 2 2) (tt k1 (tt k0 nn))))) (fun k1=>(lr 12 3 [1,1,1,1,1,1,0] 1 16 [(4,(.dat aC.length (Zz aC))),(5,(ii 0))] (sl Jn 42 [] ⟨[],[9],[some [4,5]],[]⟩ ⟨[(4,.frz aC.length aC.length (Zz aC) (Zz aC))],[],[]⟩ (bl 2 0) (pp (xZ (z2u 6 6 0 aC.length aC.length (Zz aC)) aC.length (Zz aC)) (pp (xL aC.length aC.length) (pp (xS aC.length (Zz aC) (Zz aC)) (pp (fl aC nn) (tt k1 (tt k0 nn))))))))))))
 | .h3 v4 v38 aC aP aV aW aG aI aN aT aA=>(lb (fun k0=>(lo fun aJ=>(lb (fun k1=>(lb (fun k2=>(lo fun o0=>(sl Jn 41 [] ⟨[0,1,2,3,4,5,6,7,8,9,10,15,12],[],v3y,v4b⟩ ⟨[],(kpB 10 [.cells [.len (y6w aA l0 v38).length,.keep],.rowed 4 (y6w aA l0 v38).length (Zz (y6w aA l0 v38)),.keep]),[]⟩ (trs 8 []) (pp (xL (aA.length+1) (y6w aA l0 v38).length) (pp (xL (aA.length+1) (y6w aA l0 v38).length) (pp (xS (aA.length+1) (Zt (Zz aA) 0 aA.length 4 [(ii (rd l0 (tn v38)).a),(ii (rd l0 (tn v38)).b),(ii (rd l0 (tn v38)).d),(ii (rd l0 (tn v38)).e)]) (Zz (y6w aA l0 v38))) (pp (fl aI (pp (xF (Zt (Zz aA) 0 aA.length 4 [(ii (rd l0 (tn v38)).a),(ii (rd l0 (tn v38)).b),(ii (rd l0 (tn v38)).d),(ii (rd l0 (tn v38)).e)])) (fl aC nn))) (ww o0 (tt k2 (tt k1 (ww aJ (tt k0 nn)))))))))))) (fun k2=>(sl Jn 41 [] ⟨(List.range 13),[],v3y,v4b⟩ ⟨[],[],[]⟩ (trs 7 [false]) (pp (fl aI (fl aA (fl aC nn))) (tt k2 (tt k1 (ww aJ (tt k0 nn))))))))) (fun k1=>(sl Jn 41 [] ⟨(List.range 13),[],v3y,v4b⟩ ⟨[],[],[]⟩ (bl 8 1) (pp (fl aI (fl aA (fl aC nn))) (tt k1 (ww aJ (tt k0 nn))))))))) (fun k0=>(sl Jn 38 [(114,4,Zz ([]:List R4))] ⟨[0,1,2,3,4,5,6,7,8,9,10,11,13,12],[],v3x,v4a⟩ ⟨[],(kpB 10 [.cells [.keep,.grow 12 4],.keep,.keep,.keep]),[]⟩ (bl 2 2) (pp (fl aI (fl aA (fl ([]:List R4) (fl aC nn)))) (tt k0 nn)))))
 | .h4 v4 v38 aC aP aV aW aG aI aN aT aA aH=>(lb (fun k0=>(lo fun aJ=>(lb (fun k1=>(lb (fun k2=>(lo fun o0=>(sl Jn 41 [] ⟨[0,1,2,3,4,5,6,7,8,9,10,11,16,13],[],v3x,v4a⟩ ⟨[],(kpB 10 [.cells [.keep,.len (y6v aH l1 v38).length],.keep,.rowed 4 (y6v aH l1 v38).length (Zz (y6v aH l1 v38)),.keep]),[]⟩ (trs 8 []) (pp (xL (aH.length+1) (y6v aH l1 v38).length) (pp (xL (aH.length+1) (y6v aH l1 v38).length) (pp (xS (aH.length+1) (Zt (Zz aH) 0 aH.length 4 [(ii (rd l1 (tn v38)).a),(ii (rd l1 (tn v38)).b),(ii (rd l1 (tn v38)).d),(ii (rd l1 (tn v38)).e)]) (Zz (y6v aH l1 v38))) (pp (fl aI (fl aA (pp (xF (Zt (Zz aH) 0 aH.length 4 [(ii (rd l1 (tn v38)).a),(ii (rd l1 (tn v38)).b),(ii (rd l1 (tn v38)).d),(ii (rd l1 (tn v38)).e)])) (fl aC nn)))) (ww o0 (tt k2 (tt k1 (ww aJ (tt k0 nn)))))))))))) (fun k2=>(sl Jn 41 [] ⟨(List.range 14),[],v3x,v4a⟩ ⟨[],[],[]⟩ (trs 7 [false]) (pp (fl aI (fl aA (fl aH (fl aC nn)))) (tt k2 (tt k1 (ww aJ (tt k0 nn))))))))) (fun k1=>(sl Jn 41 [] ⟨(List.range 14),[],v3x,v4a⟩ ⟨[],[],[]⟩ (bl 8 1) (pp (fl aI (fl aA (fl aH (fl aC nn)))) (tt k1 (ww aJ (tt k0 nn))))))))) (fun k0=>(Ww (sl Jn (C':=⟨⟨65,0,true⟩,(Wd prog 108 [1,1,0,1,0,1,0,0] 4),(Zb prog 108 [1,1,0,1,0,1,0,0] 1),(some 0),[],⟨Yq [(2,(.ptr 1 0)),(4,(.ptr 2 0)),(5,(.ptr 3 0)),(6,(.ptr 4 0)),(7,(.ptr 6 0)),(20,(.dat aA.length (Zz aA)))],z0z [(1,⟨[(.fn 91 [])],124,none⟩),(2,⟨[.nils],30,none⟩),(3,⟨[(ii 0)],24,none⟩),(4,⟨[(.sla 5 6 0 aC.length (.un 6)),(.dat aP.length (Zz aP)),(ii aV),(ii aW)],170,none⟩),(5,⟨rows aC.length (Zz aC),68,some ⟨6,aC.length,(Zz aC)⟩⟩),(6,⟨[(ii aN),(ii aT),(.sl 7 0 2 (.ex 2))],175,none⟩),(7,⟨[(.dat aA.length (Zz aA)),(.sla 8 4 0 aH.length (.un 4))],105,none⟩),(8,⟨rows aH.length (Zz aH),114,some ⟨4,aH.length,(Zz aH)⟩⟩),(9,⟨[(.sla 10 1 0 aG (.un 1))],47,none⟩),(10,⟨rows aI.length (Zz aI),3,some ⟨1,aI.length,(Zz aI)⟩⟩),(11,⟨[(.sl 12 0 2 (.un 1))],168,none⟩),(12,⟨[(.dat l0.length (Zz l0)),(.dat l1.length (Zz l1))],22,none⟩)],13,[],true⟩,[⟨⟨86,0,true⟩,(Wd prog 150 [1,0,0,1,0,0,1,1,0] 2),(Zb prog 150 [1,0,0,1,0,0,1,1,0] 1),none,[],Yq [(0,(.yld 0)),(1,(.ptr 9 0)),(2,(.ptr 11 0)),(4,(ii v4)),(82,(.yld 0)),(83,(.agg [(ii aN),(ii aT),(.sl 7 0 2 (.ex 2))]))]⟩,⟨⟨65,0,true⟩,none,(.inRangeFunc 0::(Zb prog 108 [1,1,0,1,0] 1)),none,(Zy prog 36),Yq [(4,(.ptr 2 0)),(5,(.ptr 3 0)),(6,(.ptr 4 0))]⟩,⟨⟨27,0,true⟩,(Wd prog 90 [1,1,1,0] 4),(Zb prog 90 [1,1,1,0] 1),none,(Zy prog 23),Yq [(20,(.agg [(.fn 91 [])])),(23,(.sl 12 0 2 (.un 1)))]⟩,⟨⟨12,0,true⟩,(Wd prog 55 [1,0] 3),(Zb prog 55 [1,0] 1),none,(Zy prog 16),Yq [(6,(.dat l0.length (Zz l0))),(7,(.dat l1.length (Zz l1))),(8,(.agg [(.fn 91 [])]))]⟩],(z5j [(0,⟨.busy,none,65,Yq [(2,(.ptr 1 0)),(4,(.ptr 2 0)),(5,(.ptr 3 0)),(6,(.ptr 4 0))],[15],(Xd prog 108 [1,1,0,1,0,0]),(Xd prog 108 [1,1,0,1,0,1])⟩)])⟩) 37 [] ⟨[0,1,2,3,4,13,14,10,12,5,6,7,8],[11],[some [2,4,5,6,7,20],some [0,1,2,4,82,83],some [4,5,6],some [20,23],some [6,7,8]],[some [2,4,5,6],none,none,none,none,none,none,none,none,none,none,none,none]⟩ ⟨[(20,.frz aA.length aA.length (Zz aA) (Zz aA))],[.keep,.keep,.keep,.keep,.keep,.keep,.keep,.cells [.frz aA.length aA.length (Zz aA) (Zz aA),.keep],.keep,.keep,.keep,.keep,.keep],[]⟩ (bl 2 0) (pp (xZ (z2u 4 4 0 aA.length aA.length (Zz aA)) aA.length (Zz aA)) (pp (xL aA.length aA.length) (pp (xS aA.length (Zz aA) (Zz aA)) (pp (xZ (z2u 4 4 0 aA.length aA.length (Zz aA)) aA.length (Zz aA)) (pp (xL aA.length aA.length) (pp (xS aA.length (Zz aA) (Zz aA)) (pp (fl aC (fl aH (fl aI nn))) (pp (fl aA nn) (tt k0 nn)))))))))) (lo fun aJ=>(lb (fun k1=>(Ww (sl Jn (C':=⟨⟨65,0,true⟩,(Wd prog 108 [1,1,0,1,0,1,0,1,0,1,0,0,1,1,0,0,1,1,0,1,0] 1),(Zb prog 108 [1,1,0,1,0,1,0,1,0,1,0,0,1,1,0,0,1,1,0,1,0] 1),(some 0),[],⟨Yq [(2,(.ptr 1 0)),(4,(.ptr 2 0)),(5,(.ptr 3 0)),(6,(.ptr 4 0)),(7,(.ptr 6 0)),(8,(.dat (Zm (cvT aA)).length (Zz (Zm (cvT aA))))),(26,(.sl 7 1 1 (.ex 1))),(27,(ii 1)),(28,(ii 0)),(35,(.dat aH.length (Zz aH)))],z0z [(1,⟨[(.fn 91 [])],124,none⟩),(2,⟨[.nils],30,none⟩),(3,⟨[(ii 0)],24,none⟩),(4,⟨[(.sla 5 6 0 aC.length (.un 6)),(.dat aP.length (Zz aP)),(ii aV),(ii aW)],170,none⟩),(5,⟨rows aC.length (Zz aC),68,some ⟨6,aC.length,(Zz aC)⟩⟩),(6,⟨[(ii aN),(ii aT),(.sl 7 0 2 (.ex 2))],175,none⟩),(7,⟨[(.dat aA.length (Zz aA)),(.dat aH.length (Zz aH))],105,none⟩),(8,⟨[(.sla 9 1 0 aG (.un 1))],47,none⟩),(9,⟨rows aI.length (Zz aI),3,some ⟨1,aI.length,(Zz aI)⟩⟩),(10,⟨[(.sl 11 0 2 (.un 1))],168,none⟩),(11,⟨[(.dat l0.length (Zz l0)),(.dat l1.length (Zz l1))],22,none⟩)],12,[],true⟩,[⟨⟨86,0,true⟩,(Wd prog 150 [1,0,0,1,0,0,1,1,0] 2),(Zb prog 150 [1,0,0,1,0,0,1,1,0] 1),none,[],Yq [(0,(.yld 0)),(1,(.ptr 8 0)),(2,(.ptr 10 0)),(4,(ii v4)),(82,(.yld 0)),(83,(.agg [(ii aN),(ii aT),(.sl 7 0 2 (.ex 2))]))]⟩,⟨⟨65,0,true⟩,none,(.inRangeFunc 0::(Zb prog 108 [1,1,0,1,0] 1)),none,(Zy prog 36),Yq [(4,(.ptr 2 0)),(5,(.ptr 3 0)),(6,(.ptr 4 0))]⟩,⟨⟨27,0,true⟩,(Wd prog 90 [1,1,1,0] 4),(Zb prog 90 [1,1,1,0] 1),none,(Zy prog 23),Yq [(20,(.agg [(.fn 91 [])])),(23,(.sl 11 0 2 (.un 1)))]⟩,⟨⟨12,0,true⟩,(Wd prog 55 [1,0] 3),(Zb prog 55 [1,0] 1),none,(Zy prog 16),Yq [(6,(.dat l0.length (Zz l0))),(7,(.dat l1.length (Zz l1))),(8,(.agg [(.fn 91 [])]))]⟩],(z5j [(0,⟨.busy,none,65,Yq [(2,(.ptr 1 0)),(4,(.ptr 2 0)),(5,(.ptr 3 0)),(6,(.ptr 4 0))],[15],(Xd prog 108 [1,1,0,1,0,0]),(Xd prog 108 [1,1,0,1,0,1])⟩)])⟩) 46 [] ⟨[0,1,2,3,4,5,6,7,9,10,11,12],[8],[some [2,4,5,6,7,8,26,27,28,35],some [0,1,2,4,82,83],some [4,5,6],some [20,23],some [6,7,8]],[some [2,4,5,6],none,none,none,none,none,none,none,none,none,none,none]⟩ ⟨[(35,.frz aH.length aH.length (Zz aH) (Zz aH))],[.keep,.keep,.keep,.keep,.keep,.keep,.keep,.cells [.keep,.frz aH.length aH.length (Zz aH) (Zz aH)],.keep,.keep,.keep,.keep],[]⟩ (bl 2 3) (pp (xZ (z2u 4 4 0 aH.length aH.length (Zz aH)) aH.length (Zz aH)) (pp (xL aH.length aH.length) (pp (xS aH.length (Zz aH) (Zz aH)) (pp (xZ (z2u 4 4 0 aH.length aH.length (Zz aH)) aH.length (Zz aH)) (pp (xL aH.length aH.length) (pp (xS aH.length (Zz aH) (Zz aH)) (pp (fl aC (fl aI nn)) (pp (fl aH nn) (tt k1 (pp (pp (xr aA) (xw aJ)) nn))))))))))) (lo fun cK=>(lb (fun k2=>(lo fun cP=>(lb (fun k3=>(lr 12 3 [1,1,1,1,1,1,0] 1 16 [(4,.nils),(5,(ii ((w3k q) (cvT (Zm (cvT aA))) (cvT (Zm (cvT aH))))))] (sl Jn 69 [] ⟨[],[],[some [4,5]],[]⟩ ⟨[],[],[]⟩ (bl 4 13) (tt k3 (pp (pp (xI R4 (Zm (cvT aA)).length (Zz (Zm (cvT aA)))) (pp (xI R4 (Zm (cvT aH)).length (Zz (Zm (cvT aH)))) (xw cP))) (tt k2 (pp (pp (xr aH) (xw cK)) nn))))))) (fun k3=>(lb (fun k4=>(lb (fun k5=>(lo fun eE=>(lb (fun k6=>(sl Jn 88 [] ⟨[4,5,0,1,2,3,8,9,10,11,7],[],sljN6,sljM6⟩ ⟨[],[],[]⟩ (bl 16 65529) (pp (fl aC (fl aI nn)) (tt k6 (pp (pp (xr aP) (pp (xI R4 ((z3q q) (cvT (Zm (cvT aA))) (cvT (Zm (cvT aH)))).length (Zz ((z3q q) (cvT (Zm (cvT aA))) (cvT (Zm (cvT aH)))))) (xw eE))) (tt k5 (tt k4 (tt k3 (pp (pp (xI R4 (Zm (cvT aA)).length (Zz (Zm (cvT aA)))) (pp (xI R4 (Zm (cvT aH)).length (Zz (Zm (cvT aH)))) (xw cP))) (tt k2 (pp (pp (xr aH) (xw cK)) nn))))))))))) (fun k6=>(sl Jn 108 [] ⟨[4,0,1,2,3,8,9,10,11,7,5],[],v3w,v3z⟩ ⟨[],[],[]⟩ (bl 16 32761) (pp (fl aI (fl aC nn)) (tt k6 (pp (pp (xr aP) (pp (xI R4 ((z3q q) (cvT (Zm (cvT aA))) (cvT (Zm (cvT aH)))).length (Zz ((z3q q) (cvT (Zm (cvT aA))) (cvT (Zm (cvT aH)))))) (xw eE))) (tt k5 (tt k4 (tt k3 (pp (pp (xI R4 (Zm (cvT aA)).length (Zz (Zm (cvT aA)))) (pp (xI R4 (Zm (cvT aH)).length (Zz (Zm (cvT aH)))) (xw cP))) (tt k2 (pp (pp (xr aH) (xw cK)) nn)))))))))))))) (fun k5=>(sl Jn 108 [] ⟨[4,0,1,2,3,8,9,10,11,7,5],[],v3w,v3z⟩ ⟨[],[],[]⟩ (bl 16 505) (pp (fl aI (fl aC nn)) (tt k5 (tt k4 (tt k3 (pp (pp (xI R4 (Zm (cvT aA)).length (Zz (Zm (cvT aA)))) (pp (xI R4 (Zm (cvT aH)).length (Zz (Zm (cvT aH)))) (xw cP))) (tt k2 (pp (pp (xr aH) (xw cK)) nn))))))))))) (fun k4=>(sl Jn 108 [] ⟨[4,0,1,2,3,8,9,10,11,7,5],[],v3w,v3z⟩ ⟨[],[],[]⟩ (bl 16 1) (pp (fl aI (fl aC nn)) (tt k4 (tt k3 (pp (pp (xI R4 (Zm (cvT aA)).length (Zz (Zm (cvT aA)))) (pp (xI R4 (Zm (cvT aH)).length (Zz (Zm (cvT aH)))) (xw cP))) (tt k2 (pp (pp (xr aH) (xw cK)) nn))))))))))))) (fun k2=>(lr 12 3 [1,1,1,1,1,1,0] 1 16 [(4,.nils),(5,(ii (Yn (cvT aH))))] (sl Jn 58 [] ⟨[],[],[some [4,5]],[]⟩ ⟨[],[],[]⟩ (bl 4 12) (yt (bne_f k2) (tt k2 (pp (pp (xr aH) (xw cK)) nn)))))))))) (fun k1=>(lr 12 3 [1,1,1,1,1,1,0] 1 16 [(4,.nils),(5,(ii (Yn (cvT aA))))] (sl Jn 84 [] ⟨[],[],[some [4,5]],[]⟩ ⟨[],[],[]⟩ (bl 5 25) (yt (bne_f k1) (tt k1 (pp (pp (xr aA) (xw aJ)) nn)))))))))))
 | .h5 v1 v2 v72 v73 v74 aR aF bB aG aI aN aT=>(lb (fun k0=>(lo fun o0=>(lo fun o1=>(sl Jn 23 [] ⟨[0,1,2,3,4,5,6,7,8,9,13],[],v3w,v3z⟩ ⟨[],[.cells [.len (y6u aF v72 v74 v1 v2).length,.keep,.keep,.keep],.keep,.keep,.keep,.keep,.keep,.keep,.keep,.keep,.keep,.rowed 6 (y6u aF v72 v74 v1 v2).length (Zz (y6u aF v72 v74 v1 v2))],[]⟩ [true] (pp (xL (aF.length+1) (y6u aF v72 v74 v1 v2).length) (pp (xL (aF.length+1) (y6u aF v72 v74 v1 v2).length) (pp (xS (aF.length+1) (Zt (Zz aF) 0 aF.length 6 [(ii (rd v72 (tn v74)).a),(ii (rd v72 (tn v74)).b),(ii v1),(ii (rd v72 (tn v74)).c),(ii (rd v72 (tn v74)).d),(ii v2)]) (Zz (y6u aF v72 v74 v1 v2))) (pp (fl aI (pp (xF (Zt (Zz aF) 0 aF.length 6 [(ii (rd v72 (tn v74)).a),(ii (rd v72 (tn v74)).b),(ii v1),(ii (rd v72 (tn v74)).c),(ii (rd v72 (tn v74)).d),(ii v2)])) nn)) (ww o1 (ww o0 (tt k0 nn))))))))))) (fun k0=>(sl Jn 22 [] ⟨[1,2,3,4,0,5,6,7,8,10],[],u5x,u5y⟩ ⟨[],[],[]⟩ (bl 2 0) (pp (fl aI (fl aF nn)) (tt k0 nn)))))
 | .h6 v2 v8 cF bM aR aF bI bB cI bG bW aA aH=>(lb (fun k0=>(lo fun o0=>(lo fun o1=>(sl Jn 34 [] ⟨(List.range 11),[],sljN6,sljM6⟩ ⟨[],[.cells [.len (y6y aF v8 v2).length,.keep,.keep,.keep],.rowed 6 (y6y aF v8 v2).length (Zz (y6y aF v8 v2)),.keep,.keep,.keep,.keep,.keep,.keep,.keep,.keep,.keep],[]⟩ [true] (pp (xL aF.length (y6y aF v8 v2).length) (pp (xL aF.length (y6y aF v8 v2).length) (pp (xS aF.length (Xj (Zz aF) (0+(tn v8)) 5 [(ii v2)]) (Zz (y6y aF v8 v2))) (pp (pp (xF (Xj (Zz aF) (0+(tn v8)) 5 [(ii v2)])) (fl bW nn)) (ww o1 (ww o0 (tt k0 nn))))))))))) (fun k0=>(sl Jn 36 [] ⟨[2,3,4,5,0,6,7,8,9,1],[],u5x,u5y⟩ ⟨[],[],[]⟩ (bl 2 0) (pp (fl bW (fl aF nn)) (tt k0 nn)))))
theorem x5p (q:Op) (l0:List R6) (l1:List R6):Xr prog (Zy prog 55) (sljC q l0 l1) (Zi prog 55 [(.dat l0.length (Zz l0)),(.dat l1.length (Zz l1))] true []) (y1l q l0 l1):=by cases q <;> exact (lo fun bO=>(lb (fun k0=>(lr 12 3 [1,1,1,1,1,1,0] 1 16 [(4,.nils),(5,(ii (Zf (cvT l0))))] (sl Jn 42 [] ⟨[],[],[some [4,5]],[]⟩ ⟨[],[],[]⟩ [true] (tt k0 (pp (pp (xr l0) (xw bO)) nn))))) (fun k0=>(lo fun aJ=>(lb (fun k1=>(lr 12 3 [1,1,1,1,1,1,0] 1 16 [(4,.nils),(5,(ii (Zf (cvT l1))))] (sl Jn 56 [] ⟨[],[],[some [4,5]],[]⟩ ⟨[],[],[]⟩ [false,true] (tt k1 (pp (pp (xr l1) (xw aJ)) (tt k0 (pp (pp (xr l0) (xw bO)) nn))))))) (fun k1=>(sl Jn 108 [(3,1,Zz ([]:List Int))] ⟨[6,1,7,2,3,4,5,8],[],sljN0,sljM0⟩ ⟨[],[.keep,.keep,.cells [.grow 7 1],.keep,.keep,.keep,.keep,.keep],[]⟩ [false,false,true] (pp (fl ([]:List Int) nn) (tt k1 (pp (pp (xr l1) (xw aJ)) (tt k0 (pp (pp (xr l0) (xw bO)) nn))))))))))))
theorem v3v (q:Op) (l0:List R6) (l1:List R6) (n:Nat) (vs:List AVal) (h:Yj (Yi q l0 l1) n (y1l q l0 l1)=.ret vs):Kg prog (Zy prog 55) (Zi prog 55 [(.dat l0.length (Zz l0)),(.dat l1.length (Zz l1))] true []) vs:=by have:=Yw (w2s q l0 l1) n _ (x5p q l0 l1);rwa [h] at this
end Go.Am
end
