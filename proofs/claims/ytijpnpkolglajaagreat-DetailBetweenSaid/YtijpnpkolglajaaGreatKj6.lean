/- A part of a proof: several texts in one. -/
import Derived.Test.YtijpnpkolglajaaGreatKj5
import Derived.WideShapes
import Derived.ChangeShapes
set_option maxRecDepth 1000000
set_option maxHeartbeats 8000000
set_option linter.unusedVariables false
set_option linter.unusedSimpArgs false
noncomputable section
namespace Go.Am
open Go.Proofs.Tryz
open Go.Proofs
open Go.Sort Go.Shelf Go.RowKit Go.Lib
theorem z8q (l:List R4):(Yn l == 0)= !(Yn l != 0):=by cases h:(Yn l == 0) <;> simp [bne,h]
def slS (q:Op) (a b:List R6) (x:Int):List R4:=rgJ q.k (Zm (D6.inn a x)) (Zm (D6.inn b x))
def slA (q:Op) (a b:List R6) (x:Int):Int:=bif Yn (D6.inn a x) != 0 then Yn (D6.inn a x) else bif Yn (D6.inn b x) != 0 then Yn (D6.inn b x) else rgE q (Zm (D6.inn a x)) (Zm (D6.inn b x))
theorem w0g {q:Op} {a b:List R4} (h:rgE q a b=0):y0a a=0∧y0a b=0∧(rgJ q.k a b).length ≤400:=by
 unfold rgE at h;cases g1:(y0a a != 0) with
 | true=>rw [g1,cond_true] at h;rw [h] at g1;cases g1
 | false=>
  cases g2:(y0a b != 0) with
  | true=>rw [g1,g2,cond_false,cond_true] at h;rw [h] at g2;cases g2
  | false=>
   rw [g1,g2,cond_false,cond_false] at h;unfold eJ at h;refine ⟨by simpa using g1,by simpa using g2,?_⟩;revert h;generalize y4q (rgA q a b) _ _ _=e;intro h;cases g3:(e != 0) with
   | true=>rw [g3,cond_true] at h;rw [h] at g3;cases g3
   | false=>rw [g3,cond_false] at h;exact x1d h
theorem y9p {q:Op} {a b:List R6} {x:Int} (h:slA q a b x=0):Yn (D6.inn a x)=0∧Yn (D6.inn b x)=0∧rgE q (Zm (D6.inn a x)) (Zm (D6.inn b x))=0:=by
 unfold slA at h;cases g1:(Yn (D6.inn a x) != 0) with
 | true=>rw [g1,cond_true] at h;rw [h] at g1;cases g1
 | false=>
  cases g2:(Yn (D6.inn b x) != 0) with
  | true=>rw [g1,g2,cond_false,cond_true] at h;rw [h] at g2;cases g2
  | false=>rw [g1,g2,cond_false,cond_false] at h;exact ⟨by simpa using g1,by simpa using g2,h⟩
theorem u6a (q:Op) (a b:List R6) (x:Int) (h:(slA q a b x != 0)=false):(slS q a b x).length ≤1000:=
 Nat.le_trans (w0g (y9p (by simpa using h)).2.2).2.2 (by omega)
section
variable (q:Op) (a b:List R6) (ha:a.length≤400) (hb:b.length≤400)
include ha hb
theorem u0i (i:Nat) (out:List R6) (last:List R4) (first fin x x':Int): ∀(k j:Nat) (acc:List R4),j+k=a.length→acc.length≤j→
  ∃n,∀N,Yj (Yi q a b) (N+n) (.to (.h3 (i:Int) (j:Int) out last first fin ((D6.cuts (a++b)).length) (Xx (Yh (D6.ends (a++b)))) x x' acc))=Yj (Yi q a b) N (.to (.h4 (i:Int) 0 out last first fin ((D6.cuts (a++b)).length) (Xx (Yh (D6.ends (a++b)))) x x' (acc++D6.inn (a.drop j) x) []))
 | 0,j,acc,h,h'=>by have _u:=ha;have _v:=hb;refine ⟨1,fun N=> ?_⟩;rw [List.drop_eq_nil_of_le (by omega),show D6.inn ([]:List R6) x=[] from rfl,List.append_nil,Zw];simp (disch:=omega) only [Yi,Zo,cond_false]
 | k+1,j,acc,h,h'=>by
  have hj:j<a.length:=by omega
  obtain ⟨n,hn⟩:=u0i i out last first fin x x' k (j+1) (acc++D6.inn [rd a j] x) (by omega) (by have:=D6.inn_length [rd a j] x;simp only [List.length_append,List.length_singleton] at*;omega)
  refine ⟨n+1,fun N=> ?_⟩;have e:D6.inn (a.drop j) x=D6.inn [rd a j] x++D6.inn (a.drop (j+1)) x:=by rw [Yc hj,←D6.inn_append];rfl
  rw [e,←Nat.add_assoc,Zw,←List.append_assoc,←hn N];by_cases h1:D6.lo (rd a j)≤x
  ·by_cases h2:x<D6.hi (rd a j)
   ·rw [D6.inn_t _ _ h1 h2];simp only [D6] at h1 h2 ⊢;simp (disch:=omega) only [Yi,Xc,Zp,Zk,Zd,Ze,Yz,Zs,Yx,Zc,Zu,Zx,Yu,Zj,Nat.zero_add,decide_true,Bool.and_true,Bool.true_and,cond_true,cond_false]
   ·rw [D6.inn_f2 _ _ h2,List.append_nil];simp only [D6] at h1 h2;simp (disch:=omega) only [Yi,Xc,Zo,Zp,Zk,Zd,Ze,Yz,Zs,Yx,Zc,Zu,Zx,Yu,Zj,Nat.zero_add,decide_true,Bool.and_true,Bool.true_and,cond_true,cond_false]
  ·rw [D6.inn_f1 _ _ h1,List.append_nil];simp only [D6] at h1;simp (disch:=omega) only [Yi,x8i,Zp,Zk,Zd,Ze,Yz,Zs,Yx,Zc,Zu,Zx,Yu,Zj,Nat.zero_add,decide_true,Bool.and_true,Bool.true_and,cond_true,cond_false]
theorem u0h (i:Nat) (out:List R6) (last:List R4) (first fin x x':Int) (o1:List R4): ∀(k j:Nat) (acc:List R4),j+k=b.length→acc.length≤j→
  ∃n,∀N,Yj (Yi q a b) (N+n) (.to (.h4 (i:Int) (j:Int) out last first fin ((D6.cuts (a++b)).length) (Xx (Yh (D6.ends (a++b)))) x x' o1 acc))=Yj (Yi q a b) N (.to (.h4 (i:Int) (b.length:Int) out last first fin ((D6.cuts (a++b)).length) (Xx (Yh (D6.ends (a++b)))) x x' o1 (acc++D6.inn (b.drop j) x)))
 | 0,j,acc,h,h'=>by have _u:=ha;have _v:=hb;refine ⟨0,fun N=> ?_⟩;rw [List.drop_eq_nil_of_le (by omega),show D6.inn ([]:List R6) x=[] from rfl,List.append_nil,Nat.add_zero,show j=b.length by omega]
 | k+1,j,acc,h,h'=>by
  have hj:j<b.length:=by omega
  obtain ⟨n,hn⟩:=u0h i out last first fin x x' o1 k (j+1) (acc++D6.inn [rd b j] x) (by omega) (by have:=D6.inn_length [rd b j] x;simp only [List.length_append,List.length_singleton] at*;omega)
  refine ⟨n+1,fun N=> ?_⟩;have e:D6.inn (b.drop j) x=D6.inn [rd b j] x++D6.inn (b.drop (j+1)) x:=by rw [Yc hj,←D6.inn_append];rfl
  rw [e,←Nat.add_assoc,Zw,←List.append_assoc,←hn N];by_cases h1:D6.lo (rd b j)≤x
  ·by_cases h2:x<D6.hi (rd b j)
   ·rw [D6.inn_t _ _ h1 h2];simp only [D6] at h1 h2 ⊢;simp (disch:=omega) only [Yi,Xc,Zp,Zk,Zd,Ze,Yz,Zs,Yx,Zc,Zu,Zx,Yu,Zj,Nat.zero_add,decide_true,Bool.and_true,Bool.true_and,cond_true,cond_false]
   ·rw [D6.inn_f2 _ _ h2,List.append_nil];simp only [D6] at h1 h2;simp (disch:=omega) only [Yi,Xc,Zo,Zp,Zk,Zd,Ze,Yz,Zs,Yx,Zc,Zu,Zx,Yu,Zj,Nat.zero_add,decide_true,Bool.and_true,Bool.true_and,cond_true,cond_false]
  ·rw [D6.inn_f1 _ _ h1,List.append_nil];simp only [D6] at h1;simp (disch:=omega) only [Yi,x8i,Zp,Zk,Zd,Ze,Yz,Zs,Yx,Zc,Zu,Zx,Yu,Zj,Nat.zero_add,decide_true,Bool.and_true,Bool.true_and,cond_true,cond_false]
theorem u0g (i:Nat) (hi:i≤2000) (x x':Int) (s:List R4) (first:Int) (o1 o2:List R4) (hs:s.length≤1000): ∀(k j:Nat) (out:List R6),j+k=s.length→out.length≤10000000+j→
  ∃n,∀N,Yj (Yi q a b) (N+n) (.to (.h5 x x' s (s.length:Int) (j:Int) (i:Int) out first ((D6.cuts (a++b)).length) (Xx (Yh (D6.ends (a++b)))) o1 o2))=Yj (Yi q a b) N (.to (.h2 ((i+1:Nat):Int) (out++(s.drop j).map (D6.put x x')) s first x' ((D6.cuts (a++b)).length) (Xx (Yh (D6.ends (a++b))))))
 | 0,j,out,h,ho=>by have _u:=ha;have _v:=hb;refine ⟨1,fun N=> ?_⟩;rw [List.drop_eq_nil_of_le (by omega),Zw];simp (disch:=omega) only [Yi,Zo,Zu,Zx,cond_false,List.map_nil,List.append_nil]
 | k+1,j,out,h,ho=>by
  obtain ⟨n,hn⟩:=u0g i hi x x' s first o1 o2 hs k (j+1) (out++[D6.put x x' (rd s j)]) (by omega) (by simp;omega)
  refine ⟨n+1,fun N=> ?_⟩;have:=hn N;rw [Yc (show j<s.length by omega),List.map_cons,←Nat.add_assoc,Zw];simp (disch:=omega) only [Yi,Zp,Zk,Zd,Ze,Yz,Zs,Yx,Zc,Zu,Zx,Yu,Zj,Nat.zero_add,decide_true,Bool.and_true,Bool.true_and,cond_true,cond_false];rw [List.append_assoc] at this;exact this
theorem u0f (i:Nat) (hi:i≤2000) (x x' fin:Int) (s last:List R4) (first:Int) (o1 o2:List R4): ∀(k j:Nat) (out:List R6),j+k=out.length→out.length≤10000000→
  ∃n,∀N,Yj (Yi q a b) (N+n) (.to (.h6 x' (j:Int) x s (i:Int) out last first fin ((D6.cuts (a++b)).length) (Xx (Yh (D6.ends (a++b)))) o1 o2))=Yj (Yi q a b) N (.to (.h2 ((i+1:Nat):Int) (D6.grow out j x') last first x' ((D6.cuts (a++b)).length) (Xx (Yh (D6.ends (a++b))))))
 | 0,j,out,h,ho=>by have _u:=ha;have _v:=hb;refine ⟨1,fun N=> ?_⟩;rw [D6.grow_nil _ _ _ (by omega),Zw];simp (disch:=omega) only [Yi,Zo,Zu,Zx,cond_false]
 | k+1,j,out,h,ho=>by
  obtain ⟨n,hn⟩:=u0f i hi x x' fin s last first o1 o2 k (j+1) (out.set j (D6.ext x' (rd out j))) (by simp;omega) (by simpa using ho)
  refine ⟨n+1,fun N=> ?_⟩;have:=hn N;rw [D6.grow_set out j _ (by omega)] at this;rw [←Nat.add_assoc,Zw];simp (disch:=omega) only [Yi,Zp,Zk,Zd,Ze,Yz,Zs,Yx,Zc,Zu,Zx,Yu,Zj,Nat.zero_add,decide_true,Bool.and_true,Bool.true_and,cond_true,cond_false];exact this
theorem w6w : ∀(k i:Nat) (s:Sw R6 R4),k=(D6.cuts (a++b)).length - 1 - i→i≤(D6.cuts (a++b)).length →s.out.length≤i*1000→s.last.length≤1000→s.first≤s.out.length→
  ∃n,Yj (Yi q a b) n (.to (.h2 ((i+1:Nat):Int) s.out s.last (s.first:Int) s.fin ((D6.cuts (a++b)).length) (Xx (Yh (D6.ends (a++b))))))=.ret (y5v (eJ (y4q (slA q a b) (D6.cuts (a++b)) k i) (D6.goS (slS q a b) (D6.cuts (a++b)) k i s).out.length) (D6.goS (slS q a b) (D6.cuts (a++b)) k i s).out)
 | 0,i,s,h,hi,ho,hla,hf=>by
  have _u:=ha;have _v:=hb;have hc:=D6.cuts_length (a++b);refine ⟨1,?_⟩;rw [Zw,show D6.goS (slS q a b) (D6.cuts (a++b)) 0 i s=s from rfl,show y4q (slA q a b) (D6.cuts (a++b)) 0 i=0 from rfl,w0h];unfold Jf;by_cases g:(s.out.length:Int)>400
  ·simp (disch:=omega) only [Yi,Zo,Ye,cond_true,cond_false,Zg]
  ·simp (disch:=omega) only [Yi,Zo,Ys,cond_true,cond_false,Zg]
 | k +1,i,s,h,hi,ho,hla,hf=>by
  have hc:=D6.cuts_length (a++b);rw [List.length_append] at hc;have hi1:i+1<(D6.cuts (a++b)).length :=by omega
  have hpl:(Xx (Yh (D6.ends (a++b)))).length =2*(a.length+b.length):=by rw [Wa,Wz,D6.ends_length,List.length_append]
  have r0:rd (Xx (Yh (D6.ends (a++b)))) i=rd (D6.cuts (a++b)) i:=Uo _ _ (by show i<(D6.cuts (a++b)).length;omega);have r1:rd (Xx (Yh (D6.ends (a++b)))) (i+1)=rd (D6.cuts (a++b)) (i+1):=Uo _ _ (by show i+1<(D6.cuts (a++b)).length;omega);have hbig:i*1000≤2000*1000:=Nat.mul_le_mul_right _ (by omega);have hgo:D6.goS (slS q a b) (D6.cuts (a++b)) (k+1) i s=D6.goS (slS q a b) (D6.cuts (a++b)) k (i+1) (D6.oneS (slS q a b (rd (D6.cuts (a++b)) i)) (rd (D6.cuts (a++b)) i) (rd (D6.cuts (a++b)) (i+1)) s):=rfl;have hfe: ∀x,x=rd (D6.cuts (a++b)) i→(slA q a b x != 0)=false→y4q (slA q a b) (D6.cuts (a++b)) (k+1) i=y4q (slA q a b) (D6.cuts (a++b)) k (i+1):=fun x hx z=>by show (bif slA q a b (rd (D6.cuts (a++b)) i) != 0 then _ else _)=_;rw [←hx,z];rfl
  revert hgo hfe r0;generalize hx:rd (D6.cuts (a++b)) i=x;generalize hx':rd (D6.cuts (a++b)) (i+1)=x' at r1;intro r0 hgo hfe;obtain ⟨n3,h3⟩:=u0i q a b ha hb (i+1) s.out s.last (s.first:Int) s.fin x x' a.length 0 [] (Nat.zero_add _) (Nat.le_refl _);simp only [List.drop_zero,List.nil_append,Qv] at h3;obtain ⟨n4,h4⟩:=u0h q a b ha hb (i+1) s.out s.last (s.first:Int) s.fin x x' (D6.inn a x) b.length 0 [] (Nat.zero_add _) (Nat.le_refl _);simp only [List.drop_zero,List.nil_append,Qv] at h4;have st0: ∀N,Yj (Yi q a b) (N+n4+n3+1) (.to (.h2 ((i+1:Nat):Int) s.out s.last (s.first:Int) s.fin ((D6.cuts (a++b)).length) (Xx (Yh (D6.ends (a++b))))))=Yj (Yi q a b) N (.to (.h4 ((i+1:Nat):Int) (b.length:Int) s.out s.last (s.first:Int) s.fin ((D6.cuts (a++b)).length) (Xx (Yh (D6.ends (a++b)))) x x' (D6.inn a x) (D6.inn b x))):=fun N=>by
   rw [←h4 N,←h3 (N+n4),Zw];have e1:IntKind.wrap .i64 (((i+1:Nat):Int) - 1)=(i:Int):=by rw [Zh];exact Zu (by omega)
   simp (disch:=omega) only [Yi,e1,r0,r1,Zp,Zk,Zd,Ze,Yz,Zs,Yx,Zc,Zu,Zx,Yu,Zj,Nat.zero_add,decide_true,Bool.and_true,Bool.true_and,cond_true,cond_false]
  have w1:Jz (D6.inn a x)=true:=rfl;have w3:Jz (D6.inn b x)=true:=rfl;have w4:y1v q (Zm (D6.inn a x)) (Zm (D6.inn b x))=true:=rfl;rcases Yv (slA q a b x != 0) with z | z
  ·refine ⟨1+n4+n3+1,?_⟩;rw [st0 1,Zw];have e:y4q (slA q a b) (D6.cuts (a++b)) (k+1) i=slA q a b x:=by show (bif slA q a b (rd (D6.cuts (a++b)) i) != 0 then slA q a b (rd (D6.cuts (a++b)) i) else _)=_;rw [hx,z];rfl
   rw [e,show eJ (slA q a b x) _=slA q a b x by unfold eJ;rw [z];rfl,Ki _ z];unfold slA at z ⊢;rcases Yv (Yn (D6.inn a x) != 0) with y1 | y1
   ·simp (disch:=omega) only [Yi,Zo,z8q,y1,Bool.not_true,w1,w3,w4,Zp,Zk,Zd,Ze,Yz,Zs,Yx,Zc,Zu,Zx,Yu,Zj,Nat.zero_add,decide_true,Bool.and_true,Bool.true_and,cond_true,cond_false,Zg]
   ·rcases Yv (Yn (D6.inn b x) != 0) with y2 | y2
    ·simp (disch:=omega) only [Yi,Zo,z8q,y1,y2,Bool.not_true,Bool.not_false,w1,w3,w4,Zp,Zk,Zd,Ze,Yz,Zs,Yx,Zc,Zu,Zx,Yu,Zj,Nat.zero_add,decide_true,Bool.and_true,Bool.true_and,cond_true,cond_false,Zg]
    ·rw [y1,y2,cond_false,cond_false] at z;have z':(w3k q (Zm (D6.inn a x)) (Zm (D6.inn b x)) != 0)=true:=z;simp (disch:=omega) only [Yi,Zo,z8q,y1,y2,z',Bool.not_false,w1,w3,w4,Zp,Zk,Zd,Ze,Yz,Zs,Yx,Zc,Zu,Zx,Yu,Zj,Nat.zero_add,decide_true,Bool.and_true,Bool.true_and,cond_true,cond_false,Zg];rfl
  obtain ⟨y1,y2,y3⟩:=y9p (show slA q a b x=0 by simpa using z);have y1:(Yn (D6.inn a x) == 0)=true:=by rw [y1];rfl
  have y2:(Yn (D6.inn b x) == 0)=true:=by rw [y2];rfl
  have z':(w3k q (Zm (D6.inn a x)) (Zm (D6.inn b x)) != 0)=false:=by show (rgE q _ _ != 0)=false;rw [y3];rfl
  have v:z3q q (Zm (D6.inn a x)) (Zm (D6.inn b x))=slS q a b x:=x3t _ z';have hsl:=u6a q a b x z;have w2:Xg s.last (slS q a b x)=true:=decide_eq_true (by omega);rw [hgo,hfe x rfl z];have ol:(D6.oneS (slS q a b x) x x' s).out.length ≤s.out.length+(slS q a b x).length :=by
   unfold Dim.oneS;cases decide (0<(slS q a b x).length)&&((s.fin == x)&&D6.same s.last (slS q a b x))
   ·simp
   ·simp [Dim.grow_length]
  rcases Yv (decide (0<(slS q a b x).length)&&((s.fin == x)&&D6.same s.last (slS q a b x))) with g | g
  ·obtain ⟨n6,h6⟩:=u0f q a b ha hb (i+1) (by omega) x x' s.fin (slS q a b x) s.last (s.first:Int) (D6.inn a x) (D6.inn b x) (s.out.length - s.first) s.first s.out (by omega) (by omega)
   have e:D6.oneS (slS q a b x) x x' s=⟨D6.grow s.out s.first x',s.last,s.first,x'⟩:=by unfold Dim.oneS;rw [g];rfl
   obtain ⟨n0,h0⟩:=w6w k (i+1) (D6.oneS (slS q a b x) x x' s) (by omega) (by omega) (by omega) (by rw [e];exact hla) (by rw [e];simpa [Dim.grow_length] using hf);refine ⟨n0+n6+1+n4+n3+1,?_⟩;rw [st0 (n0+n6+1),Zw];simp only [Bool.and_eq_true,decide_eq_true_eq] at g;obtain ⟨g1,g2,g3⟩:=g;have g3':Vw s.last (slS q a b x)=true:=g3;simp (disch:=omega) only [Yi,Zo,Ye,y1,y2,z',v,g2,g3',w1,w3,w4,w2,Zp,Zk,Zd,Ze,Yz,Zs,Yx,Zc,Zu,Zx,Yu,Zj,Nat.zero_add,decide_true,Bool.and_true,Bool.true_and,cond_true,cond_false];rw [h6 n0];rw [e] at h0 ⊢;exact h0
  ·obtain ⟨n5,h5⟩:=u0g q a b ha hb (i+1) (by omega) x x' (slS q a b x) (s.out.length:Int) (D6.inn a x) (D6.inn b x) hsl (slS q a b x).length 0 s.out (Nat.zero_add _) (by omega);simp only [List.drop_zero,Qv] at h5;have e:D6.oneS (slS q a b x) x x' s=⟨s.out++(slS q a b x).map (D6.put x x'),slS q a b x,s.out.length,x'⟩:=by unfold Dim.oneS;rw [g];rfl
   obtain ⟨n0,h0⟩:=w6w k (i+1) (D6.oneS (slS q a b x) x x' s) (by omega) (by omega) (by omega) (by rw [e];exact hsl) (by rw [e];simp);have hg:Yj (Yi q a b) 1 (.to (.h4 ((i+1:Nat):Int) (b.length:Int) s.out s.last (s.first:Int) s.fin ((D6.cuts (a++b)).length) (Xx (Yh (D6.ends (a++b)))) x x' (D6.inn a x) (D6.inn b x)))=.to (.h5 x x' (slS q a b x) ((slS q a b x).length :Int) 0 ((i+1:Nat):Int) s.out (s.out.length:Int) ((D6.cuts (a++b)).length) (Xx (Yh (D6.ends (a++b)))) (D6.inn a x) (D6.inn b x)):=by
    rw [show (1:Nat)=0+1 from rfl,Zw];have e3:D6.same s.last (slS q a b x)=Vw s.last (slS q a b x):=rfl;rw [e3] at g;by_cases g1:0<(slS q a b x).length
    ·rw [decide_eq_true g1,Bool.true_and] at g;rcases Yv (s.fin == x) with g2 | g2
     ·rw [g2,Bool.true_and] at g;simp (disch:=omega) only [Yi,Zo,Ye,y1,y2,z',v,g2,g,w1,w3,w4,w2,Zp,Zk,Zd,Ze,Yz,Zs,Yx,Zc,Zu,Zx,Yu,Zj,Nat.zero_add,decide_true,Bool.and_true,Bool.true_and,cond_true,cond_false];rfl
     ·simp (disch:=omega) only [Yi,Zo,Ye,y1,y2,z',v,g2,w1,w3,w4,w2,Zp,Zk,Zd,Ze,Yz,Zs,Yx,Zc,Zu,Zx,Yu,Zj,Nat.zero_add,decide_true,Bool.and_true,Bool.true_and,cond_true,cond_false];rfl
    ·simp (disch:=omega) only [Yi,Zo,Ys,y1,y2,z',v,w1,w3,w4,w2,Zp,Zk,Zd,Ze,Yz,Zs,Yx,Zc,Zu,Zx,Yu,Zj,Nat.zero_add,decide_true,Bool.and_true,Bool.true_and,cond_true,cond_false];rfl
   refine ⟨n0+n5+1+n4+n3+1,?_⟩;rw [st0 (n0+n5+1),z3z _ (n0+n5) 1,hg,h5 n0];rw [e] at h0 ⊢;exact h0
theorem u0j : ∀(k i:Nat) (acc:List Int),i+k=b.length→acc=D6.ends (a++b.take i)→ ∃n,Yj (Yi q a b) n (.to (.h1 (i:Int) acc))=.ret (y5v (eJ (y4q (slA q a b) (D6.cuts (a++b)) ((D6.cuts (a++b)).length - 1) 0) (D6.goS (slS q a b) (D6.cuts (a++b)) ((D6.cuts (a++b)).length - 1) 0 ⟨[],[],0,0⟩).out.length) (D6.goS (slS q a b) (D6.cuts (a++b)) ((D6.cuts (a++b)).length - 1) 0 ⟨[],[],0,0⟩).out)
 | 0,i,acc,h,h'=>by
  have _u:=ha;have _v:=hb;have e:acc=D6.ends (a++b):=by rw [h',List.take_of_length_le (by omega)]
  subst e;have hle:=D6.ends_length (a++b);rw [List.length_append] at hle;obtain ⟨n,hn⟩:=w6w q a b ha hb ((D6.cuts (a++b)).length - 1) 0 ⟨[],[],0,0⟩ (by omega) (Nat.zero_le _) (Nat.zero_le _) (Nat.zero_le _) (Nat.zero_le _);refine ⟨n+1,?_⟩;rw [Zw];simp (disch:=omega) only [Yi,Vi,Jc,z4d,Zo,Zs,Yx,decide_true,cond_true,cond_false];exact hn
 | k+1,i,acc,h,h'=>by
  have hle:acc.length≤2*(400+i):=by rw [h',D6.ends_length];simp only [List.length_append,List.length_take];omega
  obtain ⟨n,hn⟩:=u0j k (i+1) (acc++D6.ends [rd b i]) (by omega) (by
   rw [h',List.take_add_one];have:b[i]? =some (rd b i):=by rw [Yt (show i<b.length by omega)];exact List.getElem?_eq_getElem _
   rw [this];simp [Dim.ends])
  refine ⟨n+1,?_⟩;rw [Zw];simp (disch:=omega) only [Yi,Zp,Zk,Zd,Ze,Yz,Zs,Yx,Zc,Zu,Zx,Yu,Zj,Nat.zero_add,decide_true,Bool.and_true,Bool.true_and,cond_true,cond_false];exact hn
theorem u0k : ∀(k i:Nat) (acc:List Int),i+k=a.length→acc=D6.ends (a.take i)→ ∃n,Yj (Yi q a b) n (.to (.h0 (i:Int) acc))=.ret (y5v (eJ (y4q (slA q a b) (D6.cuts (a++b)) ((D6.cuts (a++b)).length - 1) 0) (D6.goS (slS q a b) (D6.cuts (a++b)) ((D6.cuts (a++b)).length - 1) 0 ⟨[],[],0,0⟩).out.length) (D6.goS (slS q a b) (D6.cuts (a++b)) ((D6.cuts (a++b)).length - 1) 0 ⟨[],[],0,0⟩).out)
 | 0,i,acc,h,h'=>by have _u:=ha;have _v:=hb;obtain ⟨n,hn⟩:=u0j q a b ha hb b.length 0 acc (Nat.zero_add _) (by rw [h',List.take_of_length_le (by omega),List.take_zero,List.append_nil]);refine ⟨n+1,?_⟩;rw [Zw];simp (disch:=omega) only [Yi,Zo,cond_false];exact hn
 | k+1,i,acc,h,h'=>by
  have hle:acc.length≤2*(400+i):=by rw [h',D6.ends_length];simp only [List.length_append,List.length_take];omega
  obtain ⟨n,hn⟩:=u0k k (i+1) (acc++D6.ends [rd a i]) (by omega) (by
   rw [h',List.take_add_one];have:a[i]? =some (rd a i):=by rw [Yt (show i<a.length by omega)];exact List.getElem?_eq_getElem _
   rw [this];simp [Dim.ends])
  refine ⟨n+1,?_⟩;rw [Zw];simp (disch:=omega) only [Yi,Zp,Zk,Zd,Ze,Yz,Zs,Yx,Zc,Zu,Zx,Yu,Zj,Nat.zero_add,decide_true,Bool.and_true,Bool.true_and,cond_true,cond_false];exact hn
end
def slJ (q:Op) (a b:List R6):List R6:=(D6.goS (slS q a b) (D6.cuts (a++b)) ((D6.cuts (a++b)).length - 1) 0 ⟨[],[],0,0⟩).out
def slE (q:Op) (a b:List R6):Int:=bif Zf a != 0 then Zf a else bif Zf b != 0 then Zf b else eJ (y4q (slA q a b) (D6.cuts (a++b)) ((D6.cuts (a++b)).length - 1) 0) (slJ q a b).length
def w2t (q:Op) (a b:List R6):List R6:=x4v (slE q a b) (slJ q a b)
def v4c (q:Op) (a b:List R6):Int:=slE q a b
def z6p (q:Op) (a b:List R6):Bool:=true
theorem y7e {l:List R6} (h:(Zf l != 0)=false):l.length≤400:=by
 refine Classical.byContradiction fun g=> ?_;have h:Zf l=0:=by simpa using h
 unfold Zf at h;rw [decide_eq_true (by omega)] at h;cases h
theorem sl_run (q:Op) (a b:List R6) (h:z6p q a b=true): ∃n,Yj (Yi q a b) n (y1l q a b)=.ret (y5v (slE q a b) (slJ q a b)):=by
 unfold y1l;have o: ∀l,Wg l=true:=fun _=>rfl;simp only [Zp,o,cond_true];rcases Yv (Zf a != 0) with q1 | q1
 ·exact ⟨0,by simp only [slE,q1,cond_true,Ki _ q1];rfl⟩
 rcases Yv (Zf b != 0) with q2 | q2
 ·exact ⟨0,by simp only [slE,q1,q2,cond_true,cond_false,Ki _ q2];rfl⟩
 obtain ⟨n,hn⟩:=u0k q a b (y7e q1) (y7e q2) a.length 0 [] (Nat.zero_add _) rfl;refine ⟨n,?_⟩;simp only [slE,q1,q2,cond_false];exact hn
def fSl (q:Op):List AVal→Option (AVal×Bool)
 | [a0,a1]=>match asL R6 a0,asL R6 a1 with
  | some (L0,g0,n0),some (L1,g1,n1)=>some (.tup [.dat (w2t q L0 L1).length (Zz (w2t q L0 L1)),.int .i64 (v4c q L0 L1)],isT R6 n0 g0&&(isT R6 n1 g1&&(z6p q L0 L1)))
  | _,_=>none
 | _=>none
theorem fSl_ok (q:Op) {S:Specs} (hS:Zq prog S):Zq prog (S.with (nSl q) (fSl q)):=by
 refine v1i hS (by cases q <;> kernel_rfl) fun args v h=> ?_;unfold fSl at h;split at h
 ·rename_i a0 a1;split at h
  ·rename_i L0 g0 n0 L1 g1 n1 e0 e1;simp only [Option.some.injEq,Prod.mk.injEq,Bool.and_eq_true] at h;obtain ⟨rfl,ho0,ho1,hw⟩:=h;obtain ⟨N,hN⟩:=sl_run q L0 L1 hw;exact ⟨_,_,(.cons (asL_le e0 ho0) (.cons (asL_le e1 ho1) .nil)),z4q _ _,v3v q L0 L1 N _ hN,3,z8u _ _⟩
  ·cases h
 ·cases h
end Go.Am
namespace Go.Am
open Go.Proofs.Tryz
open Go.Proofs Go.Sort Go.Shelf Go.RowKit Go.Lib
def Dw :Specs:=Dk.with (nSl .d) (fSl .d)
theorem Kq :Zq prog Dw:=fSl_ok .d Dk_ok
end Go.Am
namespace Go.Am
open Go.Proofs.Tryz
open Go.Proofs
inductive dbwS where
abbrev Vp (l0:List R6) (x1:Int):=(Zz (Zr (cvT l0) x1))
abbrev z0w (l0:List R6) (x2:Int):=(Wn (cvT l0) (Vq (cvT l0) x2))
abbrev Ky (l0:List R6) (x1:Int):=(Zz (Xh (cvT l0) x1))
def dbwC (l0:List R6) (x1:Int) (x2:Int):dbwS→Cfg
 :=nofun
def x8l (l0:List R6) (x1:Int) (x2:Int):dbwS→Xe dbwS
 :=nofun
def y2m (l0:List R6) (x1:Int) (x2:Int):Xe dbwS:=(bif (z7s (cvT l0)) then (bif (!(x0u (cvT l0))) then (.ret [(.bool true)]) else (bif (decide (x1<1)) then (.ret [(.bool true)]) else (bif (decide (x1>40)) then (.ret [(.bool true)]) else (bif (decide (x2<0)) then (.ret [(.bool true)]) else (bif (decide (x2>40)) then (.ret [(.bool true)]) else (bif (Qs (cvT l0) x1) then (bif (z3x (cvT l0) x1) then (bif ((Vg (cvT l0) x1) != 0) then (bif ((Vg (cvT l0) x1) == 4) then (bif ((Ud (cvT l0) x1) == 0) then (.ret [(.bool true)]) else (.ret [(.bool ((Ud (cvT l0) x1) == 4))])) else (.ret [(.bool false)])) else (bif ((Ud (cvT l0) x1) != 0) then (.ret [(.bool ((Ud (cvT l0) x1) == 4))]) else (bif ((z6p Op.d) (cvT (Xh (cvT l0) x1)) (cvT l0)) then (bif ((z6p Op.d) (cvT l0) (cvT (Zr (cvT l0) x1))) then (bif (((v4c Op.d) (cvT (Xh (cvT l0) x1)) (cvT l0)) != 0) then (.ret [(.bool false)]) else (bif (decide (((((w2t Op.d) (cvT (Xh (cvT l0) x1)) (cvT l0)).length :Nat):Int)>0)) then (.ret [(.bool false)]) else (bif (((v4c Op.d) (cvT l0) (cvT (Zr (cvT l0) x1))) != 0) then (.ret [(.bool false)]) else (bif (decide (((((w2t Op.d) (cvT l0) (cvT (Zr (cvT l0) x1))).length :Nat):Int)>0)) then (.ret [(.bool false)]) else (bif ((l0.length:Int) == 0) then (.ret [(.bool ((((Zr (cvT l0) x1).length :Nat):Int) == 0))]) else (bif (decide ((((Zr (cvT l0) x1).length :Nat):Int)≤40)) then (bif (Jx (cvT l0) (cvT (Zr (cvT l0) x1))) then (bif ((Kz (cvT l0) (cvT (Zr (cvT l0) x1))) != 0) then (.ret [(.bool false)]) else (bif (decide ((Je (cvT l0) (cvT (Zr (cvT l0) x1)))>(IntKind.wrap .i64 (x1 - 1)))) then (.ret [(.bool false)]) else (bif (z3v (cvT l0) x2) then (bif ((z7n (cvT l0) x2) != 0) then (.ret [(.bool false)]) else (bif (decide ((Vq (cvT l0) x2)<0)) then (.ret [(.bool false)]) else (bif (decide ((Vq (cvT l0) x2)>9)) then (.ret [(.bool false)]) else (bif (z1i (cvT l0) (Vq (cvT l0) x2)) then (bif (Jx (cvT (Wn (cvT l0) (Vq (cvT l0) x2))) (cvT l0)) then (bif ((z0p (cvT l0) (Vq (cvT l0) x2)) == 0) then (bif ((Kz (cvT (Wn (cvT l0) (Vq (cvT l0) x2))) (cvT l0)) == 0) then (.ret [(.bool (decide ((Je (cvT (Wn (cvT l0) (Vq (cvT l0) x2))) (cvT l0))≤x2)))]) else (.ret [(.bool false)])) else (.ret [(.bool false)])) else .stuck) else .stuck)))) else .stuck))) else .stuck) else (bif (z3v (cvT l0) x2) then (bif ((z7n (cvT l0) x2) != 0) then (.ret [(.bool false)]) else (bif (decide ((Vq (cvT l0) x2)<0)) then (.ret [(.bool false)]) else (bif (decide ((Vq (cvT l0) x2)>9)) then (.ret [(.bool false)]) else (bif (z1i (cvT l0) (Vq (cvT l0) x2)) then (bif (Jx (cvT (Wn (cvT l0) (Vq (cvT l0) x2))) (cvT l0)) then (bif ((z0p (cvT l0) (Vq (cvT l0) x2)) == 0) then (bif ((Kz (cvT (Wn (cvT l0) (Vq (cvT l0) x2))) (cvT l0)) == 0) then (.ret [(.bool (decide ((Je (cvT (Wn (cvT l0) (Vq (cvT l0) x2))) (cvT l0))≤x2)))]) else (.ret [(.bool false)])) else (.ret [(.bool false)])) else .stuck) else .stuck)))) else .stuck))))))) else .stuck) else .stuck))) else .stuck) else .stuck)))))) else .stuck)
theorem w4x (l0:List R6) (x1:Int) (x2:Int): ∀s,Xr prog (Zy prog 14) (dbwC l0 x1 x2) (dbwC l0 x1 x2 s) (x8l l0 x1 x2 s)
 :=nofun
theorem x8m (l0:List R6) (x1:Int) (x2:Int):Xr prog (Zy prog 14) (dbwC l0 x1 x2) (Zi prog 14 [(.dat l0.length (Zz l0)),(.int .i64 x1),(.int .i64 x2)] true []) (y2m l0 x1 x2):=(lo fun bO=>(lb (fun k0=>(lr 180 14 [1,1,0,1,0,0] 1 4 [(6,(.bool true))] (sl Kq 42 [] ⟨[],[],[some [6]],[]⟩ ⟨[],[],[]⟩ (trs 11 []) (tt k0 (pp (pp (xr l0) (xw bO)) nn))))) (fun k0=>(lb (fun k1=>(lr 180 14 [1,1,0,1,0,0] 1 4 [(6,(.bool true))] (sl Kq 42 [] ⟨[],[],[some [6]],[]⟩ ⟨[],[],[]⟩ [false,false,true,true,true,true,true,true,true,true,true] (tt k1 (tt k0 (pp (pp (xr l0) (xw bO)) nn)))))) (fun k1=>(lb (fun k2=>(lr 180 14 [1,1,0,1,0,0] 1 4 [(6,(.bool true))] (sl Kq 42 [] ⟨[],[],[some [6]],[]⟩ ⟨[],[],[]⟩ [false,false,false,false,true,true,true,true,true,true,true] (tt k2 (tt k1 (tt k0 (pp (pp (xr l0) (xw bO)) nn))))))) (fun k2=>(lb (fun k3=>(lr 180 14 [1,1,0,1,0,0] 1 4 [(6,(.bool true))] (sl Kq 42 [] ⟨[],[],[some [6]],[]⟩ ⟨[],[],[]⟩ [false,false,false,false,false,false,true,true,true,true,true] (tt k3 (tt k2 (tt k1 (tt k0 (pp (pp (xr l0) (xw bO)) nn)))))))) (fun k3=>(lb (fun k4=>(lr 180 14 [1,1,0,1,0,0] 1 4 [(6,(.bool true))] (sl Kq 42 [] ⟨[],[],[some [6]],[]⟩ ⟨[],[],[]⟩ [false,false,false,false,false,false,false,false,true,true,true] (tt k4 (tt k3 (tt k2 (tt k1 (tt k0 (pp (pp (xr l0) (xw bO)) nn))))))))) (fun k4=>(lo fun cL=>(lo fun cZ=>(lb (fun k5=>(lb (fun k6=>(lb (fun k7=>(lr 180 14 [1,1,1,1,1,0,1,0,0] 1 4 [(6,(.bool true))] (sl Kq 92 [] ⟨[],[],[some [6]],[]⟩ ⟨[],[],[]⟩ [false,false,false,false,false,false,false,false,false,false,false,true,true,true,true,true,true,false,false,true,true,true,true,true,true,true] (tt k7 (tt k6 (yt (v9f k5) (tt k5 (pp (pp (xr l0) (xw cZ)) (pp (pp (xr l0) (xw cL)) (tt k4 (tt k3 (tt k2 (tt k1 (tt k0 (pp (pp (xr l0) (xw bO)) nn))))))))))))))) (fun k7=>(lr 180 14 [1,1,1,1,1,0,1,0,0] 1 4 [(6,(.bool ((Ud (cvT l0) x1) == 4)))] (sl Kq 92 [] ⟨[],[],[some [6]],[]⟩ ⟨[],[],[]⟩ [false,false,false,false,false,false,false,false,false,false,false,true,true,true,true,true,true,false,false,true,true,true,true,false,false,true] (tt k7 (tt k6 (yt (v9f k5) (tt k5 (pp (pp (xr l0) (xw cZ)) (pp (pp (xr l0) (xw cL)) (tt k4 (tt k3 (tt k2 (tt k1 (tt k0 (pp (pp (xr l0) (xw bO)) nn))))))))))))))))) (fun k6=>(lr 180 14 [1,1,1,1,1,0,1,0,0] 1 4 [(6,(.bool false))] (sl Kq 92 [] ⟨[],[],[some [6]],[]⟩ ⟨[],[],[]⟩ [false,false,false,false,false,false,false,false,false,false,false,true,true,true,true,true,true,false,false,true,false,false,false,false] (tt k6 (yt (v9f k5) (tt k5 (pp (pp (xr l0) (xw cZ)) (pp (pp (xr l0) (xw cL)) (tt k4 (tt k3 (tt k2 (tt k1 (tt k0 (pp (pp (xr l0) (xw bO)) nn)))))))))))))))) (fun k5=>(lb (fun k6=>(lr 180 14 [1,1,1,1,1,0,1,0,0] 1 4 [(6,(.bool ((Ud (cvT l0) x1) == 4)))] (sl Kq 92 [] ⟨[],[],[some [6]],[]⟩ ⟨[],[],[]⟩ [false,false,false,false,false,false,false,false,false,false,false,false,false,true,true,true,true,true,true,true,true,true,true,false,false,true] (yt (v9f k6) (yt (beq_f k5) (tt k6 (tt k5 (pp (pp (xr l0) (xw cZ)) (pp (pp (xr l0) (xw cL)) (tt k4 (tt k3 (tt k2 (tt k1 (tt k0 (pp (pp (xr l0) (xw bO)) nn))))))))))))))) (fun k6=>(lo fun dD=>(lo fun dE=>(lb (fun k7=>(lr 180 14 [1,1,1,1,1,1,1,1,0,1,0,0] 1 4 [(6,(.bool false))] (sl Kq 119 [] ⟨[],[],[some [6]],[]⟩ ⟨[],[],[]⟩ [false,false,false,false,false,false,false,false,false,false,false,false,false,false,true,true,true,true,true,true,true,true,true] (tt k7 (pp (pp (xr l0) (pp (xI R6 (Zr (cvT l0) x1).length (Vp l0 x1)) (xw dE))) (pp (pp (xI R6 (Xh (cvT l0) x1).length (Ky l0 x1)) (pp (xr l0) (xw dD))) (tt k6 (tt k5 (pp (pp (xr l0) (xw cZ)) (pp (pp (xr l0) (xw cL)) (tt k4 (tt k3 (tt k2 (tt k1 (tt k0 (pp (pp (xr l0) (xw bO)) nn)))))))))))))))) (fun k7=>(lb (fun k8=>(lr 180 14 [1,1,1,1,1,1,1,1,0,1,0,0] 1 4 [(6,(.bool false))] (sl Kq 119 [] ⟨[],[],[some [6]],[]⟩ ⟨[],[],[]⟩ [false,false,false,false,false,false,false,false,false,false,false,false,false,false,false,false,false,true,true,true,true,true,true] (tt k8 (tt k7 (pp (pp (xr l0) (pp (xI R6 (Zr (cvT l0) x1).length (Vp l0 x1)) (xw dE))) (pp (pp (xI R6 (Xh (cvT l0) x1).length (Ky l0 x1)) (pp (xr l0) (xw dD))) (tt k6 (tt k5 (pp (pp (xr l0) (xw cZ)) (pp (pp (xr l0) (xw cL)) (tt k4 (tt k3 (tt k2 (tt k1 (tt k0 (pp (pp (xr l0) (xw bO)) nn))))))))))))))))) (fun k8=>(lb (fun k9=>(lr 180 14 [1,1,1,1,1,1,1,1,0,1,0,0] 1 4 [(6,(.bool false))] (sl Kq 119 [] ⟨[],[],[some [6]],[]⟩ ⟨[],[],[]⟩ [false,false,false,false,false,false,false,false,false,false,false,false,false,false,false,false,false,false,false,true,true,true,true] (tt k9 (tt k8 (tt k7 (pp (pp (xr l0) (pp (xI R6 (Zr (cvT l0) x1).length (Vp l0 x1)) (xw dE))) (pp (pp (xI R6 (Xh (cvT l0) x1).length (Ky l0 x1)) (pp (xr l0) (xw dD))) (tt k6 (tt k5 (pp (pp (xr l0) (xw cZ)) (pp (pp (xr l0) (xw cL)) (tt k4 (tt k3 (tt k2 (tt k1 (tt k0 (pp (pp (xr l0) (xw bO)) nn)))))))))))))))))) (fun k9=>(lb (fun k10=>(lr 180 14 [1,1,1,1,1,1,1,1,0,1,0,0] 1 4 [(6,(.bool false))] (sl Kq 119 [] ⟨[],[],[some [6]],[]⟩ ⟨[],[],[]⟩ [false,false,false,false,false,false,false,false,false,false,false,false,false,false,false,false,false,false,false,false,false,false,true] (tt k10 (tt k9 (tt k8 (tt k7 (pp (pp (xr l0) (pp (xI R6 (Zr (cvT l0) x1).length (Vp l0 x1)) (xw dE))) (pp (pp (xI R6 (Xh (cvT l0) x1).length (Ky l0 x1)) (pp (xr l0) (xw dD))) (tt k6 (tt k5 (pp (pp (xr l0) (xw cZ)) (pp (pp (xr l0) (xw cL)) (tt k4 (tt k3 (tt k2 (tt k1 (tt k0 (pp (pp (xr l0) (xw bO)) nn))))))))))))))))))) (fun k10=>(lb (fun k11=>(lr 180 14 [1,1,1,1,1,1,1,1,1,0,1,0,0] 1 4 [(6,(.bool ((((Zr (cvT l0) x1).length :Nat):Int) == 0)))] (sl Kq 134 [] ⟨[],[],[some [6]],[]⟩ ⟨[],[],[]⟩ [false,false,false,false,false,false,false,false,false,false,false,false,false,false,false,false,false,false,false,false,false,false,false,true,true,true,true] (tt k11 (tt k10 (tt k9 (tt k8 (tt k7 (pp (pp (xr l0) (pp (xI R6 (Zr (cvT l0) x1).length (Vp l0 x1)) (xw dE))) (pp (pp (xI R6 (Xh (cvT l0) x1).length (Ky l0 x1)) (pp (xr l0) (xw dD))) (tt k6 (tt k5 (pp (pp (xr l0) (xw cZ)) (pp (pp (xr l0) (xw cL)) (tt k4 (tt k3 (tt k2 (tt k1 (tt k0 (pp (pp (xr l0) (xw bO)) nn)))))))))))))))))))) (fun k11=>(lb (fun k12=>(lo fun dA=>(lb (fun k13=>(lr 180 14 [1,1,1,1,1,1,1,1,1,1,0,1,0,1,1,0,0] 1 4 [(6,(.bool false))] (sl Kq 160 [] ⟨[],[],[some [6]],[]⟩ ⟨[],[],[]⟩ [false,false,false,false,false,false,false,false,false,false,false,false,false,false,false,false,false,false,false,false,false,false,false,false,true,true,true,true,true,true] (tt k13 (pp (pp (xr l0) (pp (xI R6 (Zr (cvT l0) x1).length (Vp l0 x1)) (xw dA))) (tt k12 (tt k11 (tt k10 (tt k9 (tt k8 (tt k7 (pp (pp (xr l0) (pp (xI R6 (Zr (cvT l0) x1).length (Vp l0 x1)) (xw dE))) (pp (pp (xI R6 (Xh (cvT l0) x1).length (Ky l0 x1)) (pp (xr l0) (xw dD))) (tt k6 (tt k5 (pp (pp (xr l0) (xw cZ)) (pp (pp (xr l0) (xw cL)) (tt k4 (tt k3 (tt k2 (tt k1 (tt k0 (pp (pp (xr l0) (xw bO)) nn))))))))))))))))))))))) (fun k13=>(lb (fun k14=>(lr 180 14 [1,1,1,1,1,1,1,1,1,1,0,1,0,1,1,0,0] 1 4 [(6,(.bool false))] (sl Kq 160 [] ⟨[],[],[some [6]],[]⟩ ⟨[],[],[]⟩ [false,false,false,false,false,false,false,false,false,false,false,false,false,false,false,false,false,false,false,false,false,false,false,false,true,false,false,false,false,true] (tt k14 (tt k13 (pp (pp (xr l0) (pp (xI R6 (Zr (cvT l0) x1).length (Vp l0 x1)) (xw dA))) (tt k12 (tt k11 (tt k10 (tt k9 (tt k8 (tt k7 (pp (pp (xr l0) (pp (xI R6 (Zr (cvT l0) x1).length (Vp l0 x1)) (xw dE))) (pp (pp (xI R6 (Xh (cvT l0) x1).length (Ky l0 x1)) (pp (xr l0) (xw dD))) (tt k6 (tt k5 (pp (pp (xr l0) (xw cZ)) (pp (pp (xr l0) (xw cL)) (tt k4 (tt k3 (tt k2 (tt k1 (tt k0 (pp (pp (xr l0) (xw bO)) nn)))))))))))))))))))))))) (fun k14=>(lo fun dV=>(lb (fun k15=>(lr 180 14 [1,1,1,1,1,1,1,1,1,1,1,1,0,1,0,0] 1 4 [(6,(.bool false))] (sl Kq 187 [] ⟨[],[],[some [6]],[]⟩ ⟨[],[],[]⟩ [false,false,false,false,false,false,false,false,false,false,false,false,false,false,false,false,false,false,false,false,false,false,false,false,true,false,false,false,false,false,true,true,true,true,true] (tt k15 (pp (pp (xr l0) (xw dV)) (tt k14 (tt k13 (pp (pp (xr l0) (pp (xI R6 (Zr (cvT l0) x1).length (Vp l0 x1)) (xw dA))) (tt k12 (tt k11 (tt k10 (tt k9 (tt k8 (tt k7 (pp (pp (xr l0) (pp (xI R6 (Zr (cvT l0) x1).length (Vp l0 x1)) (xw dE))) (pp (pp (xI R6 (Xh (cvT l0) x1).length (Ky l0 x1)) (pp (xr l0) (xw dD))) (tt k6 (tt k5 (pp (pp (xr l0) (xw cZ)) (pp (pp (xr l0) (xw cL)) (tt k4 (tt k3 (tt k2 (tt k1 (tt k0 (pp (pp (xr l0) (xw bO)) nn)))))))))))))))))))))))))) (fun k15=>(lb (fun k16=>(lr 180 14 [1,1,1,1,1,1,1,1,1,1,1,1,0,1,0,0] 1 4 [(6,(.bool false))] (sl Kq 187 [] ⟨[],[],[some [6]],[]⟩ ⟨[],[],[]⟩ [false,false,false,false,false,false,false,false,false,false,false,false,false,false,false,false,false,false,false,false,false,false,false,false,true,false,false,false,false,false,false,false,true,true,true] (tt k16 (tt k15 (pp (pp (xr l0) (xw dV)) (tt k14 (tt k13 (pp (pp (xr l0) (pp (xI R6 (Zr (cvT l0) x1).length (Vp l0 x1)) (xw dA))) (tt k12 (tt k11 (tt k10 (tt k9 (tt k8 (tt k7 (pp (pp (xr l0) (pp (xI R6 (Zr (cvT l0) x1).length (Vp l0 x1)) (xw dE))) (pp (pp (xI R6 (Xh (cvT l0) x1).length (Ky l0 x1)) (pp (xr l0) (xw dD))) (tt k6 (tt k5 (pp (pp (xr l0) (xw cZ)) (pp (pp (xr l0) (xw cL)) (tt k4 (tt k3 (tt k2 (tt k1 (tt k0 (pp (pp (xr l0) (xw bO)) nn))))))))))))))))))))))))))) (fun k16=>(lb (fun k17=>(lr 180 14 [1,1,1,1,1,1,1,1,1,1,1,1,0,1,0,0] 1 4 [(6,(.bool false))] (sl Kq 187 [] ⟨[],[],[some [6]],[]⟩ ⟨[],[],[]⟩ [false,false,false,false,false,false,false,false,false,false,false,false,false,false,false,false,false,false,false,false,false,false,false,false,true,false,false,false,false,false,false,false,false,false,true] (tt k17 (tt k16 (tt k15 (pp (pp (xr l0) (xw dV)) (tt k14 (tt k13 (pp (pp (xr l0) (pp (xI R6 (Zr (cvT l0) x1).length (Vp l0 x1)) (xw dA))) (tt k12 (tt k11 (tt k10 (tt k9 (tt k8 (tt k7 (pp (pp (xr l0) (pp (xI R6 (Zr (cvT l0) x1).length (Vp l0 x1)) (xw dE))) (pp (pp (xI R6 (Xh (cvT l0) x1).length (Ky l0 x1)) (pp (xr l0) (xw dD))) (tt k6 (tt k5 (pp (pp (xr l0) (xw cZ)) (pp (pp (xr l0) (xw cL)) (tt k4 (tt k3 (tt k2 (tt k1 (tt k0 (pp (pp (xr l0) (xw bO)) nn)))))))))))))))))))))))))))) (fun k17=>(lo fun dZ=>(lo fun eA=>(lb (fun k18=>(lb (fun k19=>(lr 180 3 [1,1,1,1,1,1,0] 1 4 [(6,(.bool (decide ((Je (cvT (z0w l0 x2)) (cvT l0))≤x2))))] (sl Kq 224 [] ⟨[],[],[some [6]],[]⟩ ⟨[],[],[]⟩ [false,false,false,false,false,false,false,false,false,false,false,false,false,false,false,false,false,false,false,false,false,false,false,false,true,false,false,false,false,false,false,false,false,false,false,true,true,true,true,true,true,true] (tt k19 (tt k18 (pp (pp (xI R6 (z0w l0 x2).length (Zz (z0w l0 x2))) (pp (xr l0) (xw eA))) (pp (pp (xr l0) (xw dZ)) (tt k17 (tt k16 (tt k15 (pp (pp (xr l0) (xw dV)) (tt k14 (tt k13 (pp (pp (xr l0) (pp (xI R6 (Zr (cvT l0) x1).length (Vp l0 x1)) (xw dA))) (tt k12 (tt k11 (tt k10 (tt k9 (tt k8 (tt k7 (pp (pp (xr l0) (pp (xI R6 (Zr (cvT l0) x1).length (Vp l0 x1)) (xw dE))) (pp (pp (xI R6 (Xh (cvT l0) x1).length (Ky l0 x1)) (pp (xr l0) (xw dD))) (tt k6 (tt k5 (pp (pp (xr l0) (xw cZ)) (pp (pp (xr l0) (xw cL)) (tt k4 (tt k3 (tt k2 (tt k1 (tt k0 (pp (pp (xr l0) (xw bO)) nn)))))))))))))))))))))))))))))))) (fun k19=>(lr 180 3 [1,1,1,1,1,1,0] 1 4 [(6,(.bool false))] (sl Kq 224 [] ⟨[],[],[some [6]],[]⟩ ⟨[],[],[]⟩ [false,false,false,false,false,false,false,false,false,false,false,false,false,false,false,false,false,false,false,false,false,false,false,false,true,false,false,false,false,false,false,false,false,false,false,true,true,true,true,false,false,false] (tt k19 (tt k18 (pp (pp (xI R6 (z0w l0 x2).length (Zz (z0w l0 x2))) (pp (xr l0) (xw eA))) (pp (pp (xr l0) (xw dZ)) (tt k17 (tt k16 (tt k15 (pp (pp (xr l0) (xw dV)) (tt k14 (tt k13 (pp (pp (xr l0) (pp (xI R6 (Zr (cvT l0) x1).length (Vp l0 x1)) (xw dA))) (tt k12 (tt k11 (tt k10 (tt k9 (tt k8 (tt k7 (pp (pp (xr l0) (pp (xI R6 (Zr (cvT l0) x1).length (Vp l0 x1)) (xw dE))) (pp (pp (xI R6 (Xh (cvT l0) x1).length (Ky l0 x1)) (pp (xr l0) (xw dD))) (tt k6 (tt k5 (pp (pp (xr l0) (xw cZ)) (pp (pp (xr l0) (xw cL)) (tt k4 (tt k3 (tt k2 (tt k1 (tt k0 (pp (pp (xr l0) (xw bO)) nn)))))))))))))))))))))))))))))))))) (fun k18=>(lr 180 3 [1,1,1,1,1,1,0] 1 4 [(6,(.bool false))] (sl Kq 224 [] ⟨[],[],[some [6]],[]⟩ ⟨[],[],[]⟩ [false,false,false,false,false,false,false,false,false,false,false,false,false,false,false,false,false,false,false,false,false,false,false,false,true,false,false,false,false,false,false,false,false,false,false,true,true,false,false,false,false,false] (tt k18 (pp (pp (xI R6 (z0w l0 x2).length (Zz (z0w l0 x2))) (pp (xr l0) (xw eA))) (pp (pp (xr l0) (xw dZ)) (tt k17 (tt k16 (tt k15 (pp (pp (xr l0) (xw dV)) (tt k14 (tt k13 (pp (pp (xr l0) (pp (xI R6 (Zr (cvT l0) x1).length (Vp l0 x1)) (xw dA))) (tt k12 (tt k11 (tt k10 (tt k9 (tt k8 (tt k7 (pp (pp (xr l0) (pp (xI R6 (Zr (cvT l0) x1).length (Vp l0 x1)) (xw dE))) (pp (pp (xI R6 (Xh (cvT l0) x1).length (Ky l0 x1)) (pp (xr l0) (xw dD))) (tt k6 (tt k5 (pp (pp (xr l0) (xw cZ)) (pp (pp (xr l0) (xw cL)) (tt k4 (tt k3 (tt k2 (tt k1 (tt k0 (pp (pp (xr l0) (xw bO)) nn))))))))))))))))))))))))))))))))))))))))))))))) (fun k12=>(lo fun dA=>(lb (fun k13=>(lr 180 14 [1,1,1,1,1,1,1,1,1,1,1,1,0,1,0,0] 1 4 [(6,(.bool false))] (sl Kq 164 [] ⟨[],[],[some [6]],[]⟩ ⟨[],[],[]⟩ [false,false,false,false,false,false,false,false,false,false,false,false,false,false,false,false,false,false,false,false,false,false,false,false,false,true,true,true,true,true] (tt k13 (pp (pp (xr l0) (xw dA)) (tt k12 (tt k11 (tt k10 (tt k9 (tt k8 (tt k7 (pp (pp (xr l0) (pp (xI R6 (Zr (cvT l0) x1).length (Vp l0 x1)) (xw dE))) (pp (pp (xI R6 (Xh (cvT l0) x1).length (Ky l0 x1)) (pp (xr l0) (xw dD))) (tt k6 (tt k5 (pp (pp (xr l0) (xw cZ)) (pp (pp (xr l0) (xw cL)) (tt k4 (tt k3 (tt k2 (tt k1 (tt k0 (pp (pp (xr l0) (xw bO)) nn))))))))))))))))))))))) (fun k13=>(lb (fun k14=>(lr 180 14 [1,1,1,1,1,1,1,1,1,1,1,1,0,1,0,0] 1 4 [(6,(.bool false))] (sl Kq 164 [] ⟨[],[],[some [6]],[]⟩ ⟨[],[],[]⟩ [false,false,false,false,false,false,false,false,false,false,false,false,false,false,false,false,false,false,false,false,false,false,false,false,false,false,false,true,true,true] (tt k14 (tt k13 (pp (pp (xr l0) (xw dA)) (tt k12 (tt k11 (tt k10 (tt k9 (tt k8 (tt k7 (pp (pp (xr l0) (pp (xI R6 (Zr (cvT l0) x1).length (Vp l0 x1)) (xw dE))) (pp (pp (xI R6 (Xh (cvT l0) x1).length (Ky l0 x1)) (pp (xr l0) (xw dD))) (tt k6 (tt k5 (pp (pp (xr l0) (xw cZ)) (pp (pp (xr l0) (xw cL)) (tt k4 (tt k3 (tt k2 (tt k1 (tt k0 (pp (pp (xr l0) (xw bO)) nn)))))))))))))))))))))))) (fun k14=>(lb (fun k15=>(lr 180 14 [1,1,1,1,1,1,1,1,1,1,1,1,0,1,0,0] 1 4 [(6,(.bool false))] (sl Kq 164 [] ⟨[],[],[some [6]],[]⟩ ⟨[],[],[]⟩ [false,false,false,false,false,false,false,false,false,false,false,false,false,false,false,false,false,false,false,false,false,false,false,false,false,false,false,false,false,true] (tt k15 (tt k14 (tt k13 (pp (pp (xr l0) (xw dA)) (tt k12 (tt k11 (tt k10 (tt k9 (tt k8 (tt k7 (pp (pp (xr l0) (pp (xI R6 (Zr (cvT l0) x1).length (Vp l0 x1)) (xw dE))) (pp (pp (xI R6 (Xh (cvT l0) x1).length (Ky l0 x1)) (pp (xr l0) (xw dD))) (tt k6 (tt k5 (pp (pp (xr l0) (xw cZ)) (pp (pp (xr l0) (xw cL)) (tt k4 (tt k3 (tt k2 (tt k1 (tt k0 (pp (pp (xr l0) (xw bO)) nn))))))))))))))))))))))))) (fun k15=>(lo fun eB=>(lo fun eC=>(lb (fun k16=>(lb (fun k17=>(lr 180 3 [1,1,1,1,1,1,0] 1 4 [(6,(.bool (decide ((Je (cvT (z0w l0 x2)) (cvT l0))≤x2))))] (sl Kq 201 [] ⟨[],[],[some [6]],[]⟩ ⟨[],[],[]⟩ [false,false,false,false,false,false,false,false,false,false,false,false,false,false,false,false,false,false,false,false,false,false,false,false,false,false,false,false,false,false,true,true,true,true,true,true,true] (tt k17 (tt k16 (pp (pp (xI R6 (z0w l0 x2).length (Zz (z0w l0 x2))) (pp (xr l0) (xw eC))) (pp (pp (xr l0) (xw eB)) (tt k15 (tt k14 (tt k13 (pp (pp (xr l0) (xw dA)) (tt k12 (tt k11 (tt k10 (tt k9 (tt k8 (tt k7 (pp (pp (xr l0) (pp (xI R6 (Zr (cvT l0) x1).length (Vp l0 x1)) (xw dE))) (pp (pp (xI R6 (Xh (cvT l0) x1).length (Ky l0 x1)) (pp (xr l0) (xw dD))) (tt k6 (tt k5 (pp (pp (xr l0) (xw cZ)) (pp (pp (xr l0) (xw cL)) (tt k4 (tt k3 (tt k2 (tt k1 (tt k0 (pp (pp (xr l0) (xw bO)) nn))))))))))))))))))))))))))))) (fun k17=>(lr 180 3 [1,1,1,1,1,1,0] 1 4 [(6,(.bool false))] (sl Kq 201 [] ⟨[],[],[some [6]],[]⟩ ⟨[],[],[]⟩ [false,false,false,false,false,false,false,false,false,false,false,false,false,false,false,false,false,false,false,false,false,false,false,false,false,false,false,false,false,false,true,true,true,true,false,false,false] (tt k17 (tt k16 (pp (pp (xI R6 (z0w l0 x2).length (Zz (z0w l0 x2))) (pp (xr l0) (xw eC))) (pp (pp (xr l0) (xw eB)) (tt k15 (tt k14 (tt k13 (pp (pp (xr l0) (xw dA)) (tt k12 (tt k11 (tt k10 (tt k9 (tt k8 (tt k7 (pp (pp (xr l0) (pp (xI R6 (Zr (cvT l0) x1).length (Vp l0 x1)) (xw dE))) (pp (pp (xI R6 (Xh (cvT l0) x1).length (Ky l0 x1)) (pp (xr l0) (xw dD))) (tt k6 (tt k5 (pp (pp (xr l0) (xw cZ)) (pp (pp (xr l0) (xw cL)) (tt k4 (tt k3 (tt k2 (tt k1 (tt k0 (pp (pp (xr l0) (xw bO)) nn))))))))))))))))))))))))))))))) (fun k16=>(lr 180 3 [1,1,1,1,1,1,0] 1 4 [(6,(.bool false))] (sl Kq 201 [] ⟨[],[],[some [6]],[]⟩ ⟨[],[],[]⟩ [false,false,false,false,false,false,false,false,false,false,false,false,false,false,false,false,false,false,false,false,false,false,false,false,false,false,false,false,false,false,true,true,false,false,false,false,false] (tt k16 (pp (pp (xI R6 (z0w l0 x2).length (Zz (z0w l0 x2))) (pp (xr l0) (xw eC))) (pp (pp (xr l0) (xw eB)) (tt k15 (tt k14 (tt k13 (pp (pp (xr l0) (xw dA)) (tt k12 (tt k11 (tt k10 (tt k9 (tt k8 (tt k7 (pp (pp (xr l0) (pp (xI R6 (Zr (cvT l0) x1).length (Vp l0 x1)) (xw dE))) (pp (pp (xI R6 (Xh (cvT l0) x1).length (Ky l0 x1)) (pp (xr l0) (xw dD))) (tt k6 (tt k5 (pp (pp (xr l0) (xw cZ)) (pp (pp (xr l0) (xw cL)) (tt k4 (tt k3 (tt k2 (tt k1 (tt k0 (pp (pp (xr l0) (xw bO)) nn)))))))))))))))))))))))))))))))))))))))))))))))))))))))))))))))))))))
theorem dbw_ends (l0:List R6) (x1:Int) (x2:Int) (n:Nat) (vs:List AVal) (h:Yj (x8l l0 x1 x2) n (y2m l0 x1 x2)=.ret vs):Kg prog (Zy prog 14) (Zi prog 14 [(.dat l0.length (Zz l0)),(.int .i64 x1),(.int .i64 x2)] true []) vs:=by have:=Yw (w4x l0 x1 x2) n _ (x8m l0 x1 x2);rwa [h] at this
end Go.Am
namespace Go.Am
open Go.Proofs
end Go.Am
namespace Go.Am
open Go.Proofs
def pin (r:R6) (x y z:Int):Prop:=(r.a≤x∧x<r.d)∧(r.b≤y∧y<r.e)∧r.c≤z∧z<r.f
def nrp (r:R6) (D x y z:Int):Prop:=(r.a - D≤x∧x<r.d+D)∧(r.b - D≤y∧y<r.e+D)∧r.c - D≤z∧z<r.f+D
def bdd (r:R6):Prop:=(-1000000000≤r.a∧r.a≤1000000000)∧(-1000000000≤r.b∧r.b≤1000000000)∧(-1000000000≤r.c∧r.c≤1000000000)∧(-1000000000≤r.d∧r.d≤1000000000)∧(-1000000000≤r.e∧r.e≤1000000000)∧(-1000000000≤r.f∧r.f≤1000000000)
theorem Ur (x y:Int):x≤Wf x y∧y≤Wf x y∧(Wf x y=x∨Wf x y=y):=by unfold Wf;split <;> omega
theorem Qy (x y:Int):Ju x y≤x∧Ju x y≤y∧(Ju x y=x∨Ju x y=y):=by unfold Ju;split <;> omega
theorem v0u {x y m:Int}:Wf x y≤m↔x≤m∧y≤m:=by have:=Ur x y;omega
theorem u8v {x y m:Int}:Ju x y≤m↔x≤m∨y≤m:=by have:=Qy x y;omega
structure GA (G c B:R6) (D:Int):Prop where
 ga:c.a - D≤G.a∧B.a≤G.a∧(G.a=c.a - D∨G.a=B.a)
 gb:c.b - D≤G.b∧B.b≤G.b∧(G.b=c.b - D∨G.b=B.b)
 gc:c.c - D≤G.c∧B.c≤G.c∧(G.c=c.c - D∨G.c=B.c)
 gd:G.d≤c.d+D∧G.d≤B.d∧(G.d=c.d+D∨G.d=B.d)
 ge:G.e≤c.e+D∧G.e≤B.e∧(G.e=c.e+D∨G.e=B.e)
 gf:G.f≤c.f+D∧G.f≤B.f∧(G.f=c.f+D∨G.f=B.f)
theorem u9a {c B:R6} {D:Int} (hc:bdd c) (hD:0≤D∧D≤1000000000):GA (gA D c B) c B D:=by
 obtain ⟨h1,h2,h3,h4,h5,h6⟩:=hc;refine ⟨?_,?_,?_,?_,?_,?_⟩ <;> unfold gA <;> simp only <;> (rw [Zu (by omega)])
 ·exact Ur _ _
 ·exact Ur _ _
 ·exact Ur _ _
 ·exact Qy _ _
 ·exact Qy _ _
 ·exact Qy _ _
theorem z5a {r:R6}:z7z r=false↔r.a<r.d∧r.b<r.e∧r.c<r.f:=by unfold z7z;simp only [Bool.or_eq_false_iff,decide_eq_false_iff_not];omega
theorem v7z {r:R6} (h:z7z r=true) {x y z:Int}: ¬pin r x y z:=fun ⟨p,q,s⟩=>by have:z7z r=false:=z5a.2 (by omega);rw [h] at this;cases this
theorem y2n {D:Int} (hD:0≤D∧D≤1000000000): ∀(l:List R6) (B:R6),bdd B→z7z B=false→(∀c∈l,bdd c)→(covB D l B=true↔ ∀x y z,pin B x y z→ ∃c∈l,nrp c D x y z)
 | [],B,hB,hne,hl=>by
  have h:=z5a.1 hne;constructor
  ·intro h;cases h
  ·intro k;obtain ⟨c,hc,_⟩:=k B.a B.b B.c ⟨⟨Int.le_refl _,h.1⟩,⟨Int.le_refl _,h.2.1⟩,Int.le_refl _,h.2.2⟩;cases hc
 | c::l,B,hB,hne,hl=>by
  have hc:=hl c (List.mem_cons_self ..);have hl': ∀c∈l,bdd c:=fun c h=>hl c (List.mem_cons_of_mem _ h);have G:=u9a (B:=B) hc hD;have hcov:covB D (c::l) B=bif z7z (gA D c B) then covB D l B else
   (z7z (u4e (gA D c B) B)||covB D l (u4e (gA D c B) B))&&((z7z (u4d (gA D c B) B)||covB D l (u4d (gA D c B) B))&&((z7z (v3j (gA D c B) B)||covB D l (v3j (gA D c B) B))&&
   ((z7z (v3i (gA D c B) B)||covB D l (v3i (gA D c B) B))&&((z7z (w5q (gA D c B) B)||covB D l (w5q (gA D c B) B))&&(z7z (w5p (gA D c B) B)||covB D l (w5p (gA D c B) B)))))):=rfl
  rw [hcov];generalize gA D c B=g at G;obtain ⟨G1,G2,G3,G4,G5,G6⟩:=G;have part: ∀p,bdd p→((z7z p||covB D l p)=true↔ ∀x y z,pin p x y z→ ∃c∈l,nrp c D x y z):=fun p hp=>by
   cases he:z7z p with
   | true=>exact ⟨fun _ x y z k=>absurd k (v7z he),fun _=>rfl⟩
   | false=>rw [Bool.false_or];exact y2n hD l p hp he hl'
  cases he:z7z g with
  | true=>
   rw [cond_true,y2n hD l B hB hne hl'];constructor
   ·intro k x y z hp;obtain ⟨c',hc',q⟩:=k x y z hp;exact ⟨c',List.mem_cons_of_mem _ hc',q⟩
   ·intro k x y z hp;obtain ⟨c',hc',q⟩:=k x y z hp;rcases List.mem_cons.1 hc' with rfl | hc'
    ·exfalso;have:z7z g=false:=z5a.2 (by obtain ⟨q1,q2,q3⟩:=q;obtain ⟨p1,p2,p3⟩:=hp;omega);rw [he] at this;cases this
    ·exact ⟨c',hc',q⟩
  | false=>
   have hg:=z5a.1 he;have hb:=z5a.1 hne;obtain ⟨b1,b2,b3,b4,b5,b6⟩:=hB;rw [cond_false,Bool.and_eq_true,Bool.and_eq_true,Bool.and_eq_true,Bool.and_eq_true,Bool.and_eq_true];rw [part (u4e g B) (by unfold bdd u4e;simp only;omega),part (u4d g B) (by unfold bdd u4d;simp only;omega),part (v3j g B) (by unfold bdd v3j;simp only;omega),part (v3i g B) (by unfold bdd v3i;simp only;omega),part (w5q g B) (by unfold bdd w5q;simp only;omega),part (w5p g B) (by unfold bdd w5p;simp only;omega)];have out: ∀{p:R6},(∀x y z,pin p x y z→pin B x y z∧ ¬nrp c D x y z)→(∀x y z,pin B x y z→ ∃c'∈c::l,nrp c' D x y z)→ ∀x y z,pin p x y z→ ∃c'∈l,nrp c' D x y z:=fun h k x y z hp=>by
    obtain ⟨h1,h2⟩:=h x y z hp;obtain ⟨c',hc',q⟩:=k x y z h1;rcases List.mem_cons.1 hc' with rfl | hc'
    ·exact absurd q h2
    ·exact ⟨c',hc',q⟩
   constructor
   ·intro ⟨k1,k2,k3,k4,k5,k6⟩ x y z ⟨⟨p1,p2⟩,⟨p3,p4⟩,p5,p6⟩;have up:(∃c'∈l,nrp c' D x y z)→ ∃c'∈c::l,nrp c' D x y z:=fun ⟨c',h,q⟩=>⟨c',List.mem_cons_of_mem _ h,q⟩
    by_cases q1:x<g.a
    ·exact up (k1 x y z ⟨⟨p1,q1⟩,⟨p3,p4⟩,p5,p6⟩)
    by_cases q2:g.d≤x
    ·exact up (k2 x y z ⟨⟨q2,p2⟩,⟨p3,p4⟩,p5,p6⟩)
    by_cases q3:y<g.b
    ·exact up (k3 x y z ⟨⟨by simp only [v3j];omega,by simp only [v3j];omega⟩,⟨p3,q3⟩,p5,p6⟩)
    by_cases q4:g.e≤y
    ·exact up (k4 x y z ⟨⟨by simp only [v3i];omega,by simp only [v3i];omega⟩,⟨q4,p4⟩,p5,p6⟩)
    by_cases q5:z<g.c
    ·exact up (k5 x y z ⟨⟨by simp only [w5q];omega,by simp only [w5q];omega⟩,⟨by simp only [w5q];omega,by simp only [w5q];omega⟩,p5,q5⟩)
    by_cases q6:g.f≤z
    ·exact up (k6 x y z ⟨⟨by simp only [w5p];omega,by simp only [w5p];omega⟩,⟨by simp only [w5p];omega,by simp only [w5p];omega⟩,q6,p6⟩)
    exact ⟨c,List.mem_cons_self ..,by unfold nrp;omega⟩
   ·intro k;refine ⟨out (fun x y z hp=> ?_) k,out (fun x y z hp=> ?_) k,out (fun x y z hp=> ?_) k,out (fun x y z hp=> ?_) k,out (fun x y z hp=> ?_) k,out (fun x y z hp=> ?_) k⟩ <;> (unfold pin at hp ⊢;unfold nrp) <;> simp only [u4e,u4d,v3j,v3i,w5q,w5p] at hp <;> omega
theorem y4r {r:R6} (hr:bdd r) {x y z D:Int} (hD:0≤D) (hx: -1000000000≤x∧x≤1000000000) (hy: -1000000000≤y∧y≤1000000000) (hz: -1000000000≤z∧z≤1000000000):v7o x y z r≤D↔nrp r D x y z:=by obtain ⟨h1,h2,h3,h4,h5,h6⟩:=hr;unfold v7o nrp;rw [Zu (n:=r.a - x) (by omega),Zu (n:=x - r.d) (by omega),Zu (n:=x - r.d+1) (by omega),Zu (n:=r.b - y) (by omega),Zu (n:=y - r.e) (by omega),Zu (n:=y - r.e+1) (by omega),Zu (n:=r.c - z) (by omega),Zu (n:=z - r.f) (by omega),Zu (n:=z - r.f+1) (by omega)];simp only [v0u];omega
theorem v1b {x y z m:Int}: ∀(l:List R6) (d:Int),u3y x y z l d≤m↔d≤m∨ ∃c∈l,v7o x y z c≤m
 | [],d=>by unfold u3y;simp
 | r::l,d=>by
  unfold u3y;rw [v1b l,u8v];constructor
  ·rintro ((h | h) | ⟨c,hc,h⟩)
   ·exact .inl h
   ·exact .inr ⟨r,List.mem_cons_self ..,h⟩
   ·exact .inr ⟨c,List.mem_cons_of_mem _ hc,h⟩
  ·rintro (h | ⟨c,hc,h⟩)
   ·exact .inl (.inl h)
   ·rcases List.mem_cons.1 hc with rfl | hc
    ·exact .inl (.inr h)
    ·exact .inr ⟨c,hc,h⟩
theorem y4m {x y z m:Int} {L:List R6} (hL:L≠ []):w4l x y z L≤m↔ ∃c∈L,v7o x y z c≤m:=by
 cases L with
 | nil=>exact absurd rfl hL
 | cons r l=>
  have e:w4l x y z (r::l)=u3y x y z l (v7o x y z r):=rfl;rw [e,v1b];constructor
  ·rintro (h | ⟨c,hc,h⟩)
   ·exact ⟨r,List.mem_cons_self ..,h⟩
   ·exact ⟨c,List.mem_cons_of_mem _ hc,h⟩
  ·rintro ⟨c,hc,h⟩;rcases List.mem_cons.1 hc with rfl | hc
   ·exact .inl h
   ·exact .inr ⟨c,hc,h⟩
theorem w1a {g:Int→Int→Int} {m:Int} {p:Int→Prop} (hg: ∀z d,g z d≤m↔d≤m∧p z): ∀(n:Nat) (z d:Int),lpI g n z d≤m↔d≤m∧ ∀k,z≤k→k<z+n→p k
 | 0,z,d=>by unfold lpI;exact ⟨fun h=>⟨h,fun k h1 h2=>by omega⟩,fun h=>h.1⟩
 | n+1,z,d=>by
  unfold lpI;rw [w1a hg n,hg];constructor
  ·rintro ⟨⟨h1,h2⟩,h3⟩;refine ⟨h1,fun k hk hk'=> ?_⟩;by_cases e:k=z
   ·subst e;exact h2
   ·exact h3 k (by omega) (by omega)
  ·rintro ⟨h1,h2⟩;exact ⟨⟨h1,h2 z (Int.le_refl _) (by omega)⟩,fun k hk hk'=>h2 k (by omega) (by omega)⟩
theorem rgX_le {L1:List R6} {r:R6} {d m:Int}:rgX L1 r d≤m↔d≤m∧ ∀x y z,pin r x y z→w4l x y z L1≤m:=by
 have hz: ∀x y d,rgZ L1 r x y d≤m↔d≤m∧ ∀z,r.c≤z→z<r.f→w4l x y z L1≤m:=fun x y d=>by
  unfold rgZ;rw [w1a (p:=fun z=>w4l x y z L1≤m) (fun z d=>v0u)];exact and_congr_right fun _=>⟨fun h k h1 h2=>h k h1 (by omega),fun h k h1 h2=>h k h1 (by omega)⟩
 have hy: ∀x d,rgY L1 r x d≤m↔d≤m∧ ∀y,r.b≤y→y<r.e→ ∀z,r.c≤z→z<r.f→w4l x y z L1≤m:=fun x d=>by
  unfold rgY;rw [w1a (p:=fun y=> ∀z,r.c≤z→z<r.f→w4l x y z L1≤m) (fun y d=>hz x y d)];exact and_congr_right fun _=>⟨fun h k h1 h2=>h k h1 (by omega),fun h k h1 h2=>h k h1 (by omega)⟩
 unfold rgX;rw [w1a (p:=fun x=> ∀y,r.b≤y→y<r.e→ ∀z,r.c≤z→z<r.f→w4l x y z L1≤m) (fun x d=>hy x d)];exact and_congr_right fun _=>⟨fun h x y z ⟨p1,p2,p3⟩=>h x p1.1 (by omega) y p2.1 p2.2 z p3.1 p3.2,fun h x h1 h2 y h3 h4 z h5 h6=>h x y z ⟨⟨h1,by omega⟩,⟨h3,h4⟩,h5,h6⟩⟩
theorem w7t {L1:List R6} {m:Int}: ∀(L0:List R6) (d:Int),rrcF L1 L0 d≤m↔d≤m∧ ∀r∈L0,∀x y z,pin r x y z→w4l x y z L1≤m
 | [],d=>by unfold rrcF;exact ⟨fun h=>⟨h,fun r hr=>by cases hr⟩,fun h=>h.1⟩
 | r::l,d=>by
  unfold rrcF;rw [w7t l,rgX_le];constructor
  ·rintro ⟨⟨h1,h2⟩,h3⟩;refine ⟨h1,fun q hq=> ?_⟩;rcases List.mem_cons.1 hq with rfl | hq
   ·exact h2
   ·exact h3 q hq
  ·rintro ⟨h1,h2⟩;exact ⟨⟨h1,h2 r (List.mem_cons_self ..)⟩,fun q hq=>h2 q (List.mem_cons_of_mem _ hq)⟩
theorem y9w {L0 L1:List R6} {m:Int}:x2b L0 L1≤m↔0≤m∧ ∀r∈L0,∀x y z,pin r x y z→w4l x y z L1≤m:=w7t L0 0
theorem z1u {r:R6} (h:Ut r=true):bdd r:=by obtain ⟨h1,h2,h3,h4,h5,h6,h7,h8,h9⟩:=Xy h;unfold bdd;omega
theorem v9n {r:R6} (h:Ut r=true):z7z r=false:=by obtain ⟨h1,h2,h3,_⟩:=Xy h;exact z5a.2 ⟨h1,h2,h3⟩
theorem v9g {L0 L1:List R6} (h0: ∀r∈L0,Ut r=true) (h1: ∀r∈L1,Ut r=true) (hne:L0=[]∨L1≠ []) {d:Int} (hd:0≤d∧d≤1000000000):u4u L1 d L0=true↔x2b L0 L1≤d:=by
 rw [y9w];unfold u4u;rw [List.all_eq_true];constructor
 ·intro h;refine ⟨hd.1,fun r hr x y z hp=> ?_⟩;have hL:L1≠ []:=by
   rcases hne with e | e
   ·subst e;cases hr
   ·exact e
  obtain ⟨c,hc,q⟩:=(y2n hd L1 r (z1u (h0 r hr)) (v9n (h0 r hr)) fun c hc=>z1u (h1 c hc)).1 (h r hr) x y z hp;obtain ⟨v1,v2,v3,v4,v5,v6,v7,v8,v9⟩:=Xy (h0 r hr);obtain ⟨p1,p2,p3⟩:=hp;exact (y4m hL).2 ⟨c,hc,(y4r (z1u (h1 c hc)) hd.1 (by omega) (by omega) (by omega)).2 q⟩
 ·rintro ⟨_,h⟩ r hr;refine (y2n hd L1 ⟨r.a,r.b,r.c,r.d,r.e,r.f⟩ (z1u (h0 r hr)) (v9n (h0 r hr)) fun c hc=>z1u (h1 c hc)).2 fun x y z hp=> ?_;have hL:L1≠ []:=by
   rcases hne with e | e
   ·subst e;cases hr
   ·exact e
  obtain ⟨c,hc,q⟩:=(y4m hL).1 (h r hr x y z hp);obtain ⟨v1,v2,v3,v4,v5,v6,v7,v8,v9⟩:=Xy (h0 r hr);obtain ⟨p1,p2,p3⟩:=hp;simp only at p1 p2 p3;exact ⟨c,hc,(y4r (z1u (h1 c hc)) hd.1 (by omega) (by omega) (by omega)).1 q⟩
theorem w7s {L0 L1:List R6} (h0: ∀r∈L0,Ut r=true) (h1: ∀r∈L1,Ut r=true) (hne:L0=[]∨L1≠ []):0≤x2b L0 L1∧x2b L0 L1≤1999999:=by
 refine ⟨(y9w.1 (Int.le_refl _)).1,y9w.2 ⟨by omega,fun r hr x y z hp=> ?_⟩⟩;have hL:L1≠ []:=by
  rcases hne with e | e
  ·subst e;cases hr
  ·exact e
 obtain ⟨c,hc⟩:=List.exists_mem_of_ne_nil L1 hL;obtain ⟨v1,v2,v3,v4,v5,v6,v7,v8,v9⟩:=Xy (h0 r hr);obtain ⟨w1,w2,w3,w4,w5,w6,w7,w8,w9⟩:=Xy (h1 c hc);obtain ⟨p1,p2,p3⟩:=hp;refine (y4m hL).2 ⟨c,hc,(y4r (z1u (h1 c hc)) (by omega) (by omega) (by omega) (by omega)).2 ?_⟩;unfold nrp;omega
theorem x5g {F:Int→Bool} {R:Int} (hF: ∀d,0≤d→d<2000000→(F d=true↔R≤d)): ∀(n:Nat) (i j:Int),0≤i→i≤R→R≤j→j≤2000000→j - i<2 ^ n→v3e F n i j=R
 | 0,i,j,h1,h2,h3,h4,h5=>by unfold v3e;simp at h5;omega
 | n+1,i,j,h1,h2,h3,h4,h5=>by
  have hp:(2:Int) ^ (n+1)=2*2 ^ n:=by rw [Int.pow_succ,Int.mul_comm]
  rw [hp] at h5;generalize hP:(2:Int) ^ n=p at h5;unfold v3e;by_cases hlt:i<j
  ·rw [Zd hlt,cond_true];rcases Yv (F ((i+j) / 2)) with q | q
   ·rw [q,cond_true];have:=(hF ((i+j) / 2) (by omega) (by omega)).1 q;exact x5g hF n i _ h1 h2 this (by omega) (by rw [hP];omega)
   ·rw [q,cond_false];have: ¬R≤(i+j) / 2:=fun e=>by rw [(hF _ (by omega) (by omega)).2 e] at q;cases q
    exact x5g hF n _ j (by omega) (by omega) h3 h4 (by rw [hP];omega)
  ·rw [Zo hlt,cond_false];omega
theorem u1z {L0 L1:List R6} (h0: ∀r∈L0,Ut r=true) (h1: ∀r∈L1,Ut r=true) (hne:L0=[]∨L1≠ []):w0l L0 L1=x2b L0 L1:=by obtain ⟨m1,m2⟩:=w7s h0 h1 hne;exact x5g (fun d hd hd'=>v9g h0 h1 hne ⟨hd,by omega⟩) 22 0 2000000 (Int.le_refl _) m1 (by omega) (Int.le_refl _) (by decide)
end Go.Am
namespace Go.Am
open Go.Proofs Go.Sort Go.Shelf Go.RowKit Go.Lib
def j1q (n t:Int):Prop:= ∃k,t=k*n
theorem z2g {n s t:Int} (hn:1≤n) (hs:j1q n s) (ht:j1q n t) (h:s<t+n):s≤t:=by
 obtain ⟨k,rfl⟩:=hs;obtain ⟨j,rfl⟩:=ht;have e:j*n+n=(j+1)*n:=by rw [Int.add_mul,Int.one_mul]
 rw [e] at h;have:=Int.lt_of_mul_lt_mul_right h (by omega);exact Int.mul_le_mul_of_nonneg_right (by omega) (by omega)
theorem Uh {x n:Int} (hn:1≤n∧n≤1000) (hx: -2000000≤x∧x≤2000000):j1q n (Xp x n)∧Xp x n≤x∧x<Xp x n+n:=by
 have h1:n*Int.tdiv x n+Int.tmod x n=x:=Int.mul_tdiv_add_tmod x n;have h2:Int.tdiv x n*n=x - Int.tmod x n:=by rw [Int.mul_comm];omega
 have h3: -n<Int.tmod x n∧Int.tmod x n<n∧(0≤x→0≤Int.tmod x n)∧(x≤0→Int.tmod x n≤0):=by
  refine ⟨?_,Int.tmod_lt_of_pos x (by omega),fun h=>Int.tmod_nonneg n h,fun h=> ?_⟩
  ·have:=Int.lt_tmod_of_pos x (show 0<n by omega);omega
  ·have:=Int.tmod_nonneg n (show 0≤ -x by omega);rw [Int.neg_tmod] at this;omega
 have h4: -2000000≤Int.tdiv x n∧Int.tdiv x n≤2000000:=by
  generalize Int.tdiv x n=q at h2;generalize Int.tmod x n=m at h2 h3;rcases Int.lt_trichotomy q 0 with hq | hq | hq
  ·have:q*n≤q*1:=Int.mul_le_mul_of_nonpos_left (by omega) (by omega);omega
  ·omega
  ·have:q*1≤q*n:=Int.mul_le_mul_of_nonneg_left (by omega) (by omega);omega
 have h5:(Int.tdiv x n - 1)*n=x - Int.tmod x n - n:=by rw [Int.sub_mul,Int.one_mul,h2]
 unfold Xp;rw [Zu (n:=Int.tdiv x n) (by omega),Zu (n:=Int.tdiv x n*n) (by omega),Zu (n:=Int.tdiv x n - 1) (by omega),Zu (n:=(Int.tdiv x n - 1)*n) (by omega)];by_cases h:Int.tdiv x n*n>x
 ·rw [Ye h,cond_true];exact ⟨⟨_,rfl⟩,by omega,by omega⟩
 ·rw [Ys h,cond_false];exact ⟨⟨_,rfl⟩,by omega,by omega⟩
theorem z3g {x n:Int} (hn:1≤n∧n≤1000) (hx: -1900000≤x∧x≤1900000):j1q n (upV x n)∧x≤upV x n∧upV x n<x+n:=by unfold upV;rw [Zu (n:=0 - x) (by omega)];obtain ⟨⟨k,hk⟩,h1,h2⟩:=Uh (x:=0 - x) hn (by omega);rw [Zu (n:=0 - Xp (0 - x) n) (by omega)];exact ⟨⟨-k,by rw [Int.neg_mul,←hk];omega⟩,by omega,by omega⟩
def nrR (r:R6):Prop:=(-900000≤r.a∧r.d≤900000)∧(-900000≤r.b∧r.e≤900000)∧ -900000≤r.c∧r.f≤900000
structure Sml (L:List R6):Prop where
 sol:Sol L
 nr: ∀r∈L,nrR r
theorem out1 {n a d t:Int} (hn:1≤n∧n≤1000) (ha: -900000≤a∧a≤900000) (hd: -900000≤d∧d≤900000) (ht: -1000000≤t∧t≤1000000):(Xp a n≤t∧t<upV d n)↔a<Xp t n+n∧Xp t n<d:=by
 obtain ⟨m1,a1,a2⟩:=Uh (x:=a) hn (by omega);obtain ⟨m2,t1,t2⟩:=Uh (x:=t) hn (by omega);obtain ⟨m3,d1,d2⟩:=z3g (x:=d) hn (by omega);constructor
 ·rintro ⟨h1,h2⟩;have:=z2g hn.1 m1 m2 (by omega);refine ⟨by omega,?_⟩;refine Classical.byContradiction fun h=> ?_;have:=z2g hn.1 m3 m2 (by omega);omega
 ·rintro ⟨h1,h2⟩;have k1:=z2g hn.1 m1 m2 (by omega);refine ⟨by omega,?_⟩;refine Classical.byContradiction fun h=> ?_;have:=z2g hn.1 m3 m2 (by omega);omega
theorem Sol.sub {L M:List R6} (h:Sol L) (hs:M.Sublist L):Sol M:=⟨Nat.le_trans hs.length_le h.len,fun r hr=>h.val r (hs.subset hr),h.ap.sublist hs⟩
theorem Sml.sub {L M:List R6} (h:Sml L) (hs:M.Sublist L):Sml M:=⟨h.sol.sub hs,fun r hr=>h.nr r (hs.subset hr)⟩
theorem x0z (lo hi:R6→Int) (L:List R6) (x x':Int):(crS lo hi L x x').Sublist L:=List.filter_sublist
theorem w6n {lo hi a b:Int} (h1: -1000000≤lo∧lo≤1000000) (h2: -1000000≤hi∧hi≤1000000) (h3: -1000000≤a∧a≤1000000) (h4: -1000000≤b∧b≤1000000):spC lo hi a b=ovl lo hi a b:=by have e1:=Qy hi b;have e2:=Ur lo a;unfold spC ovl;rw [Zu (by omega)];have:=Ur (Ju hi b - Wf lo a) 0;omega
theorem fu1_cg {r:R6} (hr:Ut r=true) {B:R6} (hB:Ut B=true):Cg (fu1 r B.a B.d B.b B.e B.c B.f) (ov B r):=by have v:=Xy hr;have w:=Xy hB;unfold fu1 ov;rw [w6n (by omega) (by omega) (by omega) (by omega),w6n (by omega) (by omega) (by omega) (by omega),w6n (by omega) (by omega) (by omega) (by omega),x0f r.a,x0f r.b,x0f r.c];refine ((Cg.mul ?_ (Cg.refl _)).w.mul (Cg.refl _)).w;rw [Int.one_mul];exact Cg.wrap _
theorem u3w {B:R6} (hB:Ut B=true): ∀(L:List R6) (s s':Int),(∀r∈L,Ut r=true)→Cg s s'→Cg (fuF B.a B.d B.b B.e B.c B.f L s) (s' - sm L fun r=>ov B r)
 | [],s,s',_,h=>by rw [y3c,Int.sub_zero];exact h
 | r::L,s,s',hL,h=>by have:=u3w hB L _ _ (fun q hq=>hL q (List.mem_cons_of_mem _ hq)) (h.sub (fu1_cg (hL r (List.mem_cons_self ..)) hB)).w;rw [Um];rw [show s' - (ov B r+sm L fun r=>ov B r)=s' - ov B r - sm L fun r=>ov B r by omega];exact this
theorem u3v {a b c d e f:Int}: ∀(L:List R6) (s:Int),(-9223372036854775808≤s∧s≤9223372036854775807)→ -9223372036854775808≤fuF a b c d e f L s∧fuF a b c d e f L s≤9223372036854775807
 | [],s,h=>h
 | r::L,s,_=>u3v L _ (x4x _)
theorem bx_le {B:R6} (hB:Ut B=true):0≤bxV B∧bxV B≤8000000000000000000:=by have w:=Xy hB;unfold bxV;have h1:(B.d - B.a)*(B.e - B.b)≤2000000*2000000:=Int.mul_le_mul (by omega) (by omega) (by omega) (by omega);have h0:0≤(B.d - B.a)*(B.e - B.b):=Int.mul_nonneg (by omega) (by omega);have h2:(B.d - B.a)*(B.e - B.b)*(B.f - B.c)≤2000000*2000000*2000000:=Int.mul_le_mul h1 (by omega) (by omega) (by omega);exact ⟨Int.mul_nonneg h0 (by omega),h2⟩
theorem j1p {X Y:List R6} (hX:Sol X) (hY:Sol Y):S2 X Y≤sm X bxV:=by obtain ⟨p,hp⟩:=w9f;rw [w5w hp hX,S2_S3 hp X Y hX.near];refine v2y fun x y z=> ?_;have h1:=z5e X x y z;have h2:=x3z Y hY.ap x y z;have:=Int.mul_le_mul_of_nonneg_left h2 h1;omega
theorem x0h {B:R6} (hB:Ut B=true):Sol [B]:=⟨by simp,fun r hr=>by rw [List.mem_singleton.1 hr];exact hB,List.pairwise_singleton _ _⟩
theorem u9c {L:List R6} (hL:Sol L) {B:R6} (hB:Ut B=true):y8n L B.a B.d B.b B.e B.c B.f=true↔ ∀x y z,pin B x y z→inS L x y z:=by
 have w:=Xy hB;have hb:=bx_le hB;have h0:Cg (fu0 B.a B.d B.b B.e B.c B.f) (bxV B):=by unfold fu0 bxV;exact ((Cg.mul (Cg.wrap _) (Cg.wrap _)).w.mul (Cg.wrap _)).w
 have hc:=u3w hB L _ _ hL.val h0;have e2:(sm L fun r=>ov B r)=S2 [B] L:=by unfold S2;rw [Um,y3c,Int.add_zero]
 have hm:=j1p (x0h hB) hL;rw [Um,y3c,Int.add_zero] at hm;have hnn:0≤S2 [B] L:=v2z _ _;have hin:=u3v (a:=B.a) (b:=B.d) (c:=B.b) (d:=B.e) (e:=B.c) (f:=B.f) L (fu0 B.a B.d B.b B.e B.c B.f) (x4x _);rw [e2] at hc;have he:=hc.is hin (by omega);obtain ⟨p,hp⟩:=w9f;have hv:u5c [B]=bxV B:=by rw [w5x hp (x0h hB),←w5w hp (x0h hB),Um,y3c,Int.add_zero]
 have ha:=S2_all (x0h hB) hL;rw [hv] at ha;have hpin: ∀x y z,inS [B] x y z↔pin B x y z:=fun x y z=>⟨fun ⟨r,hr,h⟩=>by rw [List.mem_singleton.1 hr] at h;exact h,fun h=>⟨B,List.mem_singleton_self _,h⟩⟩
 unfold y8n;rw [he,beq_iff_eq];constructor
 ·intro h x y z k;exact ha.1 (by omega) x y z ((hpin x y z).2 k)
 ·intro h;have:=ha.2 fun x y z k=>h x y z ((hpin x y z).1 k);omega
section
variable {lo hi:R6→Int} {n:Int} {L:List R6} (hn:1≤n∧n≤1000) (hb: ∀r∈L,(-900000≤lo r∧lo r≤900000)∧ -900000≤hi r∧hi r≤900000)
theorem z3m (lo hi:R6→Int) (n:Int) (L:List R6):(rnC lo hi n L).Pairwise (· < ·):=by show (Us (rnE lo hi n L)).Pairwise (· < ·);rw [Jj];exact (Wc _).1
theorem y3g {c:Int}:c∈rnC lo hi n L↔ ∃r∈L,c=Xp (lo r) n∨c=upV (lo r) n∨c=Xp (hi r) n∨c=upV (hi r) n:=by
 show c∈Us (rnE lo hi n L)↔_;rw [Jj,(Wc _).2];unfold rnE;rw [List.mem_flatMap];constructor
 ·rintro ⟨r,hr,h⟩;exact ⟨r,hr,by simpa using h⟩
 ·rintro ⟨r,hr,h⟩;exact ⟨r,hr,by simpa using h⟩
theorem y0r {c:List Int} {i:Nat} (h:i<c.length):rd c i∈c:=by rw [Yt h];exact List.getElem_mem h
theorem z2t (hn:1≤n∧n≤1000) (hb: ∀r∈L,(-900000≤lo r∧lo r≤900000)∧ -900000≤hi r∧hi r≤900000) {c:Int} (h:c∈rnC lo hi n L):j1q n c∧ -901000≤c∧c≤901000:=by
 obtain ⟨r,hr,h⟩:=y3g.1 h;obtain ⟨b1,b2⟩:=hb r hr;rcases h with rfl | rfl | rfl | rfl
 ·obtain ⟨m,h1,h2⟩:=Uh (x:=lo r) hn (by omega);exact ⟨m,by omega,by omega⟩
 ·obtain ⟨m,h1,h2⟩:=z3g (x:=lo r) hn (by omega);exact ⟨m,by omega,by omega⟩
 ·obtain ⟨m,h1,h2⟩:=Uh (x:=hi r) hn (by omega);exact ⟨m,by omega,by omega⟩
 ·obtain ⟨m,h1,h2⟩:=z3g (x:=hi r) hn (by omega);exact ⟨m,by omega,by omega⟩
theorem rn_gap {cs:List Int} (hc:cs.Pairwise (· < ·)) {i:Nat} (hi:i+1<cs.length) {c:Int} (h:c∈cs):c≤rd cs i∨rd cs (i+1)≤c:=by
 obtain ⟨j,hj,rfl⟩:=List.getElem_of_mem h;rw [←Yt hj];rcases Nat.lt_or_ge i j with k | k
 ·right;rcases Nat.eq_or_lt_of_le (show i+1≤j from k) with e | e
  ·rw [e];exact Int.le_refl _
  ·exact Int.le_of_lt (z3a hc e hj)
 ·left;rcases Nat.eq_or_lt_of_le k with e | e
  ·rw [e];exact Int.le_refl _
  ·exact Int.le_of_lt (z3a hc e (by omega))
theorem u6r (hn:1≤n∧n≤1000) (hb: ∀r∈L,(-900000≤lo r∧lo r≤900000)∧ -900000≤hi r∧hi r≤900000) {i:Nat} (hi':i+1<(rnC lo hi n L).length) {y:Int} (h1:rd (rnC lo hi n L) i≤y) (h2:y<rd (rnC lo hi n L) (i+1)):
  (rd (rnC lo hi n L) i≤Xp y n∧Xp y n+n≤rd (rnC lo hi n L) (i+1))∧((rd (rnC lo hi n L) i=Xp y n∧rd (rnC lo hi n L) (i+1)=Xp y n+n)∨ ∀r∈L,(lo r≤rd (rnC lo hi n L) i∨rd (rnC lo hi n L) (i+1)≤lo r)∧(hi r≤rd (rnC lo hi n L) i∨rd (rnC lo hi n L) (i+1)≤hi r)):=by
 obtain ⟨m1,a1,a2⟩:=z2t hn hb (y0r (show i<(rnC lo hi n L).length by omega));obtain ⟨m2,b1,b2⟩:=z2t hn hb (y0r hi');obtain ⟨m3,c1,c2⟩:=Uh (x:=y) hn (by omega);have k1:=z2g hn.1 m1 m3 (by omega);have k2:Xp y n+n≤rd (rnC lo hi n L) (i+1):=by refine Classical.byContradiction fun h=> ?_;have:=z2g hn.1 m2 m3 (by omega);omega
 refine ⟨⟨k1,k2⟩,?_⟩;refine Classical.byContradiction fun h=> ?_;rw [not_or] at h;obtain ⟨h3,h4⟩:=h;refine h4 fun r hr=> ?_;have gap:= @rn_gap _ (z3m lo hi n L) i hi';obtain ⟨p1,p2⟩:=hb r hr;have one: ∀e:Int,-900000≤e∧e≤900000→Xp e n∈rnC lo hi n L→upV e n∈rnC lo hi n L→e≤rd (rnC lo hi n L) i∨rd (rnC lo hi n L) (i+1)≤e:=fun e he g1 g2=>by
  refine Classical.byContradiction fun hh=>h3 ?_;obtain ⟨n1,d1,d2⟩:=Uh (x:=e) hn (by omega);obtain ⟨n2,u1,u2⟩:=z3g (x:=e) hn (by omega);have q1:=gap g1;have q2:=gap g2;have n3:j1q n (upV e n - n):=by obtain ⟨k,hk⟩:=n2;exact ⟨k - 1,by rw [Int.sub_mul,Int.one_mul,←hk]⟩
  have q3:=z2g hn.1 n3 n1 (by omega);omega
 exact ⟨one _ p1 (y3g.2 ⟨r,hr,.inl rfl⟩) (y3g.2 ⟨r,hr,.inr (.inl rfl)⟩),one _ p2 (y3g.2 ⟨r,hr,.inr (.inr (.inl rfl))⟩) (y3g.2 ⟨r,hr,.inr (.inr (.inr rfl))⟩)⟩
theorem v4s (hn:1≤n∧n≤1000) (hb: ∀r∈L,(-900000≤lo r∧lo r≤900000)∧ -900000≤hi r∧hi r≤900000) {i:Nat} (hi':i+1<(rnC lo hi n L).length) {y:Int} (h1:rd (rnC lo hi n L) i≤y) (h2:y<rd (rnC lo hi n L) (i+1))
  {Q:Int→Prop} (hQ: ∀y1 y2,(∀r∈L,(lo r≤y1∧y1<hi r)↔(lo r≤y2∧y2<hi r))→(Q y1→Q y2)):(∀t,rd (rnC lo hi n L) i≤t→t<rd (rnC lo hi n L) (i+1)→Q t)↔ ∀t,Xp y n≤t→t<Xp y n+n→Q t:=by
 obtain ⟨⟨k1,k2⟩,k3⟩:=u6r hn hb hi' h1 h2;obtain ⟨m1,a1,a2⟩:=z2t hn hb (y0r (show i<(rnC lo hi n L).length by omega));obtain ⟨m2,b1,b2⟩:=z2t hn hb (y0r hi');obtain ⟨m3,c1,c2⟩:=Uh (x:=y) hn (by omega);constructor
 ·intro h t t1 t2;exact h t (by omega) (by omega)
 ·intro h t t1 t2;rcases k3 with ⟨e1,e2⟩ | k3
  ·exact h t (by omega) (by omega)
  ·refine hQ y t (fun r hr=> ?_) (h y (by omega) (by omega));obtain ⟨q1,q2⟩:=k3 r hr;omega
theorem w8a (hn:1≤n∧n≤1000) (hb: ∀r∈L,(-900000≤lo r∧lo r≤900000)∧ -900000≤hi r∧hi r≤900000) {r:R6} (hr:r∈L) {y:Int} (h1:lo r≤y) (h2:y<hi r): ∃j,j+1<(rnC lo hi n L).length ∧rd (rnC lo hi n L) j≤y∧y<rd (rnC lo hi n L) (j+1):=by
 obtain ⟨p1,p2⟩:=hb r hr;obtain ⟨n1,d1,d2⟩:=Uh (x:=lo r) hn (by omega);obtain ⟨n2,u1,u2⟩:=z3g (x:=hi r) hn (by omega);obtain ⟨i,hi1,e1⟩:=List.getElem_of_mem (y3g.2 ⟨r,hr,.inl rfl⟩:Xp (lo r) n∈rnC lo hi n L);obtain ⟨j,hj1,e2⟩:=List.getElem_of_mem (y3g.2 ⟨r,hr,.inr (.inr (.inr rfl))⟩:upV (hi r) n∈rnC lo hi n L);rw [←Yt hi1] at e1;rw [←Yt hj1] at e2;have h0:rd (rnC lo hi n L) 0≤rd (rnC lo hi n L) i:=by
  rcases Nat.eq_zero_or_pos i with e | e
  ·rw [e];exact Int.le_refl _
  ·exact Int.le_of_lt (z3a (z3m lo hi n L) e hi1)
 obtain ⟨k,q1,q2,q3⟩:=x1c (cuts:=rnC lo hi n L) j hj1 y (by omega) (by omega);exact ⟨k,by omega,q2,q3⟩
end
theorem Sml.ba {L:List R6} (h:Sml L): ∀r∈L,(-900000≤R6.a r∧R6.a r≤900000)∧ -900000≤R6.d r∧R6.d r≤900000:=fun r hr=>by have:=Xy (h.sol.val r hr);obtain ⟨h1,h2,h3⟩:=h.nr r hr;omega
theorem Sml.bb {L:List R6} (h:Sml L): ∀r∈L,(-900000≤R6.b r∧R6.b r≤900000)∧ -900000≤R6.e r∧R6.e r≤900000:=fun r hr=>by have:=Xy (h.sol.val r hr);obtain ⟨h1,h2,h3⟩:=h.nr r hr;omega
theorem Sml.bc {L:List R6} (h:Sml L): ∀r∈L,(-900000≤R6.c r∧R6.c r≤900000)∧ -900000≤R6.f r∧R6.f r≤900000:=fun r hr=>by have:=Xy (h.sol.val r hr);obtain ⟨h1,h2,h3⟩:=h.nr r hr;omega
def u6b {β:Type} (S:Int→Int→List β) (cs:List Int) (x:Int):List β:=
 @dite _ (∃i,i+1<cs.length∧rd cs i=x) (Classical.propDecidable _) (fun h=>S x (rd cs (Classical.choose h+1))) fun _=>[]
theorem x5q {β:Type} {S:Int→Int→List β} {cs:List Int} (hc:cs.Pairwise (· < ·)) {i:Nat} (hi:i+1<cs.length):u6b S cs (rd cs i)=S (rd cs i) (rd cs (i+1)):=by
 have h: ∃j,j+1<cs.length∧rd cs j=rd cs i:=⟨i,hi,rfl⟩
 unfold u6b;rw [dif_pos h];obtain ⟨h1,h2⟩:=Classical.choose_spec h;have e:Classical.choose h=i:=by
  rcases Nat.lt_trichotomy (Classical.choose h) i with k | k | k
  ·have:=z3a hc k (by omega);omega
  ·exact k
  ·have:=z3a hc k (by omega);omega
 rw [e]
theorem v0x {α β:Type} (D:Dim α β) {S:Int→Int→List β} {cs:List Int} (hc:cs.Pairwise (· < ·)): ∀(k i:Nat) (s:Sw α β),i+k<cs.length∨k=0→D.goX S cs k i s=D.goS (u6b S cs) cs k i s
 | 0,i,s,_=>rfl
 | k+1,i,s,h=>by show D.goX S cs k (i+1) (D.oneS (S (rd cs i) (rd cs (i+1))) _ _ s)=D.goS (u6b S cs) cs k (i+1) (D.oneS (u6b S cs (rd cs i)) _ _ s);rw [x5q hc (by omega)];exact v0x D hc k (i+1) _ (by omega)
theorem v0y {α β γ:Type} {D:Dim α β} (hD:D.Fair) (hs: ∀a b,D.same a b=true↔a=b) (M:Sem β γ) {S:Int→Int→List β} {cs:List Int} (hc:cs.Pairwise (· < ·)) (hS: ∀i,i+1<cs.length→M.can (S (rd cs i) (rd cs (i+1)))):
  (D.sem hD M).can (D.goX S cs (cs.length - 1) 0 ⟨[],[],0,0⟩).out ∧ ∀x q,ptL (D.sem hD M).inB (D.goX S cs (cs.length - 1) 0 ⟨[],[],0,0⟩).out (x,q)↔ ∃j,j+1<cs.length∧rd cs j≤x∧x<rd cs (j+1)∧ptL M.inB (S (rd cs j) (rd cs (j+1))) q:=by
 rw [v0x D hc _ _ _ (by omega)];obtain ⟨h1,h2⟩:=Dim.goS_can hD hs M (sec:=u6b S cs) hc (fun x=>by
  unfold u6b;by_cases h: ∃i,i+1<cs.length∧rd cs i=x
  ·rw [dif_pos h];have:=hS _ (Classical.choose_spec h).1;rwa [(Classical.choose_spec h).2] at this
  ·rw [dif_neg h];exact M.nil)
 refine ⟨h1,fun x q=> ?_⟩;rw [h2];constructor
 ·rintro ⟨j,j1,j2,j3,j4⟩;exact ⟨j,j1,j2,j3,by rw [←x5q (S:=S) hc j1];exact j4⟩
 ·rintro ⟨j,j1,j2,j3,j4⟩;exact ⟨j,j1,j2,j3,by rw [x5q (S:=S) hc j1];exact j4⟩
end Go.Am
namespace Go.Am
open Go.Proofs Go.Sort Go.Shelf Go.RowKit Go.Lib
def cel (n y:Int):Int:=y / n*n
theorem Wk {n:Int} (hn:1≤n) (y:Int):j1q n (cel n y)∧cel n y≤y∧y<cel n y+n:=by
 have h1:=Int.mul_ediv_add_emod y n;have h2:=Int.emod_nonneg y (show n≠0 by omega);have h3:=Int.emod_lt_of_pos y (show 0<n by omega);have h4:cel n y=n*(y / n):=by unfold cel;rw [Int.mul_comm]
 exact ⟨⟨_,rfl⟩,by omega,by omega⟩
theorem x8f {n y:Int} (hn:1≤n∧n≤1000) (hy: -2000000≤y∧y≤2000000):Xp y n=cel n y:=by obtain ⟨m1,h1,h2⟩:=Uh hn hy;obtain ⟨m2,h3,h4⟩:=Wk hn.1 y;have:=z2g hn.1 m1 m2 (by omega);have:=z2g hn.1 m2 m1 (by omega);omega
theorem z1g {lo hi:R6→Int} {n:Int} {L:List R6} (hn:1≤n∧n≤1000) (hb: ∀r∈L,(-900000≤lo r∧lo r≤900000)∧ -900000≤hi r∧hi r≤900000) {i:Nat} (hi':i+1<(rnC lo hi n L).length) {y:Int} (h1:rd (rnC lo hi n L) i≤y) (h2:y<rd (rnC lo hi n L) (i+1))
  {Q:Int→Prop} (hQ: ∀y1 y2,(∀r∈L,(lo r≤y1∧y1<hi r)↔(lo r≤y2∧y2<hi r))→(Q y1→Q y2)):(∀t,rd (rnC lo hi n L) i≤t→t<rd (rnC lo hi n L) (i+1)→Q t)↔ ∀t,cel n y≤t→t<cel n y+n→Q t:=by
 obtain ⟨m1,a1,a2⟩:=z2t hn hb (y0r (show i<(rnC lo hi n L).length by omega));obtain ⟨m2,b1,b2⟩:=z2t hn hb (y0r hi');rw [v4s hn hb hi' h1 h2 hQ,x8f hn (by omega)]
theorem y8k {lo hi:R6→Int} {L:List R6} {x x' t u v w:Int} (hp: ∀r:R6,pin r u v w→lo r≤t∧t<hi r) (h1:x≤t) (h2:t<x'):inS (crS lo hi L x x') u v w↔inS L u v w:=by
 constructor
 ·rintro ⟨r,hr,h⟩;exact ⟨r,(x0z lo hi L x x').subset hr,h⟩
 ·rintro ⟨r,hr,h⟩;have:=hp r h;exact ⟨r,List.mem_filter.2 ⟨hr,by rw [decide_eq_true (show lo r<x' by omega),decide_eq_true (show x<hi r by omega)];rfl⟩,h⟩
theorem x3y (L:List R6) (a b e f:Int) (cs:List Int): ∀(k i:Nat) (o:List R2),i+k≤cs.length→v9a L a b e f cs k i o=w1x cs ((List.range cs.length).map fun i=>y8n (crS R6.b R6.e L (rd cs i) (rd cs (i+1))) a b (rd cs i) (rd cs (i+1)) e f) k i o
 | 0,i,o,h=>rfl
 | k+1,i,o,h=>by
  have e1:rd ((List.range cs.length).map fun i=>y8n (crS R6.b R6.e L (rd cs i) (rd cs (i+1))) a b (rd cs i) (rd cs (i+1)) e f) i=y8n (crS R6.b R6.e L (rd cs i) (rd cs (i+1))) a b (rd cs i) (rd cs (i+1)) e f:=by rw [Yt (by simp;omega)];simp
  unfold v9a;rw [x3y L a b e f cs k (i+1) _ (by omega)]
  conv=>rhs;unfold w1x
  rw [e1];rfl
theorem j1b {L:List R6} (h:Sml L) {n:Int} (hn:1≤n∧n≤1000) {a b e f:Int} (hab: -1000000≤a∧a<b∧b≤1000000) (hef: -1000000≤e∧e<f∧f≤1000000):
  Can (z0g L a b e f n)∧ ∀y,pt (z0g L a b e f n) y↔ ∀t,cel n y≤t→t<cel n y+n→ ∀x z,a≤x→x<b→e≤z→z<f→inS L x t z:=by
 have hc:=z3m R6.b R6.e n L;have hb:=h.bb;unfold z0g;rw [x3y _ _ _ _ _ _ _ _ _ (by omega)];obtain ⟨r1,r2⟩:=y2o (rnC R6.b R6.e n L) ((List.range (rnC R6.b R6.e n L).length).map fun i=>y8n (crS R6.b R6.e L (rd (rnC R6.b R6.e n L) i) (rd (rnC R6.b R6.e n L) (i+1))) a b (rd (rnC R6.b R6.e n L) i) (rd (rnC R6.b R6.e n L) (i+1)) e f) hc ((rnC R6.b R6.e n L).length - 1) 0 [] (by omega) .nil (by simp);refine ⟨r1,fun y=> ?_⟩;rw [r2];have full: ∀j,j+1<(rnC R6.b R6.e n L).length →(rd ((List.range (rnC R6.b R6.e n L).length).map fun i=>y8n (crS R6.b R6.e L (rd (rnC R6.b R6.e n L) i) (rd (rnC R6.b R6.e n L) (i+1))) a b (rd (rnC R6.b R6.e n L) i) (rd (rnC R6.b R6.e n L) (i+1)) e f) j=true↔ ∀t,rd (rnC R6.b R6.e n L) j≤t→t<rd (rnC R6.b R6.e n L) (j+1)→ ∀x z,a≤x→x<b→e≤z→z<f→inS L x t z):=fun j hj=>by
  obtain ⟨m1,a1,a2⟩:=z2t hn hb (y0r (show j<(rnC R6.b R6.e n L).length by omega));obtain ⟨m2,b1,b2⟩:=z2t hn hb (y0r hj);have hlt:=z3a hc (Nat.lt_succ_self j) hj;have hv:Ut ⟨a,rd (rnC R6.b R6.e n L) j,e,b,rd (rnC R6.b R6.e n L) (j+1),f⟩=true:=by have s1:=Qy (Ju a (rd (rnC R6.b R6.e n L) j)) e;have s2:=Qy a (rd (rnC R6.b R6.e n L) j);have s3:=Ur (Wf a (rd (rnC R6.b R6.e n L) j)) e;have s4:=Ur a (rd (rnC R6.b R6.e n L) j);have s5:=Qy (Ju b (rd (rnC R6.b R6.e n L) (j+1))) f;have s6:=Qy b (rd (rnC R6.b R6.e n L) (j+1));have s7:=Ur (Wf b (rd (rnC R6.b R6.e n L) (j+1))) f;have s8:=Ur b (rd (rnC R6.b R6.e n L) (j+1));unfold Ut;simp only [Bool.and_eq_true,decide_eq_true_eq];refine ⟨by omega,hlt,by omega,by omega,by omega,by omega,by omega⟩
  have e1:rd ((List.range (rnC R6.b R6.e n L).length).map fun i=>y8n (crS R6.b R6.e L (rd (rnC R6.b R6.e n L) i) (rd (rnC R6.b R6.e n L) (i+1))) a b (rd (rnC R6.b R6.e n L) i) (rd (rnC R6.b R6.e n L) (i+1)) e f) j=y8n (crS R6.b R6.e L (rd (rnC R6.b R6.e n L) j) (rd (rnC R6.b R6.e n L) (j+1))) a b (rd (rnC R6.b R6.e n L) j) (rd (rnC R6.b R6.e n L) (j+1)) e f:=by rw [Yt (by simp;omega)];simp
  rw [e1];rw [show y8n (crS R6.b R6.e L (rd (rnC R6.b R6.e n L) j) (rd (rnC R6.b R6.e n L) (j+1))) a b (rd (rnC R6.b R6.e n L) j) (rd (rnC R6.b R6.e n L) (j+1)) e f=true↔_ from u9c (h.sol.sub (x0z R6.b R6.e L _ _)) hv];constructor
  ·intro k t t1 t2 x z x1 x2 z1 z2;exact (y8k (t:=t) (fun r hr=>hr.2.1) t1 t2).1 (k x t z ⟨⟨x1,x2⟩,⟨t1,t2⟩,z1,z2⟩)
  ·rintro k x t z ⟨⟨x1,x2⟩,⟨t1,t2⟩,z1,z2⟩;exact (y8k (t:=t) (fun r hr=>hr.2.1) t1 t2).2 (k t t1 t2 x z x1 x2 z1 z2)
 have cst: ∀y1 y2,(∀r∈L,(R6.b r≤y1∧y1<R6.e r)↔(R6.b r≤y2∧y2<R6.e r))→((∀x z,a≤x→x<b→e≤z→z<f→inS L x y1 z)→ ∀x z,a≤x→x<b→e≤z→z<f→inS L x y2 z):=fun y1 y2 hh k x z x1 x2 z1 z2=>by obtain ⟨r,hr,p1,p2,p3⟩:=k x z x1 x2 z1 z2;exact ⟨r,hr,p1,(hh r hr).1 p2,p3⟩
 constructor
 ·rintro (⟨s,hs,_⟩ | ⟨j,j1,j2,j3,j4,j5⟩)
  ·cases hs
  ·exact (z1g hn hb (by omega) j4 j5 (Q:=fun t=> ∀x z,a≤x→x<b→e≤z→z<f→inS L x t z) cst).1 ((full j (by omega)).1 j3)
 ·intro k;right;obtain ⟨m,c1,c2⟩:=Wk hn.1 y;obtain ⟨r,hr,p1,p2,p3⟩:=k y c1 c2 a e (Int.le_refl _) hab.2.1 (Int.le_refl _) hef.2.1;obtain ⟨j,j1,j4,j5⟩:=w8a (lo:=R6.b) (hi:=R6.e) hn hb hr p2.1 p2.2;exact ⟨j,Nat.zero_le _,by omega,(full j j1).2 ((z1g hn hb j1 j4 j5 (Q:=fun t=> ∀x z,a≤x→x<b→e≤z→z<f→inS L x t z) cst).2 k),j4,j5⟩
theorem u8i {L:List R6} (h:Sml L) {n:Int} (hn:1≤n∧n≤1000) {a b:Int} (hab: -1000000≤a∧a<b∧b≤1000000):
  Ji.can (z1d L a b n)∧ ∀x y,ptL Ji.inB (z1d L a b n) (x,y)↔ ∀s,cel n x≤s→s<cel n x+n→ ∀t,cel n y≤t→t<cel n y+n→ ∀z,a≤z→z<b→inS L s t z:=by
 have hc:=z3m R6.a R6.d n L;have hb:=h.ba;have one: ∀j,j+1<(rnC R6.a R6.d n L).length →Can (u3i L a b n (rd (rnC R6.a R6.d n L) j) (rd (rnC R6.a R6.d n L) (j+1)))∧ ∀y,pt (u3i L a b n (rd (rnC R6.a R6.d n L) j) (rd (rnC R6.a R6.d n L) (j+1))) y↔ ∀s,rd (rnC R6.a R6.d n L) j≤s→s<rd (rnC R6.a R6.d n L) (j+1)→ ∀t,cel n y≤t→t<cel n y+n→ ∀z,a≤z→z<b→inS L s t z:=fun j hj=>by
  obtain ⟨m1,a1,a2⟩:=z2t hn hb (y0r (show j<(rnC R6.a R6.d n L).length by omega));obtain ⟨m2,b1,b2⟩:=z2t hn hb (y0r hj);have hlt:rd (rnC R6.a R6.d n L) j<rd (rnC R6.a R6.d n L) (j+1):=z3a hc (Nat.lt_succ_self j) hj;obtain ⟨k1,k2⟩:=j1b (h.sub (x0z R6.a R6.d L (rd (rnC R6.a R6.d n L) j) (rd (rnC R6.a R6.d n L) (j+1)))) hn (a:=rd (rnC R6.a R6.d n L) j) (b:=rd (rnC R6.a R6.d n L) (j+1)) (by omega) hab;refine ⟨k1,fun y=>(k2 y).trans ?_⟩;constructor
  ·intro k s s1 s2 t t1 t2 z z1 z2;exact (y8k (t:=s) (fun r hr=>hr.1) s1 s2).1 (k t t1 t2 s z s1 s2 z1 z2)
  ·intro k t t1 t2 s z s1 s2 z1 z2;exact (y8k (t:=s) (fun r hr=>hr.1) s1 s2).2 (k s s1 s2 t t1 t2 z z1 z2)
 obtain ⟨r1,r2⟩:=v0y z9u y3f x1r (S:=u3i L a b n) hc fun j hj=>(one j hj).1;refine ⟨r1,fun x y=> ?_⟩;rw [show ptL Ji.inB (z1d L a b n) (x,y)↔_ from r2 x y];have cst: ∀y1 y2,(∀r∈L,(R6.a r≤y1∧y1<R6.d r)↔(R6.a r≤y2∧y2<R6.d r))→((∀t,cel n y≤t→t<cel n y+n→ ∀z,a≤z→z<b→inS L y1 t z)→ ∀t,cel n y≤t→t<cel n y+n→ ∀z,a≤z→z<b→inS L y2 t z):=fun y1 y2 hh k t t1 t2 z z1 z2=>by obtain ⟨r,hr,p1,p2⟩:=k t t1 t2 z z1 z2;exact ⟨r,hr,(hh r hr).1 p1,p2⟩
 constructor
 ·rintro ⟨j,j1,j2,j3,j4⟩;exact (z1g hn hb j1 j2 j3 (Q:=fun s=> ∀t,cel n y≤t→t<cel n y+n→ ∀z,a≤z→z<b→inS L s t z) cst).1 (((one j j1).2 y).1 j4)
 ·intro k;obtain ⟨m,c1,c2⟩:=Wk hn.1 x;obtain ⟨m',d1,d2⟩:=Wk hn.1 y;obtain ⟨r,hr,p1,p2,p3⟩:=k x c1 c2 y d1 d2 a (Int.le_refl _) hab.2.1;obtain ⟨j,j1,j4,j5⟩:=w8a (lo:=R6.a) (hi:=R6.d) hn hb hr p1.1 p1.2;exact ⟨j,j1,j4,j5,((one j j1).2 y).2 ((z1g hn hb j1 j4 j5 (Q:=fun s=> ∀t,cel n y≤t→t<cel n y+n→ ∀z,a≤z→z<b→inS L s t z) cst).2 k)⟩
theorem u8r {L:List R6} (h:Sml L) {n:Int} (hn:1≤n∧n≤1000):
  z3f.can (v3f L n)∧ ∀x y z,inS (v3f L n) x y z↔ ∀s,cel n x≤s→s<cel n x+n→ ∀t,cel n y≤t→t<cel n y+n→ ∀u,cel n z≤u→u<cel n z+n→inS L s t u:=by
 have hc:=z3m R6.c R6.f n L;have hb:=h.bc;have one: ∀j,j+1<(rnC R6.c R6.f n L).length →Ji.can (w1l L n (rd (rnC R6.c R6.f n L) j) (rd (rnC R6.c R6.f n L) (j+1)))∧ ∀x y,ptL Ji.inB (w1l L n (rd (rnC R6.c R6.f n L) j) (rd (rnC R6.c R6.f n L) (j+1))) (x,y)↔ ∀u,rd (rnC R6.c R6.f n L) j≤u→u<rd (rnC R6.c R6.f n L) (j+1)→ ∀s,cel n x≤s→s<cel n x+n→ ∀t,cel n y≤t→t<cel n y+n→inS L s t u:=fun j hj=>by
  obtain ⟨m1,a1,a2⟩:=z2t hn hb (y0r (show j<(rnC R6.c R6.f n L).length by omega));obtain ⟨m2,b1,b2⟩:=z2t hn hb (y0r hj);have hlt:rd (rnC R6.c R6.f n L) j<rd (rnC R6.c R6.f n L) (j+1):=z3a hc (Nat.lt_succ_self j) hj;obtain ⟨k1,k2⟩:=u8i (h.sub (x0z R6.c R6.f L (rd (rnC R6.c R6.f n L) j) (rd (rnC R6.c R6.f n L) (j+1)))) hn (a:=rd (rnC R6.c R6.f n L) j) (b:=rd (rnC R6.c R6.f n L) (j+1)) (by omega);refine ⟨k1,fun x y=>(k2 x y).trans ?_⟩;constructor
  ·intro k u u1 u2 s s1 s2 t t1 t2;exact (y8k (t:=u) (fun r hr=>hr.2.2) u1 u2).1 (k s s1 s2 t t1 t2 u u1 u2)
  ·intro k s s1 s2 t t1 t2 u u1 u2;exact (y8k (t:=u) (fun r hr=>hr.2.2) u1 u2).2 (k u u1 u2 s s1 s2 t t1 t2)
 obtain ⟨r1,r2⟩:=v0y z4h z6r Ji (S:=w1l L n) hc fun j hj=>(one j hj).1;refine ⟨r1,fun x y z=> ?_⟩;rw [z3y,show ptL z3f.inB (v3f L n) (z,x,y)↔_ from r2 z (x,y)];have cst: ∀y1 y2,(∀r∈L,(R6.c r≤y1∧y1<R6.f r)↔(R6.c r≤y2∧y2<R6.f r))→((∀s,cel n x≤s→s<cel n x+n→ ∀t,cel n y≤t→t<cel n y+n→inS L s t y1)→ ∀s,cel n x≤s→s<cel n x+n→ ∀t,cel n y≤t→t<cel n y+n→inS L s t y2):=fun y1 y2 hh k s s1 s2 t t1 t2=>by obtain ⟨r,hr,p1,p2,p3⟩:=k s s1 s2 t t1 t2;exact ⟨r,hr,p1,p2,(hh r hr).1 p3⟩
 constructor
 ·rintro ⟨j,j1,j2,j3,j4⟩;have k:=(z1g hn hb j1 j2 j3 (Q:=fun u=> ∀s,cel n x≤s→s<cel n x+n→ ∀t,cel n y≤t→t<cel n y+n→inS L s t u) cst).1 (((one j j1).2 x y).1 j4);exact fun s s1 s2 t t1 t2 u u1 u2=>k u u1 u2 s s1 s2 t t1 t2
 ·intro k;obtain ⟨m,c1,c2⟩:=Wk hn.1 x;obtain ⟨m',d1,d2⟩:=Wk hn.1 y;obtain ⟨m'',e1,e2⟩:=Wk hn.1 z;obtain ⟨r,hr,p1,p2,p3⟩:=k x c1 c2 y d1 d2 z e1 e2;obtain ⟨j,j1,j4,j5⟩:=w8a (lo:=R6.c) (hi:=R6.f) hn hb hr p3.1 p3.2;exact ⟨j,j1,j4,j5,((one j j1).2 x y).2 ((z1g hn hb j1 j4 j5 (Q:=fun u=> ∀s,cel n x≤s→s<cel n x+n→ ∀t,cel n y≤t→t<cel n y+n→inS L s t u) cst).2 fun u u1 u2 s s1 s2 t t1 t2=>k s s1 s2 t t1 t2 u u1 u2)⟩
theorem u7t {L:List R6} (h:Sml L) {n:Int} (hn:1≤n∧n≤1000) (x y z:Int):inS (L.map (oB n)) x y z↔ ∃s t u,(cel n x≤s∧s<cel n x+n)∧(cel n y≤t∧t<cel n y+n)∧(cel n z≤u∧u<cel n z+n)∧inS L s t u:=by
 have lo1: ∀a d t:Int,(-900000≤a∧a≤900000)→(-900000≤d∧d≤900000)→a<d→((Xp a n≤t∧t<upV d n)↔ ∃s,(cel n t≤s∧s<cel n t+n)∧a≤s∧s<d):=fun a d t ha hd had=>by
  obtain ⟨m1,a1,a2⟩:=Uh (x:=a) hn (by omega);obtain ⟨m3,d1,d2⟩:=z3g (x:=d) hn (by omega);obtain ⟨m,c1,c2⟩:=Wk hn.1 t;constructor
  ·intro hh;have ht: -1000000≤t∧t≤1000000:=by omega
   have k:=(out1 hn ha hd ht).1 hh;rw [x8f hn (by omega)] at k;by_cases q:a≤cel n t
   ·exact ⟨cel n t,by omega,by omega⟩
   ·exact ⟨a,by omega,by omega⟩
  ·rintro ⟨s,s1,s2,s3⟩;have ht: -1000000≤t∧t≤1000000:=by omega
   refine (out1 hn ha hd ht).2 ?_;rw [x8f hn (by omega)];omega
 constructor
 ·rintro ⟨r,hr,p1,p2,p3⟩;obtain ⟨q,hq,rfl⟩:=List.mem_map.1 hr;have v:=Xy (h.sol.val q hq);obtain ⟨s,s1,s2⟩:=(lo1 q.a q.d x (h.ba q hq).1 (h.ba q hq).2 v.1).1 p1;obtain ⟨t,t1,t2⟩:=(lo1 q.b q.e y (h.bb q hq).1 (h.bb q hq).2 v.2.1).1 p2;obtain ⟨u,u1,u2⟩:=(lo1 q.c q.f z (h.bc q hq).1 (h.bc q hq).2 v.2.2.1).1 p3;exact ⟨s,t,u,s1,t1,u1,q,hq,s2,t2,u2⟩
 ·rintro ⟨s,t,u,s1,t1,u1,q,hq,s2,t2,u2⟩;have v:=Xy (h.sol.val q hq);exact ⟨oB n q,List.mem_map_of_mem hq,(lo1 q.a q.d x (h.ba q hq).1 (h.ba q hq).2 v.1).2 ⟨s,s1,s2⟩,(lo1 q.b q.e y (h.bb q hq).1 (h.bb q hq).2 v.2.1).2 ⟨t,t1,t2⟩,(lo1 q.c q.f z (h.bc q hq).1 (h.bc q hq).2 v.2.2.1).2 ⟨u,u1,u2⟩⟩
end Go.Am
namespace Go.Am
open Go.Proofs
end Go.Am
namespace Go.Am
open Go.Proofs Go.Sort Go.Shelf Go.RowKit Go.Lib
theorem rr_le {p q:List R6} (hp: ∀r∈p,Ut r=true) (hq: ∀r∈q,Ut r=true) (hne:q≠ []) {m:Int} (hm:0≤m):x2b p q≤m↔ ∀x y z,inS p x y z→ ∃c∈q,nrp c m x y z:=by
 rw [y9w];constructor
 ·rintro ⟨_,h⟩ x y z ⟨r,hr,hpt⟩;obtain ⟨c,hc,q⟩:=(y4m hne).1 (h r hr x y z hpt);obtain ⟨v1,v2,v3,v4,v5,v6,v7,v8,v9⟩:=Xy (hp r hr);obtain ⟨p1,p2,p3⟩:=hpt;exact ⟨c,hc,(y4r (z1u (hq c hc)) hm (by omega) (by omega) (by omega)).1 q⟩
 ·intro h;refine ⟨hm,fun r hr x y z hpt=> ?_⟩;obtain ⟨c,hc,q⟩:=h x y z ⟨r,hr,hpt⟩;obtain ⟨v1,v2,v3,v4,v5,v6,v7,v8,v9⟩:=Xy (hp r hr);obtain ⟨p1,p2,p3⟩:=hpt;exact (y4m hne).2 ⟨c,hc,(y4r (z1u (hq c hc)) hm (by omega) (by omega) (by omega)).2 q⟩
theorem w7u {p q:List R6} (hp: ∀r∈p,Ut r=true) (hq: ∀r∈q,Ut r=true) (hne:q≠ []):x2b p q≤0↔ ∀x y z,inS p x y z→inS q x y z:=by
 rw [rr_le hp hq hne (Int.le_refl 0)];have e: ∀c x y z,nrp c 0 x y z↔pin c x y z:=fun c x y z=>by unfold nrp pin;omega
 constructor
 ·intro h x y z k;obtain ⟨c,hc,q⟩:=h x y z k;exact ⟨c,hc,(e c x y z).1 q⟩
 ·intro h x y z k;obtain ⟨c,hc,q⟩:=h x y z k;exact ⟨c,hc,(e c x y z).2 q⟩
theorem y4o {L:List R6} (h:x0u L=true):L.length≤6∧Zf L=0∧ ∀r∈L,Ut r=true:=by simp only [x0u,Bool.and_eq_true,decide_eq_true_eq] at h;have hk:=w7d (eq_of_beq h.2.2);exact ⟨by omega,hk,(Jw hk).2.1⟩
theorem v0h {L:List R6} (h:((L.length:Int) == 0)=false):L≠ []:=fun e=>by subst e;cases h
theorem v8a {L M:List R6} (hL:Zf L=0) (hM:Zf M=0) (lL:L.length≤40) (lM:M.length≤40) (nL:L≠ []) (nM:M≠ []):eDi Zf L M=0:=by have l0:0<L.length:=List.length_pos_iff.2 nL;have l1:0<M.length:=List.length_pos_iff.2 nM;unfold eDi;rw [hL,hM,v2h (show (L.length:Int)≠0 by omega),v2h (show (M.length:Int)≠0 by omega),Ys (by omega),Ys (by omega)];rfl
theorem u8y (x y:Int):Wf x y=Wf y x:=by have:=Ur x y;have:=Ur y x;omega
end Go.Am
namespace Go.Am
open Go.Proofs Go.Sort Go.Shelf Go.RowKit Go.Lib
theorem w5e {a:Int} (h:(a != 0)=false):a=0:=by simpa using h
theorem w0n {L:List R6} {n:Int} (h:Vg L n=0):Zf L=0∧(1≤n∧n≤1000)∧Zr L n=Qi (L.map (oB n))∧Jr (L.map (oB n))=0:=by
 unfold Vg at h;rcases Yv (Zf L != 0) with a | a
 ·rw [a,cond_true] at h;rw [h] at a;cases a
 rw [a,cond_false] at h;rcases Yv (decide (n<1)) with b | b
 ·rw [b] at h;cases h
 rcases Yv (decide (n>1000)) with c | c
 ·rw [b,c] at h;cases h
 rw [b,c,Bool.or_false,cond_false] at h;rcases Yv (L.all (oOk n)) with d | d
 ·rw [d,cond_true] at h;have hb:=of_decide_eq_false b;have hc:=of_decide_eq_false c;refine ⟨w5e a,by omega,?_,h⟩;unfold Zr u7w;rw [w5e a,b,c,d];rfl
 ·rw [d] at h;cases h
theorem u3k {L:List R6} {n:Int} (h:Ud L n=0):Zf L=0∧(1≤n∧n≤1000)∧Xh L n=v3f L n∧(v3f L n).length ≤400:=by
 have h0:=h;unfold Ud at h;rcases Yv (Zf L != 0) with a | a
 ·rw [a,cond_true] at h;rw [h] at a;cases a
 rw [a,cond_false] at h;rcases Yv (decide (n<1)) with b | b
 ·rw [b] at h;cases h
 rcases Yv (decide (n>1000)) with c | c
 ·rw [b,c] at h;cases h
 rw [b,c,Bool.or_false,cond_false] at h;rcases Yv (okX (w1l L n) (rnC R6.c R6.f n L) ((rnC R6.c R6.f n L).length - 1) 0) with d | d
 ·rw [d,cond_true] at h;have hb:=of_decide_eq_false b;have hc:=of_decide_eq_false c;refine ⟨w5e a,by omega,?_,y5c h⟩;unfold Xh x4v;rw [h0];rfl
 ·rw [d] at h;cases h
def tou (L:List R6) (n x y z:Int):Prop:= ∃s t u,(cel n x≤s∧s<cel n x+n)∧(cel n y≤t∧t<cel n y+n)∧(cel n z≤u∧u<cel n z+n)∧inS L s t u
def wit (L:List R6) (n x y z:Int):Prop:= ∀s,cel n x≤s→s<cel n x+n→ ∀t,cel n y≤t→t<cel n y+n→ ∀u,cel n z≤u→u<cel n z+n→inS L s t u
theorem u7s {L:List R6} {n:Int} (h:Vg L n=0) (hr: ∀r∈L,nrR r):z3f.can (Zr L n)∧(Zr L n).length ≤400∧ ∀x y z,inS (Zr L n) x y z↔tou L n x y z:=by obtain ⟨h1,h2,h3,h4⟩:=w0n h;obtain ⟨k1,k2⟩:=w6t h4;rw [h3];exact ⟨k1,by rw [x5o h4];exact (x9s h4).2.2.2,fun x y z=>(k2 x y z).trans (u7t ⟨Sol.of h1,hr⟩ h2 x y z)⟩
theorem u8o {L:List R6} {n:Int} (h:Ud L n=0) (hr: ∀r∈L,nrR r):z3f.can (Xh L n)∧(Xh L n).length ≤400∧ ∀x y z,inS (Xh L n) x y z↔wit L n x y z:=by obtain ⟨h1,h2,h3,h4⟩:=u3k h;rw [h3];obtain ⟨k1,k2⟩:=u8r ⟨Sol.of h1,hr⟩ h2;exact ⟨k1,h4,k2⟩
theorem x6y {L:List R6} (h:x0u L=true): ∀r∈L,(-12≤r.a∧r.d≤12)∧(-12≤r.b∧r.e≤12)∧ -12≤r.c∧r.f≤12:=fun r hr=>by have hl:=(y4o h).1;simp only [x0u,Bool.and_eq_true] at h;have hn:=h.2.1;unfold x6x at hn;rw [Ys (by omega),cond_false,Bool.and_eq_true] at hn;have q:=List.all_eq_true.1 hn.1 r hr;unfold v6b at q;simp only [Bool.and_eq_true,Bool.not_eq_true',decide_eq_false_iff_not] at q;have s1:=Qy (Ju r.a r.b) r.c;have s2:=Qy r.a r.b;have s3:=Ur (Wf r.d r.e) r.f;have s4:=Ur r.d r.e;omega
theorem u3z {L:List R6} (h:x0u L=true): ∀r∈L,nrR r:=fun r hr=>by have:=x6y h r hr;unfold nrR;omega
theorem v1h {L:List R6} (h:x0u L=true) {x y z:Int} (k:inS L x y z):(-12≤x∧x<12)∧(-12≤y∧y<12)∧ -12≤z∧z<12:=by obtain ⟨r,hr,p1,p2,p3⟩:=k;have:=x6y h r hr;omega
end Go.Am
namespace Go.Am
section
variable {P:Program} {w:World} {base:Nat}
end
end Go.Am
namespace Go.Am
open Go.Proofs Go.Sort Go.Shelf Go.RowKit Go.Lib
theorem x8v (n:Nat):y9c n=0∨y9c n=4:=by
 unfold y9c;cases decide ((n:Int)>400)
 ·exact .inl rfl
 ·exact .inr rfl
theorem slm_04 {M:List R6} (hl:M.length≤400) (hv: ∀r∈M,Ut r=true):Jr M=0∨Jr M=4:=by
 have one: ∀x,Yn (D6.inn M x)=0∨Yn (D6.inn M x)=4:=fun x=>by have h1:=D6.inn_length M x;unfold Yn;rw [decide_eq_false (by omega),List.all_eq_true.2 (z9l hv x),cond_false,cond_true];exact x8v _
 have all: ∀k i,eF M k i=0∨eF M k i=4:=fun k=>by
  induction k with
  | zero=>exact fun _=>.inl rfl
  | succ k ih=>
   intro i;unfold eF;cases w5s M (rd (D6.cuts M) i)
   ·exact ih (i+1)
   ·exact one _
 unfold Jr;rw [decide_eq_false (by omega),List.all_eq_true.2 hv,cond_false,cond_true];cases okF M ((D6.cuts M).length - 1) 0
 ·exact all _ _
 ·exact x8v _
theorem u2c {L:List R6} (hf:x0u L=true) {n:Int} (hn:1≤n∧n≤1000):Vg L n=0∨Vg L n=4:=by
 obtain ⟨f1,f2,f3⟩:=y4o hf;have ob: ∀r∈L,(-100000≤(oB n r).a ∧(oB n r).d ≤100000∧(oB n r).a <(oB n r).d)∧(-100000≤(oB n r).b ∧(oB n r).e ≤100000∧(oB n r).b <(oB n r).e)∧ -100000≤(oB n r).c ∧(oB n r).f ≤100000∧(oB n r).c <(oB n r).f :=fun r hr=>by
  have h1:=x6y hf r hr;obtain ⟨v1,v2,v3,_⟩:=Xy (f3 r hr);have one: ∀a d:Int,-12≤a→d≤12→a<d→ -100000≤Xp a n∧upV d n≤100000∧Xp a n<upV d n:=fun a d h1 h2 h3=>by obtain ⟨_,q1,q2⟩:=Uh (x:=a) hn (by omega);obtain ⟨_,q3,q4⟩:=z3g (x:=d) hn (by omega);omega
  exact ⟨one _ _ h1.1.1 h1.1.2 v1,one _ _ h1.2.1.1 h1.2.1.2 v2,one _ _ h1.2.2.1 h1.2.2.2 v3⟩
 have ho:L.all (oOk n)=true:=List.all_eq_true.2 fun r hr=>by obtain ⟨h1,h2,h3⟩:=ob r hr;simp only [oB] at h1 h2 h3;have s1:=Qy (Ju (Xp r.a n) (Xp r.b n)) (Xp r.c n);have s2:=Qy (Xp r.a n) (Xp r.b n);have s3:=Ur (Wf (upV r.d n) (upV r.e n)) (upV r.f n);have s4:=Ur (upV r.d n) (upV r.e n);unfold oOk;rw [decide_eq_false (by omega),decide_eq_false (by omega)];rfl
 unfold Vg;rw [f2,decide_eq_false (by omega),decide_eq_false (by omega),ho];refine slm_04 (by rw [List.length_map];omega) fun q hq=> ?_;obtain ⟨r,hr,rfl⟩:=List.mem_map.1 hq;obtain ⟨h1,h2,h3⟩:=ob r hr;have s1:=Qy (Ju (oB n r).a (oB n r).b) (oB n r).c;have s2:=Qy (oB n r).a (oB n r).b;have s3:=Ur (Wf (oB n r).a (oB n r).b) (oB n r).c;have s4:=Ur (oB n r).a (oB n r).b;have s5:=Qy (Ju (oB n r).d (oB n r).e) (oB n r).f;have s6:=Qy (oB n r).d (oB n r).e;have s7:=Ur (Wf (oB n r).d (oB n r).e) (oB n r).f;have s8:=Ur (oB n r).d (oB n r).e;unfold Ut;simp only [Bool.and_eq_true,decide_eq_true_eq];refine ⟨by omega,by omega,by omega,by omega,by omega,by omega,by omega⟩
theorem u3s {L:List R6} (hf:x0u L=true) {n:Int} (hn:1≤n∧n≤1000):Ud L n=0∨Ud L n=4:=by
 unfold Ud;rw [(y4o hf).2.1,decide_eq_false (by omega),decide_eq_false (by omega)];cases okX (w1l L n) (rnC R6.c R6.f n L) ((rnC R6.c R6.f n L).length - 1) 0
 ·exact .inr rfl
 ·exact x8v _
end Go.Am
namespace Go.Am
open Go.Proofs Go.Sort Go.Shelf Go.RowKit Go.Lib
theorem x3r (E:Int→Int) (cs:List Int): ∀(k i:Nat),y4q E cs k i=0→ ∀j,i≤j→j<i+k→E (rd cs j)=0
 | 0,i,_,j,h1,h2=>by omega
 | k+1,i,h,j,h1,h2=>by
  change (bif E (rd cs i) != 0 then E (rd cs i) else y4q E cs k (i+1))=0 at h;cases g:(E (rd cs i) != 0) with
  | true=>rw [g,cond_true] at h;rw [h] at g;cases g
  | false=>
   rw [g,cond_false] at h;rcases Nat.eq_or_lt_of_le h1 with e | e
   ·rw [←e];simpa using g
   ·exact x3r E cs k (i+1) h j e (by omega)
theorem Dim.goS_congr {α β:Type} (D:Dim α β) (f g:Int→List β) (cs:List Int): ∀(k i:Nat) (s:Sw α β),(∀j,i≤j→j<i+k→f (rd cs j)=g (rd cs j))→D.goS f cs k i s=D.goS g cs k i s
 | 0,i,s,_=>rfl
 | k+1,i,s,h=>by show D.goS f cs k (i+1) (D.oneS (f (rd cs i)) _ _ s)=D.goS g cs k (i+1) (D.oneS (g (rd cs i)) _ _ s);rw [h i (Nat.le_refl _) (by omega)];exact goS_congr D f g cs k (i+1) _ fun j h1 h2=>h j (by omega) (by omega)
theorem w8n {l:List R4} (h:y0a l=0): ∀r∈l,Kv r=true:=by
 unfold y0a at h;cases g1:decide (400<l.length) with
 | true=>rw [g1] at h;cases h
 | false=>
  cases g2:l.all Kv with
  | false=>rw [g1,g2] at h;cases h
  | true=>exact List.all_eq_true.1 g2
theorem w8i {l:List R4} (h:Yn l=0):l.length≤400∧(∀r∈l,Kv r=true)∧Zm l=D4.out l:=by
 unfold Yn at h;cases g1:decide (400<l.length) with
 | true=>rw [g1] at h;cases h
 | false=>
  cases g2:l.all Kv with
  | false=>rw [g1,g2] at h;cases h
  | true=>
   rw [g1,g2,cond_false,cond_true] at h;have hl:l.length≤400:=by have:=of_decide_eq_false g1;omega
   refine ⟨hl,List.all_eq_true.1 g2,?_⟩;have h2:(D4.out l).length ≤400:=x1d h;exact (z7b (List.all_eq_true.1 g2) hl h2).1
instance ptDec6 (l:List R6) (p:Int×Int×Int):Decidable (ptL z3f.inB l p):=Classical.propDecidable _
theorem w7c {q:Op} {a b:List R6} {x:Int} (h:slA q a b x=0):Ji.can (slS q a b x)∧ ∀p,ptL Ji.inB (slS q a b x) p↔opB q.k (decide (ptL z3f.inB a (x,p))) (decide (ptL z3f.inB b (x,p)))=true:=by
 obtain ⟨h1,h2,h3⟩:=y9p h;obtain ⟨c1,c2,_⟩:=w0g h3;obtain ⟨k1,k2,_⟩:=w8o q.k (w8n c1) (w8n c2);refine ⟨k1,fun p=> ?_⟩;have e: ∀l:List R6,Yn (D6.inn l x)=0→decide (ptL Ji.inB (Zm (D6.inn l x)) p)=decide (ptL z3f.inB l (x,p)):=fun l hl=>by
  obtain ⟨m1,m2,m3⟩:=w8i hl;have:ptL Ji.inB (Zm (D6.inn l x)) p↔ptL z3f.inB l (x,p):=by rw [m3,(z5y m2 m1).2 p];exact Dim.pt_inn (D:=D6) Ji.inB l x p
  exact decide_eq_decide.2 this
 rw [show ptL Ji.inB (slS q a b x) p↔_ from k2 p,e a h1,e b h2]
theorem u5z {q:Op} {a b:List R6} (h:y4q (slA q a b) (D6.cuts (a++b)) ((D6.cuts (a++b)).length - 1) 0=0):z3f.can (slJ q a b)∧ ∀p,ptL z3f.inB (slJ q a b) p↔opB q.k (decide (ptL z3f.inB a p)) (decide (ptL z3f.inB b p))=true:=by
 have hf:=x3r _ _ _ _ h;have hc:(D6.cuts (a++b)).Pairwise (· < ·):=by show (Us (D6.ends (a++b))).Pairwise (· < ·);rw [Jj];exact (Wc _).1
 have eS:slJ q a b=(D6.goS (fun x=>bif slA q a b x != 0 then [] else slS q a b x) (D6.cuts (a++b)) ((D6.cuts (a++b)).length - 1) 0 ⟨[],[],0,0⟩).out :=by unfold slJ;rw [D6.goS_congr (slS q a b) (fun x=>bif slA q a b x != 0 then [] else slS q a b x)];intro j h1 h2;show _=bif slA q a b _ != 0 then _ else _;rw [hf j h1 h2];rfl
 have hs: ∀x,Ji.can (bif slA q a b x != 0 then [] else slS q a b x):=fun x=>by
  cases g:(slA q a b x != 0) with
  | true=>exact Ji.nil
  | false=>exact (w7c (by simpa using g)).1
 obtain ⟨h1,h2⟩:=Dim.goS_can z4h z6r Ji (cs:=D6.cuts (a++b)) hc hs;rw [eS];refine ⟨h1,fun ⟨x,p⟩=> ?_⟩;rw [show ptL z3f.inB _ (x,p)↔_ from h2 x p];have ia: ∀j,j+1<(D6.cuts (a++b)).length →rd (D6.cuts (a++b)) j≤x→x<rd (D6.cuts (a++b)) (j+1)→(ptL Ji.inB (bif slA q a b (rd (D6.cuts (a++b)) j) != 0 then [] else slS q a b (rd (D6.cuts (a++b)) j)) p↔opB q.k (decide (ptL z3f.inB a (x,p))) (decide (ptL z3f.inB b (x,p)))=true):=fun j j1 j2 j3=>by
  have z:=hf j (Nat.zero_le _) (by omega);have e: ∀l:List R6,(∀r∈l,r∈a++b)→decide (ptL z3f.inB l (rd (D6.cuts (a++b)) j,p))=decide (ptL z3f.inB l (x,p)):=fun l hl=>by
   have:ptL z3f.inB l (rd (D6.cuts (a++b)) j,p)↔ptL z3f.inB l (x,p):=by rw [show ptL z3f.inB l (rd (D6.cuts (a++b)) j,p)↔_ from (Dim.pt_inn (D:=D6) Ji.inB l _ p).symm,Dim.inn_slab (a++b) l hl j1 j2 j3];exact Dim.pt_inn (D:=D6) Ji.inB l x p
   exact decide_eq_decide.2 this
  rw [z,show ((0:Int) != 0)=false from rfl,cond_false,(w7c z).2,e a fun r hr=>List.mem_append.2 (.inl hr),e b fun r hr=>List.mem_append.2 (.inr hr)]
 constructor
 ·rintro ⟨j,j1,j2,j3,j4⟩;exact (ia j j1 j2 j3).1 j4
 ·intro hp;refine Classical.byContradiction fun hn=> ?_;have hx: ∀j,j+1<(D6.cuts (a++b)).length → ¬(rd (D6.cuts (a++b)) j≤x∧x<rd (D6.cuts (a++b)) (j+1)):=fun j j1 j2=>hn ⟨j,j1,j2.1,j2.2,(ia j j1 j2.1 j2.2).2 hp⟩;have e: ∀l:List R6,(∀r∈l,r∈a++b)→decide (ptL z3f.inB l (x,p))=false:=fun l hl=>decide_eq_false fun g=>by have g:=(Dim.pt_inn (D:=D6) Ji.inB l x p).2 g;rw [Dim.inn_out (a++b) l hl hx] at g;exact y3o _ _ g
  rw [e a fun r hr=>List.mem_append.2 (.inl hr),e b fun r hr=>List.mem_append.2 (.inr hr),u2d] at hp;cases hp
end Go.Am
namespace Go.Am
open Go.Proofs Go.Sort Go.Shelf Go.RowKit Go.Lib
namespace Dim
variable {α β:Type} {D:Dim α β}
theorem u8q (hD:D.Fair) (s:List β) (a b x:Int):D.inn (s.map (D.put a b)) x=if a≤x∧x<b then s else []:=by
 unfold inn;have e:(s.map (D.put a b)).filter (fun r=>decide (D.lo r≤x)&&decide (x<D.hi r))=if a≤x∧x<b then s.map (D.put a b) else []:=by
  split
  ·rename_i h;refine List.filter_eq_self.2 fun r hr=> ?_;obtain ⟨c,_,rfl⟩:=List.mem_map.1 hr;rw [hD.lo_put,hD.hi_put,decide_eq_true h.1,decide_eq_true h.2];rfl
  ·rename_i h;refine List.filter_eq_nil_iff.2 fun r hr hq=>h ?_;obtain ⟨c,_,rfl⟩:=List.mem_map.1 hr;rw [hD.lo_put,hD.hi_put,Bool.and_eq_true] at hq;exact ⟨of_decide_eq_true hq.1,of_decide_eq_true hq.2⟩
 rw [e];split
 ·rw [List.map_map];exact (List.map_congr_left fun c _=>hD.pr_put a b c).trans (List.map_id _)
 ·rfl
theorem inn_can (hD:D.Fair) {γ:Type} (M:Sem β γ) (x:Int): ∀G:List (z1b β),z3e M G→M.can (D.inn (D.flat G) x)
 | [],_=>M.nil
 | g::r,h=>by
  rw [show D.flat (g::r)=g.s.map (D.put g.a g.b)++D.flat r from rfl,D.inn_append,u8q hD];split
  ·rename_i hx;have e:D.inn (D.flat r) x=[]:=by unfold inn;rw [List.map_eq_nil_iff,List.filter_eq_nil_iff];intro a ha hq;obtain ⟨k,hk,ha⟩:=List.mem_flatMap.1 ha;obtain ⟨c,_,rfl⟩:=List.mem_map.1 ha;rw [hD.lo_put,Bool.and_eq_true] at hq;have h1:=of_decide_eq_true hq.1;have:=h.later k hk;omega
   rw [e,List.append_nil];exact h.head.2.1
  ·rw [List.nil_append];exact inn_can hD M x r h.tail
end Dim
theorem x9v {L:List R6} (hl:L.length≤400) (hv: ∀r∈L,Ut r=true) (hc:z3f.can L):Zf L=0:=by
 have hi: ∀z,D4.out (D6.inn L z)=D6.inn L z:=fun z=>by obtain ⟨h1,h2⟩:=z5y (z9l hv z) (Nat.le_trans (D6.inn_length L z) hl);obtain ⟨G,hG,e⟩:=hc;exact Ji.uniq _ _ h1 (by rw [e];exact Dim.inn_can z4h Ji z G hG) h2
 have hs:Secs L:=fun z=>by rw [hi z];exact Nat.le_trans (D6.inn_length L z) hl
 obtain ⟨h1,h2⟩:=u5r hv hl hs;have e:=z3f.uniq _ _ h1 hc h2;have ok: ∀k i,okF L k i=true:=fun k=>by
  induction k with
  | zero=>intro i;rfl
  | succ k ih=>intro i;show (bif Yn (D6.inn L (rd (D6.cuts L) i)) != 0 then false else okF L k (i+1))=true;rw [(z7b (z9l hv _) (Nat.le_trans (D6.inn_length L _) hl) (hs _)).2];exact ih (i+1)
 unfold Zf;rw [decide_eq_false (by omega),List.all_eq_true.2 hv,ok,e,decide_eq_false (by omega),show Kp L L=true from decide_eq_true rfl];rfl
theorem v2d {L:List R6} (hc:z3f.can L) (hb: ∀x y z,inS L x y z→(-1000000≤x∧x<1000000)∧(-1000000≤y∧y<1000000)∧(-1000000≤z∧z<1000000)): ∀r∈L,Ut r=true:=fun r hr=>by
 have hp:r.a<r.d∧r.b<r.e∧r.c<r.f:=by obtain ⟨G,hG,e⟩:=hc;rw [e] at hr;obtain ⟨g,hg,hr⟩:=List.mem_flatMap.1 hr;obtain ⟨b,hb,rfl⟩:=List.mem_map.1 hr;obtain ⟨h1,⟨H,hH,e2⟩,_⟩:=hG.all g hg;rw [e2] at hb;obtain ⟨k,hk,hb⟩:=List.mem_flatMap.1 hb;obtain ⟨c,hc,rfl⟩:=List.mem_map.1 hb;obtain ⟨h2,h3,_⟩:=hH.all k hk;exact ⟨h2,Can.pos h3 c hc,h1⟩
 have h1:=hb r.a r.b r.c ⟨r,hr,by omega,by omega,by omega⟩;have h2:=hb (r.d - 1) (r.e - 1) (r.f - 1) ⟨r,hr,by omega,by omega,by omega⟩;rw [x9l];simp only [x9m,Bool.and_eq_true,decide_eq_true_eq];omega
end Go.Am
namespace Go.Am
open Go.Proofs Go.Sort Go.Shelf Go.RowKit Go.Lib
theorem x7y {E:Int→Int} {cs:List Int} (h: ∀x,E x=0): ∀k i,y4q E cs k i=0
 | 0,i=>rfl
 | k+1,i=>by show (bif E (rd cs i) != 0 then E (rd cs i) else y4q E cs k (i+1))=0;rw [h];exact x7y h k (i+1)
theorem opB2 {a b:Bool} (h:a=true→b=true): ¬opB 2 a b=true:=fun k=>by
 cases a <;> cases b
 ·cases k
 ·cases k
 ·cases h rfl
 ·cases k
theorem spN {a b:List R2} (ha:y5u a=0) (hb:y5u b=0) (h: ∀y,pt a y→pt b y):spE 2 a b=0:=by obtain ⟨a1,a2,a3⟩:=(z6q a).1 ha;obtain ⟨b1,b2,b3⟩:=(z6q b).1 hb;obtain ⟨c1,c2⟩:=x5l 2 a2 b2;have e:spJ 2 a b=[]:=z1k x1r c1 fun y hy=>opB2 (fun q=>decide_eq_true (h y (of_decide_eq_true q))) ((c2 y).1 hy);unfold spE;rw [ha,hb,e];rfl
theorem rgN {a b:List R4} (la:a.length≤400) (lb:b.length≤400) (va: ∀r∈a,Kv r=true) (vb: ∀r∈b,Kv r=true) (ca:Ji.can a) (cb:Ji.can b) (h: ∀p,ptL Ji.inB a p→ptL Ji.inB b p):rgE .d a b=0:=by
 have ck: ∀l:List R4,l.length≤400→(∀r∈l,Kv r=true)→Ji.can l→y0a l=0:=fun l hl hv hc=>by
  obtain ⟨h1,h2⟩:=z5y hv hl;have e:D4.out l=l:=Ji.uniq _ _ h1 hc h2;have m1:z0t l=0:=by show y9c (D4.out l).length =0;rw [e];unfold y9c;rw [decide_eq_false (by omega)];rfl
  have m0:Wx l=l:=by unfold Wx x4v;rw [show u2y l=0 from m1,e];rfl
  unfold y0a rgcF;rw [decide_eq_false (by omega),List.all_eq_true.2 hv,m1,m0,show Vw l l=true from decide_eq_true rfl];rfl
 have sc: ∀(l:List R4) (x:Int),l.length≤400→(∀r∈l,Kv r=true)→Ji.can l→y5u (D4.inn l x)=0:=fun l x hl hv hc=>by refine (z6q _).2 ⟨Nat.le_trans (D4.inn_length l x) hl,z4y hv x,?_⟩;obtain ⟨G,hG,e⟩:=hc;rw [e];exact Dim.inn_can z9u x1r x G hG
 have hz: ∀x,rgA .d a b x=0:=fun x=>spN (sc a x la va ca) (sc b x lb vb cb) fun y hy=>(x0d b x y).2 (h _ ((x0d a x y).1 hy));obtain ⟨j1,j2,_⟩:=w8o 2 va vb;have e:rgJ 2 a b=[]:=z1k Ji j1 fun p hp=>opB2 (fun q=>decide_eq_true (h p (of_decide_eq_true q))) ((j2 p).1 hp);unfold rgE;rw [ck a la va ca,ck b lb vb cb,x7y hz];show eJ 0 (rgJ 2 a b).length =0;rw [e];rfl
theorem slN {a b:List R6} (ha:Zf a=0) (hb:Zf b=0) (h: ∀x y z,inS a x y z→inS b x y z):v4c .d a b=0∧w2t .d a b=[]:=by
 have sec: ∀l:List R6,Zf l=0→ ∀x,(D6.inn l x).length ≤400∧(∀r∈D6.inn l x,Kv r=true)∧Ji.can (D6.inn l x)∧Yn (D6.inn l x)=0∧Zm (D6.inn l x)=D6.inn l x:=fun l hl x=>by
  have s:=Sol.of hl;have v:=z9l s.val x;have n:=Nat.le_trans (D6.inn_length l x) s.len;have c:Ji.can (D6.inn l x):=by obtain ⟨G,hG,e⟩:=w7f hl;rw [e];exact Dim.inn_can z4h Ji x G hG
  obtain ⟨h1,h2⟩:=z5y v n;have e:D4.out (D6.inn l x)=D6.inn l x:=Ji.uniq _ _ h1 c h2;obtain ⟨r0,r1⟩:=z7b v n (by rw [e];exact n);exact ⟨n,v,c,r1,r0.trans e⟩
 have hz: ∀x,slA .d a b x=0:=fun x=>by obtain ⟨a1,a2,a3,a4,a5⟩:=sec a ha x;obtain ⟨b1,b2,b3,b4,b5⟩:=sec b hb x;unfold slA;rw [a4,b4,a5,b5];exact rgN a1 b1 a2 b2 a3 b3 fun ⟨u,v⟩ hp=>(Dim.pt_inn (D:=D6) Ji.inB b x (u,v)).2 ((z3y b u v x).1 (h u v x ((z3y a u v x).2 ((Dim.pt_inn (D:=D6) Ji.inB a x (u,v)).1 hp))))
 have hf:=x7y (cs:=D6.cuts (a++b)) hz ((D6.cuts (a++b)).length - 1) 0;obtain ⟨j1,j2⟩:=u5z hf;have e:slJ .d a b=[]:=z1k z3f j1 fun ⟨z,x,y⟩ hp=>opB2 (fun q=>decide_eq_true ((z3y b x y z).1 (h x y z ((z3y a x y z).2 (of_decide_eq_true q))))) ((j2 (z,x,y)).1 hp);have e1:slE .d a b=0:=by unfold slE;rw [ha,hb,hf,e];rfl
 refine ⟨e1,?_⟩;unfold w2t;rw [e1,e];rfl
end Go.Am
namespace Go.Am
open Go.Proofs Go.Sort Go.Shelf Go.RowKit Go.Lib
theorem v8i {L M:List R6} (kL:Zf L=0) (kM:Zf M=0) (lL:L.length≤40) (lM:M.length≤40) (nL:L≠ []) (nM:M≠ []):Kz L M=0∧Je L M=Wf (x2b L M) (x2b M L):=by have z:=v8a kL kM lL lM nL nM;refine ⟨z,?_⟩;unfold Je;rw [z,u1z (Jw kL).2.1 (Jw kM).2.1 (.inr nM),u1z (Jw kM).2.1 (Jw kL).2.1 (.inr nL)];rfl
theorem dd_inv {L M:List R6} (h:Kz L M=0):Zf L=0∧Zf M=0∧L.length≤40∧M.length≤40∧L≠ []∧M≠ []:=by
 unfold Kz eDi at h;rcases Yv (Zf L != 0) with a | a
 ·rw [a,cond_true] at h;rw [h] at a;cases a
 rcases Yv (Zf M != 0) with b | b
 ·rw [a,b,cond_false,cond_true] at h;rw [h] at b;cases b
 rcases Yv ((L.length:Int) == 0) with c | c
 ·rw [a,b,c] at h;cases h
 rcases Yv ((M.length:Int) == 0) with d | d
 ·rw [a,b,c,d] at h;cases h
 rcases Yv (decide ((L.length:Int)>40)) with e | e
 ·rw [a,b,c,d,e] at h;cases h
 rcases Yv (decide ((M.length:Int)>40)) with f | f
 ·rw [a,b,c,d,e,f] at h;cases h
 have e:=of_decide_eq_false e;have f:=of_decide_eq_false f;exact ⟨w5e a,w5e b,by omega,by omega,v0h c,v0h d⟩
theorem v3m {L:List R6} (hf:x0u L=true) {n:Int} (hn:1≤n∧n≤1000) {x y z:Int} (h:tou L n x y z):(-1012≤x∧x<1012)∧(-1012≤y∧y<1012)∧ -1012≤z∧z<1012:=by obtain ⟨s,t,u,hs,ht,hu,q⟩:=h;have:=v1h hf q;obtain ⟨_,e1,e2⟩:=Wk hn.1 x;obtain ⟨_,e3,e4⟩:=Wk hn.1 y;obtain ⟨_,e5,e6⟩:=Wk hn.1 z;omega
theorem y9k {L:List R6} {n:Int} (hn:1≤n) {x y z:Int} (h:inS L x y z):tou L n x y z:=by obtain ⟨_,e1,e2⟩:=Wk hn x;obtain ⟨_,e3,e4⟩:=Wk hn y;obtain ⟨_,e5,e6⟩:=Wk hn z;exact ⟨x,y,z,⟨e1,e2⟩,⟨e3,e4⟩,⟨e5,e6⟩,h⟩
theorem x9k {L:List R6} {n:Int} (hn:1≤n) {x y z:Int} (h:wit L n x y z):inS L x y z:=by obtain ⟨_,e1,e2⟩:=Wk hn x;obtain ⟨_,e3,e4⟩:=Wk hn y;obtain ⟨_,e5,e6⟩:=Wk hn z;exact h x e1 e2 y e3 e4 z e5 e6
theorem w9l {L:List R6} (hf:x0u L=true) {n:Int} (h:Vg L n=0):Zf (Zr L n)=0∧ ∀x y z,inS (Zr L n) x y z↔tou L n x y z:=by obtain ⟨a1,a2,a3⟩:=u7s h (u3z hf);have hn:=(w0n h).2.1;exact ⟨x9v a2 (v2d a1 fun x y z k=>by have:=v3m hf hn ((a3 x y z).1 k);omega) a1,a3⟩
theorem u8s {L:List R6} (hf:x0u L=true) {n:Int} (h:Ud L n=0):Zf (Xh L n)=0∧ ∀x y z,inS (Xh L n) x y z↔wit L n x y z:=by obtain ⟨a1,a2,a3⟩:=u8o h (u3z hf);have hn:=(u3k h).2.1;exact ⟨x9v a2 (v2d a1 fun x y z k=>by have:=v1h hf (x9k hn.1 ((a3 x y z).1 k));omega) a1,a3⟩
theorem ne_pt {L:List R6} (v: ∀r∈L,Ut r=true) (ne:L≠ []): ∃x y z,inS L x y z:=by obtain ⟨r,hr⟩:=List.exists_mem_of_ne_nil L ne;obtain ⟨v1,v2,v3,_⟩:=Xy (v r hr);exact ⟨r.a,r.b,r.c,r,hr,by omega,by omega,by omega⟩
theorem pt_ne {L:List R6} {x y z:Int} (h:inS L x y z):L≠ []:=by rintro rfl;obtain ⟨r,hr,_⟩:=h;cases hr
theorem u7v {L:List R6} (hf:x0u L=true) (ne:L≠ []) {n:Int} (h:Vg L n=0):Zr L n≠ []∧x2b L (Zr L n)≤0∧x2b (Zr L n) L≤n - 1:=by obtain ⟨_,f2,vL⟩:=y4o hf;obtain ⟨ko,po⟩:=w9l hf h;have hn:=(w0n h).2.1;have vo:=(Jw ko).2.1;obtain ⟨x,y,z,hp⟩:=ne_pt vL ne;have neo:Zr L n≠ []:=pt_ne ((po x y z).2 (y9k hn.1 hp));refine ⟨neo,(w7u vL vo neo).2 fun x y z k=>(po x y z).2 (y9k hn.1 k),(rr_le vo vL ne (by omega)).2 fun x y z k=> ?_⟩;obtain ⟨s,t,u,hs,ht,hu,c,hc,q⟩:=(po x y z).1 k;obtain ⟨_,e1,e2⟩:=Wk hn.1 x;obtain ⟨_,e3,e4⟩:=Wk hn.1 y;obtain ⟨_,e5,e6⟩:=Wk hn.1 z;refine ⟨c,hc,?_⟩;unfold nrp;omega
theorem x3a (L:List R6) (d:Int): ∀k:Nat,u3a L d k=0∨ ∃j:Nat,1≤j∧j≤k∧u3a L d k=(j:Int)∧u8g L d (j:Int)=true
 | 0=>.inl rfl
 | k+1=>by
  unfold u3a;rcases Yv (u8g L d ((k+1:Nat):Int)) with q | q
  ·rw [q,cond_true];exact .inr ⟨k+1,by omega,Nat.le_refl _,rfl,q⟩
  ·rw [q,cond_false];rcases x3a L d k with h | ⟨j,h1,h2,h3,h4⟩
   ·exact .inl h
   ·exact .inr ⟨j,h1,by omega,h3,h4⟩
theorem oB_one {r:R6} (h:Ut r=true):oB 1 r=r:=by
 obtain ⟨a,b,c,d,e,f⟩:=r;obtain ⟨v1,v2,v3,v4,v5,v6,v7,v8,v9⟩:=Xy h;simp only at v1 v2 v3 v4 v5 v6 v7 v8 v9;have k: ∀x:Int,-1000000≤x→x≤1000000→Xp x 1=x∧upV x 1=x:=fun x a b=>by obtain ⟨_,q1,q2⟩:=Uh (x:=x) (n:=1) ⟨by omega,by omega⟩ (by omega);obtain ⟨_,q3,q4⟩:=z3g (x:=x) (n:=1) ⟨by omega,by omega⟩ (by omega);omega
 unfold oB;simp only;rw [(k a (by omega) (by omega)).1,(k b (by omega) (by omega)).1,(k c (by omega) (by omega)).1,(k d (by omega) (by omega)).2,(k e (by omega) (by omega)).2,(k f (by omega) (by omega)).2]
theorem u7u {L:List R6} (hf:x0u L=true):Vg L 1=0∧Zr L 1=L:=by
 obtain ⟨f1,f2,f3⟩:=y4o hf;have e:L.map (oB 1)=L:=(List.map_congr_left fun r hr=>oB_one (f3 r hr)).trans (List.map_id' L);obtain ⟨s1,s2⟩:=y1k f2;have ho:Vg L 1=0:=by
  rcases u2c hf (n:=1) ⟨by omega,by omega⟩ with h | h
  ·exact h
  ·unfold Vg at h ⊢;rw [f2,decide_eq_false (by omega),decide_eq_false (by omega),e] at h ⊢;rcases Yv (L.all (oOk 1)) with q | q
   ·rw [q];exact s1
   ·rw [q] at h;cases h
 refine ⟨ho,?_⟩;rw [(w0n ho).2.2.1,e,s2]
theorem pik_ok {L:List R6} {k:Int} (h:z0p L k=0):Wn L k=Zr L (pikN k)∧Vg L (pikN k)=0:=by
 unfold z0p at h;rcases Yv (Zf L != 0) with a | a
 ·rw [a,cond_true] at h;rw [h] at a;cases a
 rcases Yv (decide (k<0)) with b | b
 ·rw [a,b] at h;cases h
 rcases Yv (decide (k>9)) with c | c
 ·rw [a,b,c] at h;cases h
 rw [a,b,c] at h;refine ⟨?_,h⟩;unfold Wn pikP;rw [w5e a,b,c];rfl
theorem u8f {L:List R6} (hf:x0u L=true) (ne:L≠ []) {d:Int} (hd:0≤d∧d≤40):z7n L d=0∧(0≤Vq L d∧Vq L d≤9)∧z0p L (Vq L d)=0∧Kz (Wn L (Vq L d)) L=0∧Je (Wn L (Vq L d)) L≤d:=by
 obtain ⟨f1,f2,f3⟩:=y4o hf;have l0:0<L.length:=List.length_pos_iff.2 ne;have h1:z7n L d=0:=by unfold z7n;rw [f2,decide_eq_false (by omega),decide_eq_false (by omega),v2h (show (L.length:Int)≠0 by omega),Ys (by omega)];rfl
 have h0:Vq L d=u3a L d 9:=by unfold Vq;rw [h1];rfl
 refine ⟨h1,?_⟩;rw [h0];rcases x3a L d 9 with h | ⟨j,j1,j2,h,q⟩
 ·rw [h];obtain ⟨o1,o2⟩:=u7u hf;have hk:pikN 0=1:=by kernel_rfl
  have p1:z0p L 0=0:=by unfold z0p;rw [f2,hk];exact o1
  have p0:Wn L 0=L:=by rw [(pik_ok p1).1,hk];exact o2
  rw [p0];obtain ⟨m1,m2⟩:=v8i f2 f2 (by omega) (by omega) ne ne;have:=(w7u f3 f3 ne).2 fun _ _ _ h=>h;have:=Ur (x2b L L) (x2b L L);exact ⟨by omega,p1,m1,by rw [m2];omega⟩
 ·rw [h];unfold u8g at q;simp only [Bool.and_eq_true,beq_iff_eq,decide_eq_true_eq] at q;obtain ⟨q1,q2,q3⟩:=q;obtain ⟨k1,k2,k3,k4,k5,k6⟩:=dd_inv q2;obtain ⟨m1,m2⟩:=v8i k2 k1 k4 k3 k6 k5;obtain ⟨_,m3⟩:=v8i k1 k2 k3 k4 k5 k6;refine ⟨by omega,q1,m1,?_⟩;rw [m2,u8y,←m3];exact q3
theorem dbw_run (L:List R6) (n d:Int): ∃N,Yj (x8l L n d) N (y2m L n d)=.ret [.bool true]:=⟨0,by
 unfold y2m;simp only [Zp,show∀l,z7s l=true from fun _=>rfl,show∀l n,Qs l n=true from fun _ _=>rfl,show∀l n,z3x l n=true from fun _ _=>rfl,show∀q a b,z6p q a b=true from fun _ _ _=>rfl,show∀l m,Jx l m=true from fun _ _=>rfl,show∀l k,z3v l k=true from fun _ _=>rfl,show∀l k,z1i l k=true from fun _ _=>rfl,cond_true];rcases (Yv (x0u L)).symm with f | f
 ·rw [f];rfl
 rcases Yv (decide (n<1)) with c1 | c1
 ·rw [f,c1];rfl
 rcases Yv (decide (n>40)) with c2 | c2
 ·rw [f,c1,c2];rfl
 rcases Yv (decide (d<0)) with c3 | c3
 ·rw [f,c1,c2,c3];rfl
 rcases Yv (decide (d>40)) with c4 | c4
 ·rw [f,c1,c2,c3,c4];rfl
 have d1:=of_decide_eq_false c1;have d2:=of_decide_eq_false c2;have d3:=of_decide_eq_false c3;have d4:=of_decide_eq_false c4;have hn:1≤n∧n≤1000:=by omega
 obtain ⟨f1,f2,f3⟩:=y4o f;have hw:IntKind.wrap .i64 (n - 1)=n - 1:=Zu (by omega);rw [f,c1,c2,c3,c4,hw];simp only [Bool.not_true,cond_false];rcases u2c f hn with o | o
 case inr=>rcases u3s f hn with i | i <;> (rw [o,i];rfl)
 rcases u3s f hn with i | i
 case inr=>rw [o,i];rfl
 obtain ⟨ko,po⟩:=w9l f o;obtain ⟨ki,pi⟩:=u8s f i;obtain ⟨e1,e2⟩:=slN ki f2 fun x y z h=>x9k hn.1 ((pi x y z).1 h);obtain ⟨e3,e4⟩:=slN f2 ko fun x y z h=>(po x y z).2 (y9k hn.1 h);have g0:decide ((((([]:List R6)).length :Nat):Int)>0)=false:=rfl;rw [o,i,e1,e2,e3,e4,g0];simp only [show ((0:Int) != 0)=false from rfl,cond_false];rcases Yv ((L.length:Int) == 0) with z | z
 ·have hL:L=[]:=by have:=eq_of_beq z;exact List.eq_nil_of_length_eq_zero (by omega)
  have ho:Zr L n=[]:=z1k z3f (w7f ko) fun ⟨w,u,v⟩ hp=>by obtain ⟨s,t,r,_,_,_,c,hc,_⟩:=(po u v w).1 ((z3y _ u v w).2 hp);rw [hL] at hc;cases hc
  rw [z,ho];rfl
 have ne:=v0h z;obtain ⟨neo,r1,r2⟩:=u7v f ne o;obtain ⟨t1,t2,t3,t4,t5⟩:=u8f f ne ⟨by omega,by omega⟩ (d:=d);rw [z,t1,decide_eq_false (show¬Vq L d<0 by omega),decide_eq_false (show¬Vq L d>9 by omega),t3,t4,decide_eq_true t5];rcases Yv (decide (((Zr L n).length :Int)≤40)) with w | w
 ·obtain ⟨m1,m2⟩:=v8i f2 ko (by omega) (by have:=of_decide_eq_true w;omega) ne neo;have s:=Ur (x2b L (Zr L n)) (x2b (Zr L n) L);rw [w,m1,m2,decide_eq_false (show¬Wf (x2b L (Zr L n)) (x2b (Zr L n) L)>n - 1 by omega)];rfl
 ·rw [w];rfl⟩
end Go.Am
end
