/- A part of a proof: several texts in one. -/
import Derived.Test.YtigjpddfojohaaaGreatNg3
import Derived.Below
import Derived.Lib.SplitLaws
set_option maxRecDepth 1000000
set_option maxHeartbeats 8000000
set_option linter.unusedVariables false
set_option linter.unusedSimpArgs false
noncomputable section
namespace Go.Am
open IntKind (wrap)
open Go.Proofs.Tryz
open Go.Proofs Go.Sort Go.Shelf Go.RowKit Go.Lib
theorem TZ {i n:Nat} (h:i<n):decide ((i:Int)<(n:Int))=true:=by grind
theorem NP {σ:Type} (step:σ->Yr σ) (a b:Nat) (s:Yr σ):Yx step (a+b) s=Yx step a (Yx step b s):=by
 induction b generalizing s with
 | zero=>cases s <;> simp [Yx]
 | succ b ih=>cases s with
  | «to» s=>exact ih (step s)
  | ret vs=>simp only [Zd]
  | stuck=>cases a <;> cases b <;> rfl
theorem ZP {i:Nat}:decide ((i:Int)>=0)=true:=by grind
def Qv {α:Type} [Xa α] (out:List α):zy:=bif decide ((out.length:Int)>400) then [.nils,.int .i64 4] else [.dat out.length (Zz out),.int .i64 0]
def DU {α:Type} [Xa α] (e:Int) (L:List α):zy:=bif e != 0 then [.nils,.int .i64 e] else [.dat L.length (Zz L),.int .i64 0]
def Dn {α:Type} (e:Int) (L:List α):List α:=bif e != 0 then [] else L
theorem NO {α:Type} [Xa α] (e:Int) (L:List α) (ρ:CE) (u:Value) (hu:Yv ρ (Uz (DU e L)) u):Yv ρ (.tup [.dat (Dn e L).length (Zz (Dn e L)),.int .i64 e]) u:=by
 unfold DU at hu;unfold Dn;by_cases h:e=0
 .subst h;exact hu
 .have h:(e != 0)=true:=by simpa using h
  rw [h] at hu ⊢;exact Qn (.cons (Mt α) (DE.refl _)) ρ u hu
theorem Mv {α:Type} [Xa α] (e:Int) (L:List α):pf 3 (Uz (DU e L))=true:=by unfold DU;cases (e != 0) <;> rfl
def DX (n:Nat):Int:=bif decide ((n:Int)>400) then 4 else 0
theorem Y0 {α:Type} [Xa α] (L:List α):Qv L=DU (DX L.length) L:=by
 grind [Qv,DU,DX]
theorem Kd {α:Type} [Xa α] {e:Int} (L:List α) (h:(e != 0)=true):DU e L=[.nils,.int .i64 e]:=by unfold DU;rw [h];rfl
theorem y9w : ∀(L:zo) (o last:Int) (inn:Bool) (out:zq),(Gn L o last inn out).length <=out.length+L.length
 | [],_,_,_,out=>Ar _
 | e::r,o,last,inn,out=>by rw [YS];have:=y9w r (o+e.c) e.a (decide (o+e.c>0)) (Ui out last inn e.a);have:=z4a out last inn e.a;simp only [AZ];omega
theorem y6f (l:zo):(Ch l).length =l.length:=by
 by_cases h:DN l=true
 .exact (Qr l h).1.length_eq
 .unfold Ch;grind
theorem x8i (l:zq):(Wp l).length <=800:=by
 grind [Wp,Du,y9w,y6f,z5s]
def Kc (r:R4):Bool:=decide (r.a<r.c)&&(decide (r.b<r.d)&&(decide (r.a>= -1000000)&&(decide (r.a<=1000000)&&(decide (r.c>= -1000000)&&(decide (r.c<=1000000)&&(decide (r.b>= -1000000)&&(decide (r.b<=1000000)&&(decide (r.d>= -1000000)&&decide (r.d<=1000000)))))))))
def D4 :CM R4 R2:=⟨R4.a,R4.c,fun r=>⟨r.b,r.d⟩,fun x x' s=>⟨x,s.a,x',s.b⟩,fun x r=>⟨r.a,r.b,x,r.d⟩,Wp,Qt⟩
theorem RI (l:zw) (x:Int):(D4.sec l x).length <=1000:=AG (x8i _) (by omega)
section
variable (l:zw) (hl:l.length<=400)
include hl
theorem u9u (i:Nat) (out:zw) (last:zq) (first fin x x':Int): ∀(k j:Nat) (acc:zq),j+k=l.length->acc.length<=j->
  ∃n,∀N,Yx (Wb l) (N+n) (.to (.h2 (i:Int) (j:Int) out last first fin ((D4.cuts l).length) (Wf (Wz (D4.ends l))) x x' acc))=Yx (Wb l) N (.to (.h2 (i:Int) (l.length:Int) out last first fin ((D4.cuts l).length) (Wf (Wz (D4.ends l))) x x' (acc++D4.inn (l.drop j) x)))
 | 0,j,acc,h,ha=>by refine ⟨0,fun N=> ?_⟩;rw [Av (by omega),show D4.inn ([]:zw) x=[] from rfl,AA,Bg,show j=l.length by omega]
 | k+1,j,acc,h,ha=>by
  have hj:j<l.length:=by omega
  obtain ⟨n,hn⟩:=u9u i out last first fin x x' k (j+1) (acc++D4.inn [rd l j] x) (by omega) (by have:=D4.inn_length [rd l j] x;grind)
  refine ⟨n+1,fun N=> ?_⟩;have e:D4.inn (l.drop j) x=D4.inn [rd l j] x++D4.inn (l.drop (j+1)) x:=by rw [Yo hj,<-D4.inn_append];rfl
  rw [e,<-AL,Zx,<-AH,<-hn N];by_cases h1:D4.lo (rd l j)<=x
  .by_cases h2:x<D4.hi (rd l j)
   .rw [D4.inn_t _ _ h1 h2];simp only [D4] at h1 h2 ⊢;simp (disch:=omega) only [Wb,Xs,Za,Zm,Zt,Zr,Ye,Yq,Ya,Zn,Zk,Zu,Yc,Zj,Ah,As,Ai,Ak,Ab,Aa]
   .rw [D4.inn_f2 _ _ h2,AA];simp only [D4] at h1 h2;simp (disch:=omega) only [Wb,Xs,Ym,Za,Zm,Zt,Zr,Ye,Yq,Ya,Zn,Zk,Zu,Yc,Zj,Ah,As,Ai,Ak,Ab,Aa]
  .rw [D4.inn_f1 _ _ h1,AA];simp only [D4] at h1;simp (disch:=omega) only [Wb,EU,Za,Zm,Zt,Zr,Ye,Yq,Ya,Zn,Zk,Zu,Yc,Zj,Ah,As,Ai,Ak,Ab,Aa]
theorem u9t (i:Nat) (hi:i<=1000) (x x':Int) (s last:zq) (first:Int) (inn:zq) (hs:s.length<=1000): ∀(k j:Nat) (out:zw),j+k=s.length->out.length<=10000000+j->
  ∃n,∀N,Yx (Wb l) (N+n) (.to (.h3 x x' s (s.length:Int) (j:Int) s (i:Int) out last first ((D4.cuts l).length) (Wf (Wz (D4.ends l))) inn))=Yx (Wb l) N (.to (.h1 ((i+1:Nat):Int) (out++(s.drop j).map (D4.put x x')) last first x' ((D4.cuts l).length) (Wf (Wz (D4.ends l)))))
 | 0,j,out,h,ho=>by
  have _u:=hl;refine ⟨1,fun N=> ?_⟩
  grind [Zx,Wb,Zk]
 | k+1,j,out,h,ho=>by
  obtain ⟨n,hn⟩:=u9t i hi x x' s last first inn hs k (j+1) (out++[D4.put x x' (rd s j)]) (by omega) (by simp;omega)
  refine ⟨n+1,fun N=> ?_⟩;have:=hn N;rw [Yo (show j<s.length by omega),A0,<-AL,Zx];simp (disch:=omega) only [Wb,Za,Zm,Zt,Zr,Ye,Yq,Ya,Zn,Zk,Zu,Yc,Zj,Ah,As,Ai,Ak,Ab,Aa];rw [AH] at this;exact this
theorem u9s (i:Nat) (hi:i<=1000) (x x' fin:Int) (s last:zq) (first:Int) (inn:zq): ∀(k j:Nat) (out:zw),j+k=out.length->out.length<=10000000->
  ∃n,∀N,Yx (Wb l) (N+n) (.to (.h4 x' (j:Int) x s (i:Int) out last first fin ((D4.cuts l).length) (Wf (Wz (D4.ends l))) inn))=Yx (Wb l) N (.to (.h1 ((i+1:Nat):Int) (D4.grow out j x') last first x' ((D4.cuts l).length) (Wf (Wz (D4.ends l)))))
 | 0,j,out,h,ho=>by
  have _u:=hl;refine ⟨1,fun N=> ?_⟩;rw [D4.grow_nil _ _ _ (by omega),Zx]
  grind [Wb,Zk]
 | k+1,j,out,h,ho=>by
  obtain ⟨n,hn⟩:=u9s i hi x x' fin s last first inn k (j+1) (out.set j (D4.ext x' (rd out j))) (by simp;omega) (by grind)
  refine ⟨n+1,fun N=> ?_⟩;have:=hn N;rw [D4.grow_set out j _ (by omega)] at this;rw [<-AL,Zx];simp (disch:=omega) only [Wb,Za,Zm,Zt,Zr,Ye,Yq,Ya,Zn,Zk,Zu,Yc,Zj,Ah,As,Ai,Ak,Ab,Aa];exact this
theorem v6i : ∀(k i:Nat) (s:Sw R4 R2),k=(D4.cuts l).length - 1 - i->i<=(D4.cuts l).length ->s.out.length<=i*1000->s.last.length<=1000->s.first<=s.out.length->
  ∃n,Yx (Wb l) n (.to (.h1 ((i+1:Nat):Int) s.out s.last (s.first:Int) s.fin ((D4.cuts l).length) (Wf (Wz (D4.ends l)))))=.ret (Qv (D4.go l k i s).out)
 | 0,i,s,h,hi,ho,hla,hf=>by
  have hc:=D4.cuts_length l;refine ⟨1,?_⟩;rw [Zx,show D4.go l 0 i s=s from rfl]
  grind [Qv,Wb,Zd]
 | k +1,i,s,h,hi,ho,hla,hf=>by
  have hc:=D4.cuts_length l;have hi1:i+1<(D4.cuts l).length :=by omega
  have hpl:(Wf (Wz (D4.ends l))).length =2*l.length:=by rw [Qp,Ky,D4.ends_length]
  have r0:rd (Wf (Wz (D4.ends l))) i=rd (D4.cuts l) i:=Ga _ _ (by show i<(D4.cuts l).length;omega);have r1:rd (Wf (Wz (D4.ends l))) (i+1)=rd (D4.cuts l) (i+1):=Ga _ _ (by show i+1<(D4.cuts l).length;omega);have hbig:i*1000<=1000*1000:=AB _ (by omega);have hsl:=RI l (rd (D4.cuts l) i);have hsd:D4.sec l (rd (D4.cuts l) i)=Wp (D4.inn l (rd (D4.cuts l) i)):=rfl;obtain ⟨n3,h3⟩:=u9u l hl (i+1) s.out s.last (s.first:Int) s.fin (rd (D4.cuts l) i) (rd (D4.cuts l) (i+1)) l.length 0 [] (Ah _) (Ar _);simp only [AO,A1,EB] at h3;have w1:y6g (D4.inn l (rd (D4.cuts l) i))=true:=rfl;have w2:Uj s.last (Wp (D4.inn l (rd (D4.cuts l) i)))=true:=Af (by omega);have ol:=D4.one_length l (rd (D4.cuts l) i) (rd (D4.cuts l) (i+1)) s;have st0: ∀N,Yx (Wb l) (N+n3+1) (.to (.h1 ((i+1:Nat):Int) s.out s.last (s.first:Int) s.fin ((D4.cuts l).length) (Wf (Wz (D4.ends l)))))=Yx (Wb l) N (.to (.h2 ((i+1:Nat):Int) (l.length:Int) s.out s.last (s.first:Int) s.fin ((D4.cuts l).length) (Wf (Wz (D4.ends l))) (rd (D4.cuts l) i) (rd (D4.cuts l) (i+1)) (D4.inn l (rd (D4.cuts l) i)))):=fun N=>by
   rw [<-h3 N,Zx];have e1:wrap .i64 (((i+1:Nat):Int) - 1)=(i:Int):=by rw [Yj];exact Zk (by omega)
   simp (disch:=omega) only [Wb,e1,r0,r1,Za,Zm,Zt,Zr,Ye,Yq,Ya,Zn,Zk,Zu,Yc,Zj,Ah,As,Ai,Ak,Ab,Aa]
  rcases Xz (decide (0<(D4.sec l (rd (D4.cuts l) i)).length)&&((s.fin == rd (D4.cuts l) i)&&D4.same s.last (D4.sec l (rd (D4.cuts l) i)))) with q | q
  .obtain ⟨n5,h5⟩:=u9s l hl (i+1) (by omega) (rd (D4.cuts l) i) (rd (D4.cuts l) (i+1)) s.fin (D4.sec l (rd (D4.cuts l) i)) s.last (s.first:Int) (D4.inn l (rd (D4.cuts l) i)) (s.out.length - s.first) s.first s.out (by omega) (by omega)
   have e:D4.one l (rd (D4.cuts l) i) (rd (D4.cuts l) (i+1)) s=⟨D4.grow s.out s.first (rd (D4.cuts l) (i+1)),s.last,s.first,rd (D4.cuts l) (i+1)⟩:=by unfold CM.one;rw [q];rfl
   obtain ⟨n0,h0⟩:=v6i k (i+1) (D4.one l (rd (D4.cuts l) i) (rd (D4.cuts l) (i+1)) s) (by omega) (by omega) (by omega) (by grind) (by grind [CM.grow_length]);refine ⟨n0+n5+1+n3+1,?_⟩;rw [st0 (n0+n5+1),Zx];simp only [Ac,Ao] at q;obtain ⟨q1,q2,q3⟩:=q;have q3':Qt s.last (Wp (D4.inn l (rd (D4.cuts l) i)))=true:=q3
   grind [Wb,Za,CM.go]
  .obtain ⟨n4,h4⟩:=u9t l hl (i+1) (by omega) (rd (D4.cuts l) i) (rd (D4.cuts l) (i+1)) (D4.sec l (rd (D4.cuts l) i)) (D4.sec l (rd (D4.cuts l) i)) (s.out.length:Int) (D4.inn l (rd (D4.cuts l) i)) hsl (D4.sec l (rd (D4.cuts l) i)).length 0 s.out (Ah _) (by omega);simp only [AO,EB] at h4;have e:D4.one l (rd (D4.cuts l) i) (rd (D4.cuts l) (i+1)) s=⟨s.out++(D4.sec l (rd (D4.cuts l) i)).map (D4.put (rd (D4.cuts l) i) (rd (D4.cuts l) (i+1))),D4.sec l (rd (D4.cuts l) i),s.out.length,rd (D4.cuts l) (i+1)⟩:=by unfold CM.one;rw [q];rfl
   obtain ⟨n0,h0⟩:=v6i k (i+1) (D4.one l (rd (D4.cuts l) i) (rd (D4.cuts l) (i+1)) s) (by omega) (by omega) (by omega) (by grind) (by rw [e];simp);have hg:Yx (Wb l) 1 (.to (.h2 ((i+1:Nat):Int) (l.length:Int) s.out s.last (s.first:Int) s.fin ((D4.cuts l).length) (Wf (Wz (D4.ends l))) (rd (D4.cuts l) i) (rd (D4.cuts l) (i+1)) (D4.inn l (rd (D4.cuts l) i))))=.to (.h3 (rd (D4.cuts l) i) (rd (D4.cuts l) (i+1)) (D4.sec l (rd (D4.cuts l) i)) ((D4.sec l (rd (D4.cuts l) i)).length :Int) 0 (D4.sec l (rd (D4.cuts l) i)) ((i+1:Nat):Int) s.out (D4.sec l (rd (D4.cuts l) i)) (s.out.length:Int) ((D4.cuts l).length) (Wf (Wz (D4.ends l))) (D4.inn l (rd (D4.cuts l) i))):=by
    rw [show (1:Nat)=0+1 from rfl,Zx];rw [hsd] at q ⊢;have e3:D4.same s.last (Wp (D4.inn l (rd (D4.cuts l) i)))=Qt s.last (Wp (D4.inn l (rd (D4.cuts l) i))):=rfl;rw [e3] at q;by_cases q1:0<(Wp (D4.inn l (rd (D4.cuts l) i))).length
    .rw [Af q1,Ak] at q;rcases Xz (s.fin == rd (D4.cuts l) i) with q2 | q2
     .rw [q2,Ak] at q;simp (disch:=omega) only [Wb,Za,Zm,Ym,Ys,q2,q,w1,w2,Ab,Aa];rfl
     .simp (disch:=omega) only [Wb,Za,Zm,Ym,Ys,q2,w1,w2,Ab,Aa];rfl
    .simp (disch:=omega) only [Wb,Za,Zm,Ym,Xg,w1,w2,Ab,Aa];rfl
   refine ⟨n0+n4+1+n3+1,?_⟩;simp_all [NP,CM.go]
theorem u9v : ∀(k i:Nat) (acc:zp),i+k=l.length->acc=D4.ends (l.take i)-> ∃n,Yx (Wb l) n (.to (.h0 (i:Int) acc))=.ret (Qv (D4.go l ((D4.cuts l).length - 1) 0 ⟨[],[],0,0⟩).out)
 | 0,i,acc,h,ha=>by
  have e:acc=D4.ends l:=by grind
  subst e;have hle:=D4.ends_length l;obtain ⟨n,hn⟩:=v6i l hl ((D4.cuts l).length - 1) 0 ⟨[],[],0,0⟩ (by omega) (Ay _) (Ay _) (Ay _) (Ay _);refine ⟨n+1,?_⟩;rw [Zx];simp (disch:=omega) only [Wb,Qm,Sh,Su,Ym,Yq,Ya,As,Ab,Aa];exact hn
 | k+1,i,acc,h,ha=>by
  have hle:=D4.ends_length (l.take i);have eH:acc.length<=2*i:=by grind
  obtain ⟨n,hn⟩:=u9v k (i+1) (acc++D4.ends [rd l i]) (by omega) (by
   rw [ha,AX];have:l[i]? =some (rd l i):=by grind [Xm]
   rw [this,D4.ends_append];rfl)
  refine ⟨n+1,?_⟩;rw [Zx];simp (disch:=omega) only [Wb,Za,Zm,Zt,Zr,Ye,Yq,Ya,Zn,Zk,Zu,Yc,Zj,Ah,As,Ai,Ak,Ab,Aa];exact hn
end
def PO (l:zw):Int:=DX (D4.out l).length
def Vz (l:zw):zw:=Dn (PO l) (D4.out l)
def Fk (l:zw):Int:=PO l
def JF (l:zw):Bool:=decide (l.length<=400)
theorem j5n (l:zw) (h:JF l=true): ∃n,Yx (Wb l) n (x2y l)=.ret (DU (PO l) (D4.out l)):=by rw [show DU (PO l) (D4.out l)=Qv (D4.out l) from (Y0 _).symm];exact u9v l (Ax h) l.length 0 [] (Ah _) rfl
def PT (a b c d:Int):Bool:=Kc ⟨a,b,c,d⟩
theorem j1i (a b c d:Int): ∃N,Yx (x7w a b c d) N (YT a b c d)=.ret [.bool (PT a b c d)]:=⟨0,by
 unfold YT PT Kc;simp only [Sr];cases decide (a<c) <;> cases decide (b<d) <;> cases decide (a>= -1000000) <;> cases decide (a<=1000000) <;> cases decide (c>= -1000000) <;> cases decide (c<=1000000) <;> cases decide (b>= -1000000) <;> cases decide (b<=1000000) <;> cases decide (d>= -1000000) <;> rfl⟩
def Pg :zy->Option (B9×Bool)
 | [.agg [.int .i64 aF,.int .i64 aQ,.int .i64 aP,.int .i64 aO]]=>some (.bool (PT aF aQ aP aO),true)
 | _=>none
theorem j7b {S:CB} (hS:Zw prog S):Zw prog (S.with w5w Pg):=by
 refine Kv hS (by kernel_rfl) fun args v h=> ?_;unfold Pg at h;split at h
 .rename_i aF aQ aP aO;simp only [Ad,Ae,and_true] at h;subst h;obtain ⟨N,hN⟩:=j1i aF aQ aP aO;exact ⟨_,_,(.cons (.refl _) .nil),rfl,v9c aF aQ aP aO N _ hN,3,rfl⟩
 .cases h
def QF :zy->Option (B9×Bool)
 | [a0]=>match CY R4 a0 with
  | some (L0,g0,n0)=>some (.tup [.dat (Vz L0).length (Zz (Vz L0)),.int .i64 (Fk L0)],CX R4 n0 g0&&(JF L0))
  | _=>none
 | _=>none
theorem j8r {S:CB} (hS:Zw prog S):Zw prog (S.with v6f QF):=by
 refine E4 hS (by kernel_rfl) fun args v h=> ?_;unfold QF at h;split at h
 .rename_i a0;split at h
  .rename_i L0 g0 n0 e0;simp only [Ad,Ae,Ac] at h;obtain ⟨rfl,ho0,hw⟩:=h;obtain ⟨N,hN⟩:=j5n L0 hw;exact ⟨_,_,(.cons (Yi e0 ho0) .nil),NO _ _,u3n L0 N _ hN,3,Mv _ _⟩
  .cases h
 .cases h
def T6v :CB:=(T6.with w5w Pg)
theorem RD :Zw prog T6v:=(j7b Kr)
def T6m :CB:=(T6v.with v6f QF)
theorem NU :Zw prog T6m:=(j8r RD)
inductive IC where
 | h0 (v8:Int)
def O5 (l0:zw):IC->CI
 | .h0 v8=>⟨⟨19,0,true⟩,none,(Zq prog 142 (pn 37) 0),none,(Zy prog 4),⟨Zs [(0,(dt l0)),(1,(.fn 113 [])),(7,(ii (l0.length:Int))),(8,(ii v8))],Xe [] 0,0,[],true⟩,[⟨⟨9,0,true⟩,(Wr prog 112 [1,0] 2),(Zq prog 112 [1,0] 1),none,(Zy prog 4),Zs [(5,(dt l0)),(6,(.fn 113 []))]⟩,⟨⟨13,0,true⟩,(Wr prog 86 (pn 19) 1),(Zq prog 86 (pn 19) 1),none,(Zy prog 17),Zs [(0,(dt l0)),(7,(dt l0))]⟩],.leaf⟩
def Lf :List (Option zr):=[some [0,1,7,8],some [5,6],some [0,7]]
def Lg :List (Option zr):=[]
def Iw (l0:zw):IC->Yr IC
 | .h0 v8=>let e:=rd l0 v8.toNat;let f:=Vz (CA l0);(bif (decide (v8<(l0.length:Int))) then (bif ((decide (0<=v8/\v8<(l0.length:Int)))&&true) then (bif (!(PT e.a e.b e.c e.d)) then (bif (decide (v8>=0)) then (.ret [.nils,(.int .i64 8)]) else (bif (JF (CA l0)) then (.ret [(.dat f.length (Zz f)),(.int .i64 (Fk (CA l0)))]) else .stuck)) else (.to (.h0 (wrap .i64 (v8+1))))) else .stuck) else (bif (JF (CA l0)) then (.ret [(.dat f.length (Zz f)),(.int .i64 (Fk (CA l0)))]) else .stuck))
def SS (l0:zw):Yr IC:=(bif (decide ((l0.length:Int)>400)) then (.ret [.nils,(.int .i64 4)]) else (.to (.h0 0)))
theorem w9p (l0:zw): ∀s,Xx prog (Zy prog 86) (O5 l0) (O5 l0 s) (Iw l0 s)
 | .h0 v8=>let a:=Vz (CA l0);let c:=ii (Fk (CA l0));(lb (fun k0=>(lo fun aL=>let b:=ww aL (tt k0 nn);(lb (fun k1=>(lb (fun k2=>(lr 13 86 (pn 75) 1 17 [(2,.nils),(3,(ii 8))] (sl NU 54 [] (a7 [2,3]) a6 (CK 3 []) (tt k2 (tt k1 b))))) (fun k2=>(lo fun o0=>(lr 13 3 (pn 767) 1 17 [(2,(dt a)),(3,c)] (sl NU 59 [] (a7 [2,3]) a6 (bl 3 3) (pp (pp (xr l0) (xw o0)) (tt k2 (tt k1 b))))))))) (fun k1=>(sl NU 44 [] ⟨[],[],Lf,Lg⟩ a6 (bl 2 1) (tt k1 b)))))) (fun k0=>(lo fun o0=>(lr 13 3 (pn 767) 1 17 [(2,(dt a)),(3,c)] (sl NU 28 [] (a7 [2,3]) a6 (bl 2 0) (pp (pp (xr l0) (xw o0)) (tt k0 nn)))))))
theorem w0h (l0:zw):Xx prog (Zy prog 86) (O5 l0) (Zp prog 86 [(dt l0)] true []) (SS l0):=(lb (fun k0=>(lr 13 86 (pn 37) 1 17 [(2,.nils),(3,(ii 4))] (sl NU 18 [] (a7 [2,3]) a6 [true] (tt k0 nn)))) (fun k0=>(sl NU 41 [] ⟨[],[],Lf,Lg⟩ a6 [false] (tt k0 nn))))
theorem u1w (l0:zw) (n:Nat) (vs:zy) (h:Yx (Iw l0) n (SS l0)=.ret vs):Vi prog (Zy prog 86) (Zp prog 86 [(dt l0)] true []) vs:=by have:=Zg (w9p l0) n _ (w0h l0);rwa [h] at this
theorem u8l (l:zw) (hl:l.length<=400): ∀(k i:Nat),i+k=l.length->(∀s∈l.take i,Kc s=true)-> ∃n,Yx (Iw l) n (.to (.h0 (i:Int)))=.ret (bif l.all Kc then [.dat (Vz l).length (Zz (Vz l)),.int .i64 (Fk l)] else [.nils,.int .i64 8])
 | 0,i,h,ht=>by
  have hv:l.all Kc=true:=Au.2 fun s hs=>ht s (by grind);have w:JF l=true:=Af hl;refine ⟨1,?_⟩
  grind [Zx,Iw,Za,Zd]
 | k+1,i,h,ht=>by
  have hi:i<l.length:=by omega
  have hs:Iw l (.h0 (i:Int))=bif Kc (rd l i) then .to (.h0 ((i+1:Nat):Int)) else .ret [.nils,.int .i64 8]:=by have e:PT (rd l i).a (rd l i).b (rd l i).c (rd l i).d =Kc (rd l i):=rfl;simp (disch:=omega) only [Iw,e,Re,TZ,ZP,Zr,Zk,Zu,Zj,Ai,Ab,Aa]
  rcases Xz (Kc (rd l i)) with q | q
  .obtain ⟨n,hn⟩:=u8l l hl k (i+1) (by omega) (fun s hs=>by
    rw [AX] at hs
    grind [Xm])
   refine ⟨n+1,?_⟩
   grind [Zx]
  .have hv:l.all Kc=false:=A5.2 fun e=>by
    grind [Xm]
   refine ⟨1,?_⟩
   grind [Zx,Zd]
theorem u1v (l:zw): ∃n,Yx (Iw l) n (SS l)=.ret (bif decide (400<l.length) then [.nils,.int .i64 4] else bif l.all Kc then [.dat (Vz l).length (Zz (Vz l)),.int .i64 (Fk l)] else [.nils,.int .i64 8]):=by
 unfold SS;by_cases h:400<l.length
 .refine ⟨0,?_⟩;rw [Af h,Ys (show (l.length:Int)>400 by omega)];rfl
 .obtain ⟨n,hn⟩:=u8l l (by omega) l.length 0 (Ah _) (fun s hs=>by simp at hs)
  grind
def Zb (l:zw):zw:=bif decide (400<l.length) then [] else bif l.all Kc then (bif decide (((D4.out l).length :Int)>400) then [] else D4.out l) else []
def Xk (l:zw):Int:=bif decide (400<l.length) then 4 else bif l.all Kc then (bif decide (((D4.out l).length :Int)>400) then 4 else 0) else 8
def Jf (l:zw):Bool:=true
theorem j4m (l:zw) (h:Jf l=true): ∃n,Yx (Iw l) n (SS l)=.ret (bif decide (400<l.length) then [.nils,.int .i64 4] else bif l.all Kc then [.dat (Zb l).length (Zz (Zb l)),.int .i64 (Xk l)] else [.nils,.int .i64 8]):=by
 obtain ⟨n,hn⟩:=u1v l
 grind [Vz,Zb,PO,Dn,DX,Fk,Xk]
def Py :zy->Option (B9×Bool)
 | [a0]=>match CY R4 a0 with
  | some (L0,g0,n0)=>some (.tup [.dat (Zb L0).length (Zz (Zb L0)),.int .i64 (Xk L0)],CX R4 n0 g0&&(Jf L0))
  | _=>none
 | _=>none
theorem j8d {S:CB} (hS:Zw prog S):Zw prog (S.with w5y Py):=by
 refine E4 hS (by kernel_rfl) fun args v h=> ?_;unfold Py at h;split at h
 .rename_i a0;split at h
  .rename_i L0 g0 n0 e0;simp only [Ad,Ae,Ac] at h;obtain ⟨rfl,ho0,hw⟩:=h;obtain ⟨N,hN⟩:=j4m L0 hw;refine ⟨_,_,(.cons (Yi e0 ho0) .nil),?_,u1w L0 N _ hN,3,?_⟩
   .cases h1:decide (400<L0.length) <;> cases h2:L0.all Kc <;> simp only [Zb,Xk,h1,h2,Ab,Aa]
    .exact fun ρ u hu=>Qn (.cons (Mt R4) (DE.refl _)) ρ u hu
    .exact fun ρ u hu=>hu
    .exact fun ρ u hu=>Qn (.cons (Mt R4) (DE.refl _)) ρ u hu
    .exact fun ρ u hu=>Qn (.cons (Mt R4) (DE.refl _)) ρ u hu
   .cases decide (400<L0.length) <;> cases L0.all Kc <;> rfl
  .cases h
 .cases h
def T7 :CB:=(T6m.with w5y Py)
theorem JP :Zw prog T7:=(j8d NU)
inductive HY where
def Nl (aF:Int) (aQ:Int) (aP:Int) (aO:Int) (bD:Int) (bC:Int):HY->CI
 :=nofun
def x7u (aF:Int) (aQ:Int) (aP:Int) (aO:Int) (bD:Int) (bC:Int):HY->Yr HY
 :=nofun
def YU (aF:Int) (aQ:Int) (aP:Int) (aO:Int) (bD:Int) (bC:Int):Yr HY:=(bif (decide (aF<aO)) then (bif (decide (aQ<bD)) then (bif (decide (aP<bC)) then (bif (decide ((Jc (Jc aF aQ) aP)>=(-1000000))) then (bif (decide ((Jd (Jd aF aQ) aP)<=1000000)) then (bif (decide ((Jc (Jc aO bD) bC)>=(-1000000))) then (.ret [(.bool (decide ((Jd (Jd aO bD) bC)<=1000000)))]) else (.ret [(.bool false)])) else (.ret [(.bool false)])) else (.ret [(.bool false)])) else (.ret [(.bool false)])) else (.ret [(.bool false)])) else (.ret [(.bool false)]))
theorem w7k (aF:Int) (aQ:Int) (aP:Int) (aO:Int) (bD:Int) (bC:Int): ∀s,Xx prog (Zy prog 52) (Nl aF aQ aP aO bD bC) (Nl aF aQ aP aO bD bC s) (x7u aF aQ aP aO bD bC s)
 :=nofun
theorem x7v (aF:Int) (aQ:Int) (aP:Int) (aO:Int) (bD:Int) (bC:Int):Xx prog (Zy prog 52) (Nl aF aQ aP aO bD bC) (Zp prog 52 [(.agg [(.int .i64 aF),(.int .i64 aQ),(.int .i64 aP),(.int .i64 aO),(.int .i64 bD),(.int .i64 bC)])] true []) (YU aF aQ aP aO bD bC):=(lb (fun k0=>(lb (fun k1=>let b:=tt k1 (tt k0 nn);(lb (fun k2=>let a:=tt k2 b;(lb (fun k3=>(lb (fun k4=>let c:=tt k4 (tt k3 a);(lb (fun k5=>(lr 38 3 (pn 767) 1 5 [(2,(.bool (decide ((Jd (Jd aO bD) bC)<=1000000))))] (sl JP 100 [] (a7 [2]) a6 (CK 36 []) (tt k5 c)))) (fun k5=>(lr 38 3 (pn 767) 1 5 [(2,(.bool false))] (sl JP 100 [] (a7 [2]) a6 (CK 28 (bl 8 0)) (tt k5 c)))))) (fun k4=>(lr 38 3 (pn 767) 1 5 [(2,(.bool false))] (sl JP 72 [] (a7 [2]) a6 (CK 25 (bl 3 0)) (tt k4 (tt k3 a))))))) (fun k3=>(lr 38 3 (pn 767) 1 5 [(2,(.bool false))] (sl JP 72 [] (a7 [2]) a6 (CK 17 (bl 11 0)) (tt k3 a)))))) (fun k2=>(lr 38 3 (pn 767) 1 5 [(2,(.bool false))] (sl JP 44 [] (a7 [2]) a6 (CK 14 (bl 6 0)) (tt k2 b)))))) (fun k1=>(lr 38 3 (pn 767) 1 5 [(2,(.bool false))] (sl JP 44 [] (a7 [2]) a6 (CK 7 (bl 13 0)) (tt k1 (tt k0 nn))))))) (fun k0=>(lr 38 3 (pn 767) 1 5 [(2,(.bool false))] (sl JP 44 [] (a7 [2]) a6 (bl 20 0) (tt k0 nn)))))
theorem v9b (aF:Int) (aQ:Int) (aP:Int) (aO:Int) (bD:Int) (bC:Int) (n:Nat) (vs:zy) (h:Yx (x7u aF aQ aP aO bD bC) n (YU aF aQ aP aO bD bC)=.ret vs):Vi prog (Zy prog 52) (Zp prog 52 [(.agg [(.int .i64 aF),(.int .i64 aQ),(.int .i64 aP),(.int .i64 aO),(.int .i64 bD),(.int .i64 bC)])] true []) vs:=by have:=Zg (w7k aF aQ aP aO bD bC) n _ (x7v aF aQ aP aO bD bC);rwa [h] at this
def Kt (r:R6):Bool:=decide (r.a<r.d)&&(decide (r.b<r.e)&&(decide (r.c<r.f)&&(decide ((Jc (Jc r.a r.b) r.c)>=(-1000000))&&(decide ((Jd (Jd r.a r.b) r.c)<=1000000)&&(decide ((Jc (Jc r.d r.e) r.f)>=(-1000000))&&decide ((Jd (Jd r.d r.e) r.f)<=1000000))))))
def PU (a b c d e f:Int):Bool:=Kt ⟨a,b,c,d,e,f⟩
theorem j1g (a b c d e f:Int): ∃N,Yx (x7u a b c d e f) N (YU a b c d e f)=.ret [.bool (PU a b c d e f)]:=⟨0,by
 unfold YU PU Kt;simp only [Sr];cases decide (a<d) <;> cases decide (b<e) <;> cases decide (c<f) <;> cases decide ((Jc (Jc a b) c)>=(-1000000)) <;> cases decide ((Jd (Jd a b) c)<=1000000) <;> cases decide ((Jc (Jc d e) f)>=(-1000000)) <;> rfl⟩
def Pf :zy->Option (B9×Bool)
 | [.agg [.int .i64 aF,.int .i64 aQ,.int .i64 aP,.int .i64 aO,.int .i64 bD,.int .i64 bC]]=>some (.bool (PU aF aQ aP aO bD bC),true)
 | _=>none
theorem j7a {S:CB} (hS:Zw prog S):Zw prog (S.with w5v Pf):=by
 refine Kv hS (by kernel_rfl) fun args v h=> ?_;unfold Pf at h;split at h
 .rename_i aF aQ aP aO bD bC;simp only [Ad,Ae,and_true] at h;subst h;obtain ⟨N,hN⟩:=j1g aF aQ aP aO bD bC;exact ⟨_,_,(.cons (.refl _) .nil),rfl,v9b aF aQ aP aO bD bC N _ hN,3,rfl⟩
 .cases h
def T7v :CB:=(T7.with w5v Pf)
theorem Uu :Zw prog T7v:=(j7a JP)
inductive Hc where
 | h0 (v8:Int)
 | h1 (v16:Int) (aB:zp)
 | h2 (v4:Int) (aH:zx) (aS:zw) (aZ:Int) (bA:Int) (aG:Nat) (aM:zp)
 | h3 (v4:Int) (v38:Int) (aH:zx) (aS:zw) (aZ:Int) (bA:Int) (aG:Nat) (aM:zp) (aR:Int) (aY:Int) (aA:zw)
 | h4 (v1:Int) (v2:Int) (v72:zw) (v73:Int) (v74:Int) (bK:zw) (aV:Int) (aC:zx) (bF:zw) (bE:Int) (aG:Nat) (aM:zp) (aR:zw)
 | h5 (v2:Int) (v8:Int) (bQ:Int) (bK:zw) (aV:Int) (aC:zx) (bF:zw) (bE:Int) (bP:Int) (bI:Nat) (bM:zp) (aA:zw)
def Nw (l0:zx):Hc->CI
 | .h0 v8=>⟨⟨19,0,true⟩,none,(Zq prog 83 (pn 37) 0),none,(Zy prog 4),⟨Zs [(0,(dt l0)),(1,(.fn 51 [])),(7,(ii (l0.length:Int))),(8,(ii v8))],Xe [] 0,0,[],true⟩,[⟨⟨9,0,true⟩,(Wr prog 50 [1,0] 2),(Zq prog 50 [1,0] 1),none,(Zy prog 4),Zs [(5,(dt l0)),(6,(.fn 51 []))]⟩,⟨⟨25,0,true⟩,(Wr prog 29 (pn 19) 1),(Zq prog 29 (pn 19) 1),none,(Zy prog 5),Zs [(0,(dt l0)),(8,(dt l0))]⟩],.leaf⟩
 | .h1 v16 aB=>⟨⟨36,0,true⟩,none,(Zq prog 85 (pn 19659) 0),none,(Zy prog 5),⟨Zs [(1,(.ptr 0 0)),(3,(.ptr 2 0)),(8,(.sl 1 0 1 (.un 1))),(9,(ii 1)),(10,(ii 0)),(14,(dt l0)),(15,(ii (l0.length:Int))),(16,(ii v16))],Xe [⟨[(.sl 1 0 1 (.un 1))],137,none⟩,⟨[(dt l0)],45,none⟩,⟨[(.sla 7 1 0 aB.length (.un 1))],93,none⟩,⟨[.nilf],99,none⟩,⟨[.nils],46,none⟩,⟨[(ii 0)],24,none⟩,⟨[.nils,.nils,(ii 0),(ii 0)],141,none⟩,(rz aB 3 1)] 0,8,[],true⟩,[⟨⟨65,0,true⟩,(Wr prog 53 (pn 19) 1),(Zq prog 53 (pn 19) 1),none,(Zy prog 53),Zs [(2,(.ptr 3 0)),(4,(.ptr 4 0)),(5,(.ptr 5 0)),(6,(.ptr 6 0)),(13,(.sl 1 0 1 (.un 1)))]⟩,⟨⟨25,0,true⟩,(Wr prog 29 (pn 39) 3),(Zq prog 29 (pn 39) 1),none,(Zy prog 5),Zs [(0,(dt l0)),(11,(.agg [.nilf])),(13,(.sl 1 0 1 (.un 1)))]⟩],.leaf⟩
 | .h2 v4 aH aS aZ bA aG aM=>⟨⟨86,0,true⟩,none,(Zq prog 111 [1,0,0] 0),none,[],⟨Zs [(0,(.yld 0)),(1,(.ptr 5 0)),(2,(.ptr 7 0)),(4,(ii v4))],Cj [(1,⟨[.nilf],99,none⟩),(2,⟨[.nils],46,none⟩),(3,⟨[(ii 0)],24,none⟩),(4,⟨[(.sla 9 6 0 aH.length (.un 6)),(dt aS),(ii aZ),(ii bA)],141,none⟩),(5,⟨[(.sla 6 1 0 aG (.un 1))],93,none⟩),(6,(rz aM 3 1)),(7,⟨[(.sl 8 0 1 (.un 1))],137,none⟩),(8,⟨[(dt l0)],45,none⟩),(9,(rz aH 76 6))],10,[],true⟩,[⟨⟨65,0,true⟩,none,(.inRangeFunc 0::(Zq prog 53 (pn 43) 1)),none,(Zy prog 53),Zs [(4,(.ptr 2 0)),(5,(.ptr 3 0)),(6,(.ptr 4 0))]⟩,⟨⟨25,0,true⟩,(Wr prog 29 (pn 39) 3),(Zq prog 29 (pn 39) 1),none,(Zy prog 5),Zs [(0,(dt l0)),(11,(.agg [.nilf])),(13,(.sl 8 0 1 (.un 1)))]⟩],(Co [(0,⟨.ready,none,65,Zs [(2,(.ptr 1 0)),(4,(.ptr 2 0)),(5,(.ptr 3 0)),(6,(.ptr 4 0))],[15],(Wx prog 53 [1,1,0,1,0,0]),(Wx prog 53 [1,1,0,1,0,1])⟩)])⟩
 | .h3 v4 v38 aH aS aZ bA aG aM aR aY aA=>⟨⟨86,0,true⟩,none,(Zq prog 111 (pn 629065) 0),none,[],⟨Zs [(0,(.yld 0)),(1,(.ptr 5 0)),(2,(.ptr 7 0)),(4,(ii v4)),(5,(.ptr 9 0)),(6,(ii 0)),(29,(.sl 8 0 1 (.un 1))),(30,(ii 1)),(31,(ii 0)),(36,(dt l0)),(37,(ii (l0.length:Int))),(38,(ii v38))],Cj [(1,⟨[.nilf],99,none⟩),(2,⟨[.nils],46,none⟩),(3,⟨[(ii 0)],24,none⟩),(4,⟨[(.sla 12 6 0 aH.length (.un 6)),(dt aS),(ii aZ),(ii bA)],141,none⟩),(5,⟨[(.sla 6 1 0 aG (.un 1))],93,none⟩),(6,(rz aM 3 1)),(7,⟨[(.sl 8 0 1 (.un 1))],137,none⟩),(8,⟨[(dt l0)],45,none⟩),(9,⟨[(ii aR),(ii aY),(.sl 10 0 1 (.ex 1))],146,none⟩),(10,⟨[(.sla 11 4 0 aA.length (.un 4))],138,none⟩),(11,(rz aA 155 4)),(12,(rz aH 76 6))],13,[],true⟩,[⟨⟨65,0,true⟩,none,(.inRangeFunc 0::(Zq prog 53 (pn 43) 1)),none,(Zy prog 53),Zs [(4,(.ptr 2 0)),(5,(.ptr 3 0)),(6,(.ptr 4 0))]⟩,⟨⟨25,0,true⟩,(Wr prog 29 (pn 39) 3),(Zq prog 29 (pn 39) 1),none,(Zy prog 5),Zs [(0,(dt l0)),(11,(.agg [.nilf])),(13,(.sl 8 0 1 (.un 1)))]⟩],(Co [(0,⟨.ready,none,65,Zs [(2,(.ptr 1 0)),(4,(.ptr 2 0)),(5,(.ptr 3 0)),(6,(.ptr 4 0))],[15],(Wx prog 53 [1,1,0,1,0,0]),(Wx prog 53 [1,1,0,1,0,1])⟩)])⟩
 | .h4 v1 v2 v72 v73 v74 bK aV aC bF bE aG aM aR=>⟨⟨101,0,true⟩,none,(Zq prog 87 (pn 39) 0),none,[],⟨Zs [(0,(.ptr 0 0)),(1,(ii v1)),(2,(ii v2)),(72,(dt v72)),(73,(ii v73)),(74,(ii v74))],Cj [(0,⟨[(.sla 10 6 0 aC.length (.un 6)),(dt bF),(ii bE),(ii v2)],141,none⟩),(2,⟨[.nilf],99,none⟩),(3,⟨[.nils],46,none⟩),(4,⟨[(ii 0)],24,none⟩),(5,⟨[(.sla 6 1 0 aG (.un 1))],93,none⟩),(6,(rz aM 3 1)),(7,⟨[(.sl 8 0 1 (.un 1))],137,none⟩),(8,⟨[(dt l0)],45,none⟩),(9,⟨[(dt aR)],138,none⟩),(10,(rz aC 76 6))],11,[],true⟩,[⟨⟨65,0,true⟩,(Wr prog 53 (pn 1963) 5),(Zq prog 53 (pn 1963) 1),(some 1),[],Zs [(6,(.ptr 0 0)),(54,(ii v1)),(56,(ii v2)),(57,(dt bK))]⟩,⟨⟨86,0,true⟩,(Wr prog 111 (pn 713) 2),(Zq prog 111 (pn 713) 1),none,[],Zs [(0,(.yld 1)),(1,(.ptr 5 0)),(2,(.ptr 7 0)),(4,(ii aV)),(82,(.yld 1)),(83,(.agg [(ii v1),(ii v2),(.sl 9 0 1 (.ex 1))]))]⟩,⟨⟨65,0,true⟩,none,(.inRangeFunc 1::(Zq prog 53 (pn 43) 1)),none,(Zy prog 53),Zs [(4,(.ptr 3 0)),(5,(.ptr 4 0)),(6,(.ptr 0 0))]⟩,⟨⟨25,0,true⟩,(Wr prog 29 (pn 39) 3),(Zq prog 29 (pn 39) 1),none,(Zy prog 5),Zs [(0,(dt l0)),(11,(.agg [.nilf])),(13,(.sl 8 0 1 (.un 1)))]⟩],(Co [(1,⟨.busy,none,65,Zs [(2,(.ptr 2 0)),(4,(.ptr 3 0)),(5,(.ptr 4 0)),(6,(.ptr 0 0))],[15],(Wx prog 53 [1,1,0,1,0,0]),(Wx prog 53 [1,1,0,1,0,1])⟩)])⟩
 | .h5 v2 v8 bQ bK aV aC bF bE bP bI bM aA=>⟨⟨101,0,true⟩,none,(Zq prog 87 (pn 146) 0),none,[],⟨Zs [(0,(.ptr 0 0)),(2,(ii v2)),(8,(ii v8))],Cj [(0,⟨[(.sla 1 6 0 aC.length (.un 6)),(dt bF),(ii bE),(ii bP)],141,none⟩),(1,(rz aC 76 6)),(3,⟨[.nilf],99,none⟩),(4,⟨[.nils],46,none⟩),(5,⟨[(ii 0)],24,none⟩),(6,⟨[(.sla 7 1 0 bI (.un 1))],93,none⟩),(7,(rz bM 3 1)),(8,⟨[(.sl 9 0 1 (.un 1))],137,none⟩),(9,⟨[(dt l0)],45,none⟩),(10,⟨[(dt aA)],138,none⟩)],11,[],true⟩,[⟨⟨65,0,true⟩,(Wr prog 53 (pn 1963) 5),(Zq prog 53 (pn 1963) 1),(some 2),[],Zs [(6,(.ptr 0 0)),(54,(ii bQ)),(56,(ii v2)),(57,(dt bK))]⟩,⟨⟨86,0,true⟩,(Wr prog 111 (pn 713) 2),(Zq prog 111 (pn 713) 1),none,[],Zs [(0,(.yld 2)),(1,(.ptr 6 0)),(2,(.ptr 8 0)),(4,(ii aV)),(82,(.yld 2)),(83,(.agg [(ii bQ),(ii v2),(.sl 10 0 1 (.ex 1))]))]⟩,⟨⟨65,0,true⟩,none,(.inRangeFunc 2::(Zq prog 53 (pn 43) 1)),none,(Zy prog 53),Zs [(4,(.ptr 4 0)),(5,(.ptr 5 0)),(6,(.ptr 0 0))]⟩,⟨⟨25,0,true⟩,(Wr prog 29 (pn 39) 3),(Zq prog 29 (pn 39) 1),none,(Zy prog 5),Zs [(0,(dt l0)),(11,(.agg [.nilf])),(13,(.sl 9 0 1 (.un 1)))]⟩],(Co [(2,⟨.busy,none,65,Zs [(2,(.ptr 3 0)),(4,(.ptr 4 0)),(5,(.ptr 5 0)),(6,(.ptr 0 0))],[15],(Wx prog 53 [1,1,0,1,0,0]),(Wx prog 53 [1,1,0,1,0,1])⟩)])⟩
def KM :List (Option zr):=[some [0,1,7,8],some [5,6],some [0,8]]
def KO :List (Option zr):=[]
def j2q :List (Option zr):=[some [1,3,8,9,10,14,15,16],some [2,4,5,6,13],some [0,11,13]]
def j2s :List (Option zr):=[]
def j2p :List (Option zr):=[some [0,1,2,4],some [4,5,6],some [0,11,13]]
def j2r :List (Option zr):=[some [2,4,5,6],none,none,none,none,none,none,none,none,none]
def u0f :List (Option zr):=[some [0,1,2,4,5,6,29,30,31,36,37,38],some [4,5,6],some [0,11,13]]
def u0h :List (Option zr):=[some [2,4,5,6],none,none,none,none,none,none,none,none,none,none,none,none]
def u0e :List (Option zr):=[some [0,1,2,72,73,74],some [6,54,56,57],some [0,1,2,4,82,83],some [4,5,6],some [0,11,13]]
def u0g :List (Option zr):=[none,some [2,4,5,6],none,none,none,none,none,none,none,none,none]
def KL :List (Option zr):=[some [0,2,8],some [6,54,56,57],some [0,1,2,4,82,83],some [4,5,6],some [0,11,13]]
def KN :List (Option zr):=[none,none,some [2,4,5,6],none,none,none,none,none,none,none,none]
def Xo (l0:zx):Hc->Yr Hc
 | .h0 v8=>let g:=rd l0 v8.toNat;(bif (decide (v8<(l0.length:Int))) then (bif ((decide (0<=v8/\v8<(l0.length:Int)))&&true) then (bif (!(PU g.a g.b g.c g.d g.e g.f)) then (bif (decide (v8>=0)) then (.ret [(.int .i64 8)]) else (.to (.h1 0 ([]:zp)))) else (.to (.h0 (wrap .i64 (v8+1))))) else .stuck) else (.to (.h1 0 ([]:zp))))
 | .h1 v16 aB=>let a:=Yy aB.length (CS (Zz (Wz (Yy aB.length (CS (Zz aB))))));let b:=rd l0 v16.toNat;(bif (decide (v16<(l0.length:Int))) then (bif ((decide (0<=v16/\v16<(l0.length:Int)))&&true) then (bif (Nat.beq 1 1&&((decide (0+aB.length=aB.length))&&decide ((aB.length+2+1)*(8+1)<=Jm))) then (.to (.h1 (wrap .i64 (v16+1)) (aB++[b.c,b.f]))) else .stuck) else .stuck) else (bif (decide (aB.length<4611686018427387904)) then (bif (decide (aB.length=aB.length)) then (.to (.h2 1 ([]:zx) ([]:zw) 0 0 (MQ a) (Wf a))) else .stuck) else .stuck))
 | .h2 v4 aH aS aZ bA aG aM=>(bif (decide (v4<((aG:Nat):Int))) then (bif ((decide (0<=(wrap .i64 (v4 - 1))/\(wrap .i64 (v4 - 1))<((aG:Nat):Int)))&&true) then (bif (decide ((0+(Int.toNat (wrap .i64 (v4 - 1))))<aM.length)) then (bif ((decide (0<=v4/\v4<((aG:Nat):Int)))&&true) then (bif (decide ((0+v4.toNat)<aM.length)) then (.to (.h3 v4 0 aH aS aZ bA aG aM (rd aM (0+(Int.toNat (wrap .i64 (v4 - 1))))) (rd aM (0+v4.toNat)) ([]:zw))) else .stuck) else .stuck) else .stuck) else .stuck) else (bif (decide ((aH.length:Int)>400)) then (.ret [(.int .i64 8)]) else (bif (Nat.beq 6 6&&(decide (0+aH.length<=aH.length)&&DQ (Zz aH))) then (bif (Wk (Cw R6 (aH.length) (fun k=>(Zz aH) (0+k))) (CA l0)) then (bif (!(Jv (Cw R6 (aH.length) (fun k=>(Zz aH) (0+k))) (CA l0))) then (.ret [(.int .i64 8)]) else (.ret [(.int .i64 0)])) else .stuck) else .stuck)))
 | .h3 v4 v38 aH aS aZ bA aG aM aR aY aA=>let g:=Zb (CA aA);let h:=rd l0 v38.toNat;(bif (decide (v38<(l0.length:Int))) then (bif ((decide (0<=v38/\v38<(l0.length:Int)))&&true) then (bif (decide (h.c <=aR)) then (bif (decide (aR<h.f)) then (bif (Nat.beq 4 4&&((decide (0+aA.length=aA.length))&&decide ((aA.length+1+1)*(32+1)<=Jm))) then (.to (.h3 v4 (wrap .i64 (v38+1)) aH aS aZ bA aG aM aR aY (aA++[(R4.mk h.a h.b h.d h.e)]))) else .stuck) else (.to (.h3 v4 (wrap .i64 (v38+1)) aH aS aZ bA aG aM aR aY aA))) else (.to (.h3 v4 (wrap .i64 (v38+1)) aH aS aZ bA aG aM aR aY aA))) else .stuck) else (bif (Jf (CA aA)) then (bif ((Xk (CA aA)) != 0) then (.ret [(.int .i64 8)]) else (bif (decide (((g.length :Nat):Int)>0)) then (bif (bA == aR) then (bif (Wa (CA aS) (CA g)) then (bif (Vs (CA aS) (CA g)) then (.to (.h5 aY aZ aR g v4 aH aS aZ bA aG aM aA)) else (.to (.h4 aR aY g ((g.length :Nat):Int) 0 g v4 aH g (aH.length:Int) aG aM aA))) else .stuck) else (.to (.h4 aR aY g ((g.length :Nat):Int) 0 g v4 aH g (aH.length:Int) aG aM aA))) else (.to (.h4 aR aY g ((g.length :Nat):Int) 0 g v4 aH g (aH.length:Int) aG aM aA)))) else .stuck))
 | .h4 v1 v2 v72 v73 v74 bK aV aC bF bE aG aM aR=>let e:=rd v72 v74.toNat;(bif (decide (v74<v73)) then (bif ((decide (0<=v74/\v74<(v72.length:Int)))&&true) then (bif (Nat.beq 6 6&&((decide (0+aC.length=aC.length))&&decide ((aC.length+1+1)*(48+1)<=Jm))) then (.to (.h4 v1 v2 v72 v73 (wrap .i64 (v74+1)) bK aV (aC++[(R6.mk e.a e.b v1 e.c e.d v2)]) bF bE aG aM aR)) else .stuck) else .stuck) else (.to (.h2 (wrap .i64 (aV+1)) aC bF bE v2 aG aM)))
 | .h5 v2 v8 bQ bK aV aC bF bE bP bI bM aA=>let f:=rd aC (0+v8.toNat);(bif (decide (v8<(aC.length:Int))) then (bif ((decide (0<=v8/\v8<(aC.length:Int)))&&true) then (bif (decide ((0+v8.toNat)<aC.length)) then (.to (.h5 v2 (wrap .i64 (v8+1)) bQ bK aV (aC.set (0+v8.toNat) (R6.mk f.a f.b f.c f.d f.e v2)) bF bE bP bI bM aA)) else .stuck) else .stuck) else (.to (.h2 (wrap .i64 (aV+1)) aC bF bE v2 bI bM)))
def YM (l0:zx):Yr Hc:=(bif (decide ((l0.length:Int)>400)) then (.ret [(.int .i64 4)]) else (.to (.h0 0)))
theorem w8g (l0:zx): ∀s,Xx prog (Zy prog 29) (Nw l0) (Nw l0 s) (Xo l0 s)
 | .h0 v8=>let b:=fl ([]:zp) nn;(lb (fun k0=>(lo fun aL=>let a:=ww aL (tt k0 nn);(lb (fun k1=>(lb (fun k2=>(lr 25 29 (pn 75) 1 5 [(2,(ii 8))] (sl Uu 53 [] (a7 [2]) a6 (CK 3 []) (tt k2 (tt k1 a))))) (fun k2=>(sl Uu 113 [(3,1,Zz ([]:zp))] ⟨[6,1,7,2,3,4,5,8],[],j2q,j2s⟩ ⟨[],[.keep,.keep,.cells [.grow 7 1],.keep,.keep,.keep,.keep,.keep],[]⟩ (bl 4 11) (pp b (tt k2 (tt k1 a))))))) (fun k1=>(sl Uu 44 [] ⟨[],[],KM,KO⟩ a6 (bl 2 1) (tt k1 a)))))) (fun k0=>(sl Uu 82 [(3,1,Zz ([]:zp))] ⟨[5,0,6,1,2,3,4,7],[],j2q,j2s⟩ ⟨[],[.keep,.keep,.cells [.grow 7 1],.keep,.keep,.keep,.keep,.keep],[]⟩ (bl 3 4) (pp b (tt k0 nn)))))
 | .h1 v16 aB=>(lb (fun k0=>(lo fun o0=>(lo fun o1=>let j:=rd l0 (tn v16);let b:=aB++[j.c,j.f];let d:=xL (aB.length+2) (aB++[(rd l0 (tn v16)).c,(rd l0 (tn v16)).f]).length;(sl Uu 34 [] ⟨[0,1,2,3,4,5,6,10],[],j2q,j2s⟩ ⟨[],[.keep,.keep,.cells [.len b.length],.keep,.keep,.keep,.keep,.rowed 1 b.length (Zz b)],[]⟩ [true] (pp d (pp d (pp (xS (aB.length+2) (Zf (Zz aB) 0 aB.length 1 [(ii (rd l0 (tn v16)).c),(ii (rd l0 (tn v16)).f)]) (Zz (aB++[(rd l0 (tn v16)).c,(rd l0 (tn v16)).f]))) (pp (pp (xF (Zf (Zz aB) 0 aB.length 1 [(ii (rd l0 (tn v16)).c),(ii (rd l0 (tn v16)).f)])) nn) (ww o1 (ww o0 (tt k0 nn))))))))))) (fun k0=>(lo fun o0=>(lo fun o1=>let a:=Wf (Yy aB.length (CS (Zz (Wz (Yy aB.length (CS (Zz aB)))))));let e:=xG (Nat.beq 1 1);let g:=xG (decide (aB.length<4611686018427387904));let h:=xG (decide (aB.length=aB.length));let i:=xG (Nat.beq 0 0);(sl Uu 46 [(76,6,Zz ([]:zx))] ⟨[8,3,4,5,6,2,7,0,1,9],[],j2p,j2r⟩ ⟨[],(DG 4 [.cells [.grow 9 6,.list 0 (Zz ([]:zw)),.keep,.keep],.keep,.rowed 1 a.length (Zz a),.keep,.keep,.keep]),[]⟩ (bl 2 0) (pp (xL aB.length (Wf (Yy aB.length (CS (Zz (Wz (Yy aB.length (CS (Zz aB)))))))).length (by first | exact S8 _ _ | exact Us rfl)) (pp (xS aB.length (Zz (Wf (Yy aB.length (CS (Zz (Wz (Yy aB.length (CS (Zz aB))))))))) (Zz (Wf (Yy aB.length (CS (Zz (Wz (Yy aB.length (CS (Zz aB)))))))))) (pp (fl a (fl ([]:zx) nn)) (pp (pp e (pp e (pp i (pp h (pp (xG (FB (Zz (Wz (Yy aB.length (CS (Zz aB))))))) g))))) (pp (pp e (pp e (pp i (pp h (pp (xG (FB (Zz aB))) g))))) (tt k0 nn)))))))))))
 | .h2 v4 aH aS aZ bA aG aM=>(lb (fun k0=>(lo fun o0=>(lo fun o1=>(lo fun o2=>(lo fun o3=>(sl Uu 48 [(155,4,Zz ([]:zw))] ⟨[0,1,2,3,4,5,6,7,8,10,11,12,9],[],u0f,u0h⟩ ⟨[],(DG 10 [.cells [.grow 11 4],.keep,.keep]),[]⟩ (CK 3 []) (pp (fl aM (fl ([]:zw) (fl aH nn))) (ww o3 (ww o2 (ww o1 (ww o0 (tt k0 nn)))))))))))) (fun k0=>(lb (fun k1=>(lr 25 29 (pn 311) 1 5 [(2,(ii 8))] (sl Uu 50 [] (a7 [2]) a6 (bl 7 126) (tt k1 (tt k0 nn))))) (fun k1=>(lo fun bO=>(lo fun cI=>let a:=pp (xw bO) (pp nn nn);let b:=pp (xr l0) (xw cI);let c:=tt k1 (tt k0 nn);(lb (fun k2=>(lr 25 29 (pn 311) 1 5 [(2,(ii 8))] (sl Uu 53 [] (a7 [2]) a6 (bl 7 64) (tt k2 (pp (pp a (pp (xI R6 (aH.length) (fun k=>(Zz aH) (0+k))) b)) c))))) (fun k2=>(lr 25 3 (pn 767) 1 5 [(2,(ii 0))] (sl Uu 54 [] (a7 [2]) a6 (bl 7 0) (tt k2 (pp (pp a (pp (xI R6 (aH.length) (fun k=>(Zz aH) (0+k))) b)) c))))))))))))
 | .h3 v4 v38 aH aS aZ bA aG aM aR aY aA=>(lb (fun k0=>(lo fun aL=>let j:=ww aL (tt k0 nn);let o:=fl aM (fl aA (fl aH nn));let r:=List.range 13;(lb (fun k1=>(lb (fun k2=>(lo fun o0=>let s:=rd l0 (tn v38);let i:=s;let c:=aA++[(R4.mk i.a i.b i.d i.e)];let v:=aA++[(R4.mk s.a s.b s.d s.e)];let w:=aA.length+1;let f:=xL w v.length;let t:=Zf (Zz aA) 0 aA.length 4 [(ii s.a),(ii s.b),(ii s.d),(ii s.e)];(sl Uu 41 [] ⟨[0,1,2,3,4,5,6,7,8,9,10,15,12],[],u0f,u0h⟩ ⟨[],(DG 10 [.cells [.len c.length],.rowed 4 c.length (Zz c),.keep]),[]⟩ (CK 8 []) (pp f (pp f (pp (xS w t (Zz v)) (pp (fl aM (pp (xF t) (fl aH nn))) (ww o0 (tt k2 (tt k1 j)))))))))) (fun k2=>(sl Uu 41 [] ⟨r,[],u0f,u0h⟩ a6 (CK 7 [false]) (pp o (tt k2 (tt k1 j))))))) (fun k1=>(sl Uu 41 [] ⟨r,[],u0f,u0h⟩ a6 (bl 8 1) (pp o (tt k1 j))))))) (fun k0=>let h:=xZ (Cv 4 4 0 aA.length aA.length (Zz aA)) aA.length (Zz aA);let n:=xS aA.length (Zz aA) (Zz aA);let p:=xL aA.length aA.length;let q:=fl aH (fl aM nn);(Ve (sl Uu (C':=⟨⟨65,0,true⟩,(Wr prog 53 (pn 299) 4),(Zq prog 53 (pn 299) 1),(some 0),[],⟨Zs [(2,(.ptr 1 0)),(4,(.ptr 2 0)),(5,(.ptr 3 0)),(6,(.ptr 4 0)),(7,(.ptr 6 0)),(20,(dt aA))],Cj [(1,⟨[.nilf],99,none⟩),(2,⟨[.nils],46,none⟩),(3,⟨[(ii 0)],24,none⟩),(4,⟨[(.sla 5 6 0 aH.length (.un 6)),(dt aS),(ii aZ),(ii bA)],141,none⟩),(5,(rz aH 76 6)),(6,⟨[(ii aR),(ii aY),(.sl 7 0 1 (.ex 1))],146,none⟩),(7,⟨[(dt aA)],138,none⟩),(8,⟨[(.sla 9 1 0 aG (.un 1))],93,none⟩),(9,(rz aM 3 1)),(10,⟨[(.sl 11 0 1 (.un 1))],137,none⟩),(11,⟨[(dt l0)],45,none⟩)],12,[],true⟩,[⟨⟨86,0,true⟩,(Wr prog 111 (pn 713) 2),(Zq prog 111 (pn 713) 1),none,[],Zs [(0,(.yld 0)),(1,(.ptr 8 0)),(2,(.ptr 10 0)),(4,(ii v4)),(82,(.yld 0)),(83,(.agg [(ii aR),(ii aY),(.sl 7 0 1 (.ex 1))]))]⟩,⟨⟨65,0,true⟩,none,(.inRangeFunc 0::(Zq prog 53 (pn 43) 1)),none,(Zy prog 53),Zs [(4,(.ptr 2 0)),(5,(.ptr 3 0)),(6,(.ptr 4 0))]⟩,⟨⟨25,0,true⟩,(Wr prog 29 (pn 39) 3),(Zq prog 29 (pn 39) 1),none,(Zy prog 5),Zs [(0,(dt l0)),(11,(.agg [.nilf])),(13,(.sl 11 0 1 (.un 1)))]⟩],(Co [(0,⟨.busy,none,65,Zs [(2,(.ptr 1 0)),(4,(.ptr 2 0)),(5,(.ptr 3 0)),(6,(.ptr 4 0))],[15],(Wx prog 53 [1,1,0,1,0,0]),(Wx prog 53 [1,1,0,1,0,1])⟩)])⟩) 37 [] ⟨[0,1,2,3,4,12,13,10,5,6,7,8],[11],[some [2,4,5,6,7,20],some [0,1,2,4,82,83],some [4,5,6],some [0,11,13]],[some [2,4,5,6],none,none,none,none,none,none,none,none,none,none,none]⟩ ⟨[(20,.frz aA.length aA.length (Zz aA) (Zz aA))],[.keep,.keep,.keep,.keep,.keep,.keep,.keep,.cells [.frz aA.length aA.length (Zz aA) (Zz aA)],.keep,.keep,.keep,.keep],[]⟩ (bl 2 0) (pp h (pp p (pp n (pp h (pp p (pp n (pp q (pp (fl aA nn) (tt k0 nn)))))))))) (lo fun aL=>let g:=pp (pp (xr aA) (xw aL)) nn;(lb (fun k1=>(lr 25 29 (pn 311) 1 5 [(2,(ii 8))] (sl Uu 67 [] (a7 [2]) a6 (bl 8 254) (tt k1 (tt k1 g))))) (fun k1=>let l:=fl aM (fl aH nn);(lb (fun k2=>let m:=tt k2 (tt k1 g);(lb (fun k3=>(lo fun bT=>let u:=Zb (CA aA);(lb (fun k4=>(sl Uu 75 [] ⟨[4,5,0,1,2,3,8,9,10,11,7],[],KL,KN⟩ a6 (bl 15 32764) (pp q (tt k4 (pp (pp (xr aS) (pp (xI R4 u.length (Zz u)) (xw bT))) (tt k3 m)))))) (fun k4=>(sl Uu 95 [] ⟨[4,0,1,2,3,8,9,10,11,7,5],[],u0e,u0g⟩ a6 (bl 15 16380) (pp l (tt k4 (pp (pp (xr aS) (pp (xI R4 u.length (Zz u)) (xw bT))) (tt k3 m))))))))) (fun k3=>(sl Uu 95 [] ⟨[4,0,1,2,3,8,9,10,11,7,5],[],u0e,u0g⟩ a6 (bl 15 252) (pp l (tt k3 m)))))) (fun k2=>(sl Uu 95 [] ⟨[4,0,1,2,3,8,9,10,11,7,5],[],u0e,u0g⟩ a6 (bl 15 0) (pp l (tt k2 (tt k1 g))))))))))))
 | .h4 v1 v2 v72 v73 v74 bK aV aC bF bE aG aM aR=>(lb (fun k0=>(lo fun o0=>(lo fun o1=>let h:=rd v72 (tn v74);let g:=h;let e:=aC++[(R6.mk g.a g.b v1 g.c g.d v2)];let j:=aC++[(R6.mk h.a h.b v1 h.c h.d v2)];let l:=aC.length+1;let f:=xL l j.length;let i:=Zf (Zz aC) 0 aC.length 6 [(ii h.a),(ii h.b),(ii v1),(ii h.c),(ii h.d),(ii v2)];(sl Uu 23 [] ⟨[0,1,2,3,4,5,6,7,8,9,13],[],u0e,u0g⟩ ⟨[],[.cells [.len e.length,.keep,.keep,.keep],.keep,.keep,.keep,.keep,.keep,.keep,.keep,.keep,.keep,.rowed 6 e.length (Zz e)],[]⟩ [true] (pp f (pp f (pp (xS l i (Zz j)) (pp (fl aM (pp (xF i) nn)) (ww o1 (ww o0 (tt k0 nn))))))))))) (fun k0=>(sl Uu 22 [] ⟨[1,2,3,4,0,5,6,7,8,10],[],j2p,j2r⟩ a6 (bl 2 0) (pp (fl aM (fl aC nn)) (tt k0 nn)))))
 | .h5 v2 v8 bQ bK aV aC bF bE bP bI bM aA=>(lb (fun k0=>(lo fun o0=>(lo fun o1=>let i:=rd aC (0+(tn v8));let h:=i;let f:=aC.set (0+(tn v8)) (R6.mk h.a h.b h.c h.d h.e v2);let j:=aC.set (0+(tn v8)) (R6.mk i.a i.b i.c i.d i.e v2);let g:=xL aC.length j.length;let l:=Xi (Zz aC) (0+(tn v8)) 5 [(ii v2)];(sl Uu 34 [] ⟨(List.range 11),[],KL,KN⟩ ⟨[],[.cells [.len f.length,.keep,.keep,.keep],.rowed 6 f.length (Zz f),.keep,.keep,.keep,.keep,.keep,.keep,.keep,.keep,.keep],[]⟩ [true] (pp g (pp g (pp (xS aC.length l (Zz j)) (pp (pp (xF l) (fl bM nn)) (ww o1 (ww o0 (tt k0 nn))))))))))) (fun k0=>(sl Uu 36 [] ⟨[2,3,4,5,0,6,7,8,9,1],[],j2p,j2r⟩ a6 (bl 2 0) (pp (fl bM (fl aC nn)) (tt k0 nn)))))
theorem x8q (l0:zx):Xx prog (Zy prog 29) (Nw l0) (Zp prog 29 [(dt l0)] true []) (YM l0):=(lb (fun k0=>(lr 25 29 (pn 37) 1 5 [(2,(ii 4))] (sl Uu 16 [] (a7 [2]) a6 [true] (tt k0 nn)))) (fun k0=>(sl Uu 40 [] ⟨[],[],KM,KO⟩ a6 [false] (tt k0 nn))))
theorem u0d (l0:zx) (n:Nat) (vs:zy) (h:Yx (Xo l0) n (YM l0)=.ret vs):Vi prog (Zy prog 29) (Zp prog 29 [(dt l0)] true []) vs:=by have:=Zg (w8g l0) n _ (x8q l0);rwa [h] at this
theorem w0j (l:zw):(Zb l).length <=400:=by
 grind [Zb]
def D6 :CM R6 R4:=⟨R6.c,R6.f,fun r=>⟨r.a,r.b,r.d,r.e⟩,fun x x' s=>⟨s.a,s.b,x,s.c,s.d,x'⟩,fun x r=>⟨r.a,r.b,r.c,r.d,r.e,x⟩,Zb,Vs⟩
theorem j1b (l:zx) (x:Int):(D6.sec l x).length <=1000:=AG (w0j _) (by omega)
def DF :zy:=[.int .i64 8]
def Tm (l out:zx):zy:=bif decide ((out.length:Int)>400) then [.int .i64 8] else bif Jv out l then [.int .i64 0] else [.int .i64 8]
def E0 (l:zx) (x:Int):Bool:=Xk (D6.inn l x) != 0
def Ce (l:zx):Nat->Nat->Bool
 | 0,_=>true
 | k+1,i=>bif E0 l (rd (D6.cuts l) i) then false else Ce l k (i+1)
section
variable (l:zx) (hl:l.length<=400)
include hl
theorem u7b (i:Nat) (out:zx) (last:zw) (first fin x x':Int): ∀(k j:Nat) (acc:zw),j+k=l.length->acc.length<=j->
  ∃n,∀N,Yx (Xo l) (N+n) (.to (.h3 (i:Int) (j:Int) out last first fin ((D6.cuts l).length) (Wf (Wz (D6.ends l))) x x' acc))=Yx (Xo l) N (.to (.h3 (i:Int) (l.length:Int) out last first fin ((D6.cuts l).length) (Wf (Wz (D6.ends l))) x x' (acc++D6.inn (l.drop j) x)))
 | 0,j,acc,h,ha=>by refine ⟨0,fun N=> ?_⟩;rw [Av (by omega),show D6.inn ([]:zx) x=[] from rfl,AA,Bg,show j=l.length by omega]
 | k+1,j,acc,h,ha=>by
  have hj:j<l.length:=by omega
  obtain ⟨n,hn⟩:=u7b i out last first fin x x' k (j+1) (acc++D6.inn [rd l j] x) (by omega) (by have:=D6.inn_length [rd l j] x;grind)
  refine ⟨n+1,fun N=> ?_⟩;have e:D6.inn (l.drop j) x=D6.inn [rd l j] x++D6.inn (l.drop (j+1)) x:=by rw [Yo hj,<-D6.inn_append];rfl
  rw [e,<-AL,Zx,<-AH,<-hn N];by_cases h1:D6.lo (rd l j)<=x
  .by_cases h2:x<D6.hi (rd l j)
   .rw [D6.inn_t _ _ h1 h2];simp only [D6] at h1 h2 ⊢;simp (disch:=omega) only [Xo,Xs,Za,Zm,Zt,Zr,Ye,Yq,Ya,Zn,Zk,Zu,Yc,Zj,Ah,As,Ai,Ak,Ab,Aa]
   .rw [D6.inn_f2 _ _ h2,AA];simp only [D6] at h1 h2;simp (disch:=omega) only [Xo,Xs,Ym,Za,Zm,Zt,Zr,Ye,Yq,Ya,Zn,Zk,Zu,Yc,Zj,Ah,As,Ai,Ak,Ab,Aa]
  .rw [D6.inn_f1 _ _ h1,AA];simp only [D6] at h1;simp (disch:=omega) only [Xo,EU,Za,Zm,Zt,Zr,Ye,Yq,Ya,Zn,Zk,Zu,Yc,Zj,Ah,As,Ai,Ak,Ab,Aa]
theorem u7a (i:Nat) (hi:i<=1000) (x x':Int) (s last:zw) (first:Int) (inn:zw) (hs:s.length<=1000): ∀(k j:Nat) (out:zx),j+k=s.length->out.length<=10000000+j->
  ∃n,∀N,Yx (Xo l) (N+n) (.to (.h4 x x' s (s.length:Int) (j:Int) s (i:Int) out last first ((D6.cuts l).length) (Wf (Wz (D6.ends l))) inn))=Yx (Xo l) N (.to (.h2 ((i+1:Nat):Int) (out++(s.drop j).map (D6.put x x')) last first x' ((D6.cuts l).length) (Wf (Wz (D6.ends l)))))
 | 0,j,out,h,ho=>by
  have _u:=hl;refine ⟨1,fun N=> ?_⟩
  grind [Zx,Xo,Zk]
 | k+1,j,out,h,ho=>by
  obtain ⟨n,hn⟩:=u7a i hi x x' s last first inn hs k (j+1) (out++[D6.put x x' (rd s j)]) (by omega) (by simp;omega)
  refine ⟨n+1,fun N=> ?_⟩;have:=hn N;rw [Yo (show j<s.length by omega),A0,<-AL,Zx];simp (disch:=omega) only [Xo,Za,Zm,Zt,Zr,Ye,Yq,Ya,Zn,Zk,Zu,Yc,Zj,Ah,As,Ai,Ak,Ab,Aa];rw [AH] at this;exact this
theorem u6z (i:Nat) (hi:i<=1000) (x x' fin:Int) (s last:zw) (first:Int) (inn:zw): ∀(k j:Nat) (out:zx),j+k=out.length->out.length<=10000000->
  ∃n,∀N,Yx (Xo l) (N+n) (.to (.h5 x' (j:Int) x s (i:Int) out last first fin ((D6.cuts l).length) (Wf (Wz (D6.ends l))) inn))=Yx (Xo l) N (.to (.h2 ((i+1:Nat):Int) (D6.grow out j x') last first x' ((D6.cuts l).length) (Wf (Wz (D6.ends l)))))
 | 0,j,out,h,ho=>by
  have _u:=hl;refine ⟨1,fun N=> ?_⟩;rw [D6.grow_nil _ _ _ (by omega),Zx]
  grind [Xo,Zk]
 | k+1,j,out,h,ho=>by
  obtain ⟨n,hn⟩:=u6z i hi x x' fin s last first inn k (j+1) (out.set j (D6.ext x' (rd out j))) (by simp;omega) (by grind)
  refine ⟨n+1,fun N=> ?_⟩;have:=hn N;rw [D6.grow_set out j _ (by omega)] at this;rw [<-AL,Zx];simp (disch:=omega) only [Xo,Za,Zm,Zt,Zr,Ye,Yq,Ya,Zn,Zk,Zu,Yc,Zj,Ah,As,Ai,Ak,Ab,Aa];exact this
theorem v3z : ∀(k i:Nat) (s:Sw R6 R4),k=(D6.cuts l).length - 1 - i->i<=(D6.cuts l).length ->s.out.length<=i*1000->s.last.length<=1000->s.first<=s.out.length->
  ∃n,Yx (Xo l) n (.to (.h2 ((i+1:Nat):Int) s.out s.last (s.first:Int) s.fin ((D6.cuts l).length) (Wf (Wz (D6.ends l)))))=.ret ((bif Ce l k i then Tm l (D6.go l k i s).out else DF))
 | 0,i,s,h,hi,ho,hla,hf=>by
  have hc:=D6.cuts_length l;refine ⟨1,?_⟩;rw [Zx,show D6.go l 0 i s=s from rfl,show Ce l 0 i=true from rfl,Ab];unfold Tm;by_cases q:(s.out.length:Int)>400
  .grind [Xo,Zd]
  .have e:Cw R6 s.out.length (fun k=>(Zz s.out) k)=s.out:=Zm s.out;have w:Wk s.out l=true:=Af (by omega);have f:DQ (Zz s.out)=true:=Xc _;rcases Xz (Jv s.out l) with q2 | q2 <;>
   simp (disch:=omega) only [Xo,Za,e,w,f,q2,Ym,Xg,Ye,Yc,Ah,Aw,Az,Ai,Ab,Aa,Zd]
 | k +1,i,s,h,hi,ho,hla,hf=>by
  have hc:=D6.cuts_length l;have hi1:i+1<(D6.cuts l).length :=by omega
  have hpl:(Wf (Wz (D6.ends l))).length =2*l.length:=by rw [Qp,Ky,D6.ends_length]
  have r0:rd (Wf (Wz (D6.ends l))) i=rd (D6.cuts l) i:=Ga _ _ (by show i<(D6.cuts l).length;omega);have r1:rd (Wf (Wz (D6.ends l))) (i+1)=rd (D6.cuts l) (i+1):=Ga _ _ (by show i+1<(D6.cuts l).length;omega);have hbig:i*1000<=1000*1000:=AB _ (by omega);have hsl:=j1b l (rd (D6.cuts l) i);have hsd:D6.sec l (rd (D6.cuts l) i)=Zb (D6.inn l (rd (D6.cuts l) i)):=rfl;obtain ⟨n3,h3⟩:=u7b l hl (i+1) s.out s.last (s.first:Int) s.fin (rd (D6.cuts l) i) (rd (D6.cuts l) (i+1)) l.length 0 [] (Ah _) (Ar _);simp only [AO,A1,EB] at h3;have w1:Jf (D6.inn l (rd (D6.cuts l) i))=true:=rfl;have w2:Wa s.last (Zb (D6.inn l (rd (D6.cuts l) i)))=true:=Af (by omega);have ol:=D6.one_length l (rd (D6.cuts l) i) (rd (D6.cuts l) (i+1)) s;have st0: ∀N,Yx (Xo l) (N+n3+1) (.to (.h2 ((i+1:Nat):Int) s.out s.last (s.first:Int) s.fin ((D6.cuts l).length) (Wf (Wz (D6.ends l)))))=Yx (Xo l) N (.to (.h3 ((i+1:Nat):Int) (l.length:Int) s.out s.last (s.first:Int) s.fin ((D6.cuts l).length) (Wf (Wz (D6.ends l))) (rd (D6.cuts l) i) (rd (D6.cuts l) (i+1)) (D6.inn l (rd (D6.cuts l) i)))):=fun N=>by
   rw [<-h3 N,Zx];have e1:wrap .i64 (((i+1:Nat):Int) - 1)=(i:Int):=by rw [Yj];exact Zk (by omega)
   simp (disch:=omega) only [Xo,e1,r0,r1,Za,Zm,Zt,Zr,Ye,Yq,Ya,Zn,Zk,Zu,Yc,Zj,Ah,As,Ai,Ak,Ab,Aa]
  rcases Xz (E0 l (rd (D6.cuts l) i)) with q0 | q0
  .refine ⟨1+n3+1,?_⟩;rw [st0 1,Zx];simp only [Ce,q0,Ab,Aa];have q0':(Xk (D6.inn l (rd (D6.cuts l) i)) != 0)=true:=q0;simp (disch:=omega) only [Xo,Za,Zm,Ym,q0',w1,Ab,Aa,Zd];rfl
  have q0':(Xk (D6.inn l (rd (D6.cuts l) i)) != 0)=false:=q0;rcases Xz (decide (0<(D6.sec l (rd (D6.cuts l) i)).length)&&((s.fin == rd (D6.cuts l) i)&&D6.same s.last (D6.sec l (rd (D6.cuts l) i)))) with q | q
  .obtain ⟨n5,h5⟩:=u6z l hl (i+1) (by omega) (rd (D6.cuts l) i) (rd (D6.cuts l) (i+1)) s.fin (D6.sec l (rd (D6.cuts l) i)) s.last (s.first:Int) (D6.inn l (rd (D6.cuts l) i)) (s.out.length - s.first) s.first s.out (by omega) (by omega)
   have e:D6.one l (rd (D6.cuts l) i) (rd (D6.cuts l) (i+1)) s=⟨D6.grow s.out s.first (rd (D6.cuts l) (i+1)),s.last,s.first,rd (D6.cuts l) (i+1)⟩:=by unfold CM.one;rw [q];rfl
   obtain ⟨n0,h0⟩:=v3z k (i+1) (D6.one l (rd (D6.cuts l) i) (rd (D6.cuts l) (i+1)) s) (by omega) (by omega) (by omega) (by grind) (by grind [CM.grow_length]);refine ⟨n0+n5+1+n3+1,?_⟩;rw [st0 (n0+n5+1),Zx];simp only [Ac,Ao] at q;obtain ⟨q1,q2,q3⟩:=q;have q3':Vs s.last (Zb (D6.inn l (rd (D6.cuts l) i)))=true:=q3
   grind [Xo,Za,Ce,CM.go]
  .obtain ⟨n4,h4⟩:=u7a l hl (i+1) (by omega) (rd (D6.cuts l) i) (rd (D6.cuts l) (i+1)) (D6.sec l (rd (D6.cuts l) i)) (D6.sec l (rd (D6.cuts l) i)) (s.out.length:Int) (D6.inn l (rd (D6.cuts l) i)) hsl (D6.sec l (rd (D6.cuts l) i)).length 0 s.out (Ah _) (by omega);simp only [AO,EB] at h4;have e:D6.one l (rd (D6.cuts l) i) (rd (D6.cuts l) (i+1)) s=⟨s.out++(D6.sec l (rd (D6.cuts l) i)).map (D6.put (rd (D6.cuts l) i) (rd (D6.cuts l) (i+1))),D6.sec l (rd (D6.cuts l) i),s.out.length,rd (D6.cuts l) (i+1)⟩:=by unfold CM.one;rw [q];rfl
   obtain ⟨n0,h0⟩:=v3z k (i+1) (D6.one l (rd (D6.cuts l) i) (rd (D6.cuts l) (i+1)) s) (by omega) (by omega) (by omega) (by grind) (by rw [e];simp);have hg:Yx (Xo l) 1 (.to (.h3 ((i+1:Nat):Int) (l.length:Int) s.out s.last (s.first:Int) s.fin ((D6.cuts l).length) (Wf (Wz (D6.ends l))) (rd (D6.cuts l) i) (rd (D6.cuts l) (i+1)) (D6.inn l (rd (D6.cuts l) i))))=.to (.h4 (rd (D6.cuts l) i) (rd (D6.cuts l) (i+1)) (D6.sec l (rd (D6.cuts l) i)) ((D6.sec l (rd (D6.cuts l) i)).length :Int) 0 (D6.sec l (rd (D6.cuts l) i)) ((i+1:Nat):Int) s.out (D6.sec l (rd (D6.cuts l) i)) (s.out.length:Int) ((D6.cuts l).length) (Wf (Wz (D6.ends l))) (D6.inn l (rd (D6.cuts l) i))):=by
    rw [show (1:Nat)=0+1 from rfl,Zx];rw [hsd] at q ⊢;have e3:D6.same s.last (Zb (D6.inn l (rd (D6.cuts l) i)))=Vs s.last (Zb (D6.inn l (rd (D6.cuts l) i))):=rfl;rw [e3] at q;by_cases q1:0<(Zb (D6.inn l (rd (D6.cuts l) i))).length
    .rw [Af q1,Ak] at q;rcases Xz (s.fin == rd (D6.cuts l) i) with q2 | q2
     .rw [q2,Ak] at q;simp (disch:=omega) only [Xo,Za,Zm,Ym,Ys,q0',q2,q,w1,w2,Ab,Aa];rfl
     .simp (disch:=omega) only [Xo,Za,Zm,Ym,Ys,q0',q2,w1,w2,Ab,Aa];rfl
    .simp (disch:=omega) only [Xo,Za,Zm,Ym,Xg,q0',w1,w2,Ab,Aa];rfl
   refine ⟨n0+n4+1+n3+1,?_⟩;simp_all [NP,Ce,CM.go]
theorem u7c : ∀(k i:Nat) (acc:zp),i+k=l.length->acc=D6.ends (l.take i)-> ∃n,Yx (Xo l) n (.to (.h1 (i:Int) acc))=.ret ((bif Ce l ((D6.cuts l).length - 1) 0 then Tm l (D6.go l ((D6.cuts l).length - 1) 0 ⟨[],[],0,0⟩).out else DF))
 | 0,i,acc,h,ha=>by
  have e:acc=D6.ends l:=by grind
  subst e;have hle:=D6.ends_length l;obtain ⟨n,hn⟩:=v3z l hl ((D6.cuts l).length - 1) 0 ⟨[],[],0,0⟩ (by omega) (Ay _) (Ay _) (Ay _) (Ay _);refine ⟨n+1,?_⟩;rw [Zx];simp (disch:=omega) only [Xo,Qm,Sh,Su,Ym,Yq,Ya,As,Ab,Aa];exact hn
 | k+1,i,acc,h,ha=>by
  have hle:=D6.ends_length (l.take i);have eH:acc.length<=2*i:=by grind
  obtain ⟨n,hn⟩:=u7c k (i+1) (acc++D6.ends [rd l i]) (by omega) (by
   rw [ha,AX];have:l[i]? =some (rd l i):=by grind [Xm]
   rw [this,D6.ends_append];rfl)
  refine ⟨n+1,?_⟩;rw [Zx];simp (disch:=omega) only [Xo,Za,Zm,Zt,Zr,Ye,Yq,Ya,Zn,Zk,Zu,Yc,Zj,Ah,As,Ai,Ak,Ab,Aa];exact hn
theorem u7d : ∀(k i:Nat),i+k=l.length->(∀s∈l.take i,Kt s=true)-> ∃n,Yx (Xo l) n (.to (.h0 (i:Int)))=.ret (bif l.all Kt then (bif Ce l ((D6.cuts l).length - 1) 0 then Tm l (D6.go l ((D6.cuts l).length - 1) 0 ⟨[],[],0,0⟩).out else DF) else DF)
 | 0,i,h,ht=>by
  have hv:l.all Kt=true:=Au.2 fun s hs=>ht s (by grind);obtain ⟨n,hn⟩:=u7c l hl l.length 0 [] (Ah _) rfl;refine ⟨n+1,?_⟩
  grind [Zx,Xo]
 | k+1,i,h,ht=>by
  have hi:i<l.length:=by omega
  have hs:Xo l (.h0 (i:Int))=bif Kt (rd l i) then .to (.h0 ((i+1:Nat):Int)) else .ret DF:=by have e:PU (rd l i).a (rd l i).b (rd l i).c (rd l i).d (rd l i).e (rd l i).f =Kt (rd l i):=rfl;simp (disch:=omega) only [Xo,e,Re,TZ,ZP,Zr,Zk,Zu,Zj,Ai,Ab,Aa];rfl
  rcases Xz (Kt (rd l i)) with q | q
  .obtain ⟨n,hn⟩:=u7d k (i+1) (by omega) (fun s hs=>by
    rw [AX] at hs
    grind [Xm])
   refine ⟨n+1,?_⟩
   grind [Zx]
  .have hv:l.all Kt=false:=A5.2 fun e=>by
    grind [Xm]
   refine ⟨1,?_⟩
   grind [Zx,Zd]
end
def Yt (l:zx):Int:=bif decide (400<l.length) then 4 else bif l.all Kt then (bif Ce l ((D6.cuts l).length - 1) 0 then (bif decide (((D6.out l).length :Int)>400) then 8 else bif Jv (D6.out l) l then 0 else 8) else 8) else 8
def v4a (l:zx):Bool:=true
theorem j2n (l:zx): ∃n,Yx (Xo l) n (YM l)=.ret [.int .i64 (Yt l)]:=by
 unfold YM Yt;by_cases h:400<l.length
 .refine ⟨0,?_⟩;rw [Af h,Ys (show (l.length:Int)>400 by omega)];rfl
 .obtain ⟨n,hn⟩:=u7d l (by omega) l.length 0 (Ah _) (fun s hs=>by simp at hs);refine ⟨n,?_⟩;rw [An h,Xg (show ¬(l.length:Int)>400 by omega),Aa,Aa];rw [EB] at hn;rw [hn];unfold DF Tm;cases l.all Kt <;> simp only [Ab,Aa];cases Ce l ((D6.cuts l).length - 1) 0 <;> simp only [Ab,Aa];show Yr.ret (bif decide (((D6.out l).length :Int)>400) then _ else bif Jv (D6.out l) l then _ else _)=_
  grind
def Pp :zy->Option (B9×Bool)
 | [a1]=>match CY R6 a1 with
  | some (L1,g1,n1)=>some (.int .i64 (Yt L1),CX R6 n1 g1&&v4a L1)
  | _=>none
 | _=>none
theorem j7h {S:CB} (hS:Zw prog S):Zw prog (S.with x5v Pp):=by
 refine Kv hS (by kernel_rfl) fun args v h=> ?_;unfold Pp at h;split at h
 .rename_i a1;split at h
  .rename_i L1 g1 n1 e1;simp only [Ad,Ae,Ac] at h;obtain ⟨rfl,ho1,hw⟩:=h;obtain ⟨N,hN⟩:=j2n L1;exact ⟨_,_,(.cons (Yi e1 ho1) .nil),rfl,u0d L1 N _ hN,3,rfl⟩
  .cases h
 .cases h
def T8 :CB:=T7v.with x5v Pp
theorem D3 :Zw prog T8:=j7h Uu
def Qj (l:zx):Bool:=true
def Qq (l:zx):Bool:=true
inductive Ex where
 | h0 (v3:Int)
def j4x (l0:zx):Ex->CI
 | .h0 v3=>⟨⟨34,0,true⟩,none,(Zq prog 32 (pn 75) 0),none,(Zy prog 5),⟨Zs [(0,(dt l0)),(3,(ii v3))],Xe [] 0,0,[],true⟩,[],.leaf⟩
def u9a :List (Option zr):=[some [0,3]]
def u9b :List (Option zr):=[]
def JE (l0:zx):Ex->Yr Ex
 | .h0 v3=>let g:=rd l0 v3.toNat;(bif (decide (v3<(l0.length:Int))) then (bif ((decide (0<=v3/\v3<(l0.length:Int)))&&true) then (bif (decide (g.a >=(-1000000))) then (bif (decide (g.b >=(-1000000))) then (bif (decide (g.c >=(-1000000))) then (bif (decide (g.a <=1000000)) then (bif (decide (g.b <=1000000)) then (bif (decide (g.c <=1000000)) then (bif (decide (g.d >=(-1000000))) then (bif (decide (g.e >=(-1000000))) then (bif (decide (g.f >=(-1000000))) then (bif (decide (g.d <=1000000)) then (bif (decide (g.e <=1000000)) then (bif (decide (g.f <=1000000)) then (bif (decide (g.a <g.d)) then (bif (decide (g.b <g.e)) then (bif (!(decide (g.c <g.f))) then (.ret [(.int .i64 8)]) else (.to (.h0 (wrap .i64 (v3+1))))) else (.ret [(.int .i64 8)])) else (.ret [(.int .i64 8)])) else (.ret [(.int .i64 8)])) else (.ret [(.int .i64 8)])) else (.ret [(.int .i64 8)])) else (.ret [(.int .i64 8)])) else (.ret [(.int .i64 8)])) else (.ret [(.int .i64 8)])) else (.ret [(.int .i64 8)])) else (.ret [(.int .i64 8)])) else (.ret [(.int .i64 8)])) else (.ret [(.int .i64 8)])) else (.ret [(.int .i64 8)])) else (.ret [(.int .i64 8)])) else .stuck) else (bif (Kh 2 (CA l0) ([]:zx)) then (bif (!(EI 2 (CA l0) ([]:zx))) then (.ret [(.int .i64 8)]) else (bif (Wk (CA (Jr 2 (CA l0) ([]:zx))) (CA l0)) then (bif (!(Jv (CA (Jr 2 (CA l0) ([]:zx))) (CA l0))) then (.ret [(.int .i64 8)]) else (.ret [(.int .i64 0)])) else .stuck)) else .stuck))
def WO (l0:zx):Yr Ex:=(bif (decide ((l0.length:Int)>400)) then (.ret [(.int .i64 4)]) else (.to (.h0 0)))
theorem w0x (l0:zx): ∀s,Xx prog (Zy prog 32) (j4x l0) (j4x l0 s) (JE l0 s)
 | .h0 v3=>(lb (fun k0=>(lo fun aL=>let f:=ww aL (tt k0 nn);(lb (fun k1=>(lb (fun k2=>let c:=tt k2 (tt k1 f);(lb (fun k3=>let i:=bl 31 1073741824;(lb (fun k4=>let g:=tt k4 (tt k3 c);let l:=bl 28 134217728;(lb (fun k5=>let m:=bl 25 16777216;(lb (fun k6=>let a:=tt k6 (tt k5 g);(lb (fun k7=>(lb (fun k8=>let j:=tt k8 (tt k7 a);(lb (fun k9=>let d:=tt k9 j;(lb (fun k10=>(lb (fun k11=>let b:=tt k11 (tt k10 d);(lb (fun k12=>(lb (fun k13=>let e:=tt k13 (tt k12 b);(lb (fun k14=>(lb (fun k15=>(lr 34 32 (pn 4683) 1 5 [(2,(ii 8))] (sl D3 158 [] (a7 [2]) a6 (CK 60 []) (tt k15 (tt k14 e))))) (fun k15=>(sl D3 162 [] ⟨[],[],u9a,u9b⟩ a6 (CK 59 [false]) (tt k15 (tt k14 e)))))) (fun k14=>(lr 34 32 (pn 4683) 1 5 [(2,(ii 8))] (sl D3 158 [] (a7 [2]) a6 (CK 52 (bl 8 128)) (tt k14 e)))))) (fun k13=>(lr 34 32 (pn 4683) 1 5 [(2,(ii 8))] (sl D3 158 [] (a7 [2]) a6 (CK 45 (bl 15 16384)) (tt k13 (tt k12 b))))))) (fun k12=>(lr 34 32 (pn 4683) 1 5 [(2,(ii 8))] (sl D3 158 [] (a7 [2]) a6 (CK 38 (bl 22 2097152)) (tt k12 b)))))) (fun k11=>(lr 34 32 (pn 4683) 1 5 [(2,(ii 8))] (sl D3 158 [] (a7 [2]) a6 (CK 35 m) (tt k11 (tt k10 d))))))) (fun k10=>(lr 34 32 (pn 4683) 1 5 [(2,(ii 8))] (sl D3 158 [] (a7 [2]) a6 (CK 32 l) (tt k10 d)))))) (fun k9=>(lr 34 32 (pn 4683) 1 5 [(2,(ii 8))] (sl D3 158 [] (a7 [2]) a6 (CK 29 i) (tt k9 j)))))) (fun k8=>(lr 34 32 (pn 4683) 1 5 [(2,(ii 8))] (sl D3 158 [] (a7 [2]) a6 (CK 25 (bl 35 17179869184)) (tt k8 (tt k7 a))))))) (fun k7=>(lr 34 32 (pn 4683) 1 5 [(2,(ii 8))] (sl D3 158 [] (a7 [2]) a6 (CK 21 (bl 39 274877906944)) (tt k7 a)))))) (fun k6=>(lr 34 32 (pn 4683) 1 5 [(2,(ii 8))] (sl D3 117 [] (a7 [2]) a6 (CK 18 m) (tt k6 (tt k5 g))))))) (fun k5=>(lr 34 32 (pn 4683) 1 5 [(2,(ii 8))] (sl D3 117 [] (a7 [2]) a6 (CK 15 l) (tt k5 g)))))) (fun k4=>(lr 34 32 (pn 4683) 1 5 [(2,(ii 8))] (sl D3 117 [] (a7 [2]) a6 (CK 12 i) (tt k4 (tt k3 c))))))) (fun k3=>(lr 34 32 (pn 4683) 1 5 [(2,(ii 8))] (sl D3 117 [] (a7 [2]) a6 (CK 9 (bl 34 8589934592)) (tt k3 c)))))) (fun k2=>(lr 34 32 (pn 4683) 1 5 [(2,(ii 8))] (sl D3 117 [] (a7 [2]) a6 (CK 5 (bl 38 137438953472)) (tt k2 (tt k1 f))))))) (fun k1=>(lr 34 32 (pn 4683) 1 5 [(2,(ii 8))] (sl D3 117 [] (a7 [2]) a6 (bl 43 4398046511105) (tt k1 f))))))) (fun k0=>(lo fun aL=>(lb (fun k1=>(lr 34 32 (pn 303) 1 5 [(2,(ii 8))] (sl D3 37 [] (a7 [2]) a6 (bl 6 62) (tt k1 (pp (pp (xr l0) (pp (xI R6 0 (fun _=>[])) (xw aL))) (tt k0 nn)))))) (fun k1=>(lo fun bO=>let h:=pp (xr l0) (xw bO);let n:=Jr 2 (CA l0) ([]:zx);(lb (fun k2=>(lr 34 32 (pn 303) 1 5 [(2,(ii 8))] (sl D3 37 [] (a7 [2]) a6 (bl 6 32) (tt k2 (pp (pp (xI R6 n.length (Zz n)) h) (tt k1 (pp (pp (xr l0) (pp (xI R6 0 (fun _=>[])) (xw aL))) (tt k0 nn)))))))) (fun k2=>(lr 34 3 (pn 767) 1 5 [(2,(ii 0))] (sl D3 38 [] (a7 [2]) a6 (bl 6 0) (tt k2 (pp (pp (xI R6 n.length (Zz n)) h) (tt k1 (pp (pp (xr l0) (pp (xI R6 0 (fun _=>[])) (xw aL))) (tt k0 nn)))))))))))))))
theorem x5h (l0:zx):Xx prog (Zy prog 32) (j4x l0) (Zp prog 32 [(dt l0)] true []) (WO l0):=(lb (fun k0=>(lr 34 32 (pn 37) 1 5 [(2,(ii 4))] (sl D3 16 [] (a7 [2]) a6 [true] (tt k0 nn)))) (fun k0=>(sl D3 20 [] ⟨[],[],u9a,u9b⟩ a6 [false] (tt k0 nn))))
theorem v5m (l0:zx) (n:Nat) (vs:zy) (h:Yx (JE l0) n (WO l0)=.ret vs):Vi prog (Zy prog 32) (Zp prog 32 [(dt l0)] true []) vs:=by have:=Zg (w0x l0) n _ (x5h l0);rwa [h] at this
def Eb (r:R6):Bool:=decide (r.a>= -1000000)&&(decide (r.b>= -1000000)&&(decide (r.c>= -1000000)&&(decide (r.a<=1000000)&&(decide (r.b<=1000000)&&(decide (r.c<=1000000)&&(decide (r.d>= -1000000)&&(decide (r.e>= -1000000)&&(decide (r.f>= -1000000)&&(decide (r.d<=1000000)&&(decide (r.e<=1000000)&&(decide (r.f<=1000000)&&(decide (r.a<r.d)&&(decide (r.b<r.e)&&decide (r.c<r.f))))))))))))))
def IL (l:zx):Int:=bif EI 2 l [] then (bif Jv (Jr 2 l []) l then 0 else 8) else 8
def Ju (l:zx):Int:=bif decide (400<l.length) then 4 else bif l.all Eb then IL l else 8
def v5k (l:zx):Bool:=true
theorem v1a (k:Int) (l m:zx):(Jr k l m).length <=400\/EI k l m=false:=by
 grind [Jr,EI]
section
variable (l:zx) (hl:l.length<=400)
include hl
theorem v5l : ∀(k i:Nat),i+k=l.length->(∀s∈l.take i,Eb s=true)-> ∃n,Yx (JE l) n (.to (.h0 (i:Int)))=.ret [.int .i64 (bif l.all Eb then IL l else 8)]
 | 0,i,h,ht=>by
  have hv:l.all Eb=true:=Au.2 fun s hs=>ht s (by grind);have w1:Kh 2 l []=true:=ZW (by omega) (by simp);refine ⟨1,?_⟩;rw [Zx,hv,Ab];unfold IL;rcases Xz (EI 2 l []) with q | q
  .have w2:Wk (Jr 2 l []) l=true:=Af (by
    grind [v1a])
   rcases Xz (Jv (Jr 2 l []) l) with q2 | q2 <;>
   simp (disch:=omega) only [JE,Za,Ym,q,q2,w1,w2,Aw,Az,Ab,Aa,Zd]
  grind [JE,Za,Zd]
 | k+1,i,h,ht=>by
  have hi:i<l.length:=by omega
  have hs:JE l (.h0 (i:Int))=bif Eb (rd l i) then .to (.h0 ((i+1:Nat):Int)) else .ret [.int .i64 8]:=by simp (disch:=omega) only [JE,Eb,Sr,Re,TZ,Zr,Zk,Zu,Zj,Ai,Ab,Aa]
  rcases Xz (Eb (rd l i)) with q | q
  .obtain ⟨n,hn⟩:=v5l k (i+1) (by omega) (fun s hs=>by
    rw [AX] at hs
    grind [Xm])
   refine ⟨n+1,?_⟩
   grind [Zx]
  .have hv:l.all Eb=false:=A5.2 fun e=>by
    grind [Xm]
   refine ⟨1,?_⟩
   grind [Zx,Zd]
end
theorem u2n (l:zx): ∃n,Yx (JE l) n (WO l)=.ret [.int .i64 (Ju l)]:=by
 unfold WO Ju;by_cases h:400<l.length
 .refine ⟨0,?_⟩;rw [Af h,Ys (show (l.length:Int)>400 by omega)];rfl
 .obtain ⟨n,hn⟩:=v5l l (by omega) l.length 0 (Ah _) (fun s hs=>by simp at hs)
  grind
def QD :zy->Option (B9×Bool)
 | [a1]=>match CY R6 a1 with
  | some (L1,g1,n1)=>some (.int .i64 (Ju L1),CX R6 n1 g1&&v5k L1)
  | _=>none
 | _=>none
theorem j8j {S:CB} (hS:Zw prog S):Zw prog (S.with v6g QD):=by
 refine Kv hS (by kernel_rfl) fun args v h=> ?_;unfold QD at h;split at h
 .rename_i a1;split at h
  .rename_i L1 g1 n1 e1;simp only [Ad,Ae,Ac] at h;obtain ⟨rfl,ho1,hw⟩:=h;obtain ⟨N,hN⟩:=u2n L1;exact ⟨_,_,(.cons (Yi e1 ho1) .nil),rfl,v5m L1 N _ hN,3,rfl⟩
  .cases h
 .cases h
def T9 :CB:=T8.with v6g QD
theorem FK :Zw prog T9:=j8j D3
def sOf :B9->zu
 | .str s=>s
 | _=>[]
instance (priority :=high) instStr:Xa zu where
 w:=1
 d:=[]
 cells s:=[.str s]
 of l:=sOf (l.getD 0 .undef)
 len _:=rfl
 pos:=Ar 1
 flat _:=rfl
 sc _:=rfl
 back _:=rfl
abbrev VS :Nat:=99
abbrev VN :Nat:=76
abbrev V8 :Nat:=77
abbrev V9 :Nat:=43
abbrev PJ :Nat:=42
abbrev VD :Nat:=30
abbrev VM :Nat:=25
abbrev VL :Nat:=45
abbrev UT :Nat:=33
abbrev UX :Nat:=26
abbrev UP :Nat:=47
abbrev U8 :Nat:=46
abbrev U9 :Nat:=22
abbrev UI :Nat:=12
abbrev VB :Nat:=6
abbrev VZ :Nat:=8
abbrev Oh :Nat:=27
abbrev Ul :Nat:=10
abbrev VA :Nat:=15
abbrev Tr :Nat:=17
abbrev UR :Nat:=24
abbrev UQ :Nat:=13
abbrev LM :Nat:=7
abbrev U3 :Nat:=9
abbrev LQ :Nat:=28
abbrev LP :Nat:=11
abbrev LR :Nat:=16
abbrev K4 :Nat:=18
abbrev VT :Nat:=5
abbrev UJ :Nat:=20
abbrev UC :Nat:=35
abbrev V4 :Nat:=31
abbrev V3 :Nat:=138
abbrev V6 :Nat:=102
abbrev V2 :Nat:=92
abbrev VY :Nat:=104
abbrev VX :Nat:=78
abbrev VW :Nat:=48
abbrev V7 :Nat:=61
abbrev U4 :Nat:=34
abbrev U7 :Nat:=105
abbrev U0 :Nat:=79
abbrev UO :Nat:=81
abbrev UV :Nat:=82
abbrev UK :Nat:=49
abbrev LS :Nat:=37
abbrev LT :Nat:=63
abbrev UY :Nat:=39
abbrev UU :Nat:=64
theorem x1o {P:Program} {S:CB} (hS:Zw P S) {f:FuncId} {F:zy->Option (B9×Bool)} (hf:(P.funcs[f]?).any (fun fn=>fn.body.isSome)=true) (hF:t0d P f F):Zw P (S.with f F):=by
 intro g G hg;unfold CB.with at hg;cases hgf:Nat.beq g f with
 | false=>rw [hgf] at hg;exact hS g G hg
 | true=>
  rw [hgf] at hg;obtain rfl:Fh.val F=G:=Ag hg;obtain rfl:g=f:=Aj hgf;refine ⟨?_,hF⟩;cases hfn:P.funcs[g]? with
  | none=>rw [hfn] at hf;cases hf
  | some fn=>rw [hfn] at hf;exact ⟨fn,rfl,hf⟩
theorem y6d {P:Program} {f:FuncId} {F:zy->Option (B9×Bool)}
  (h: ∀args v,F args=some (v,true)-> ∀(H:E8) (vals:Array Value) (w:World),Vg (Yv (DS H)) args vals.toList->(∀k o,H k=some o->w.heap[k]? =some o)->MP H->Calls P f vals w fun e w'=> ∃u,e=.returned u/\Yv (DS H) v u/\RowKit.Below w.heap.size w w'):t0d P f F:=
 fun args v hv H vals w dC hH hG=>(h args v hv H vals w dC hH hG).mono fun e w' ⟨u,he,hu,hb⟩=>⟨H,u,fun _ _ h=>h,fun k o e=>by rw [hb.block k (AI.1 (hH k o e)).1];exact hH k o e,fun _ _=>rfl,he,hu,hb⟩
def Cm (b:UInt8):zu->zu->List zu
 | cur,[]=>[cur]
 | cur,x::r=>bif x == b then cur::Cm b [] r else Cm b (cur++[x]) r
theorem y2h (b:UInt8): ∀(s cur:zu),Cm b cur s=match Cm b [] s with
  | []=>[]
  | p::l=>(cur++p)::l
 | [],cur=>by simp [Cm]
 | x::r,cur=>by
  unfold Cm;cases x == b with
  | true=>simp
  | false=>
   rw [Aa,Aa,y2h b r (cur++[x]),y2h b r ([]++[x])];cases Cm b [] r with
   | nil=>rfl
   | cons p l=>simp
theorem y2g (b:UInt8): ∀(s cur p:zu),p∈Cm b cur s->p.length<=cur.length+s.length
 | [],cur,p,h=>by simp [Cm] at h;subst h;simp
 | x::r,cur,p,h=>by
  rw [Cm] at h;cases hx:x == b with
  | true=>
   rw [hx,Ab] at h;rcases AN.1 h with rfl | h
   .simp
   .have:=y2g b r [] p h;simp at this ⊢;omega
  | false=>rw [hx,Aa] at h;have:=y2g b r _ p h;simp at this ⊢;omega
def sOk (a b:zu):Bool:=Nat.ble (a.length+b.length) 9223372036854775807
theorem KV {a b:zu} (h:a.length+b.length<=1000000000000):sOk a b=true:=by unfold sOk;exact AV (by omega)
theorem OV {a:Nat} (h:a<=1099511627776):decide (a<=Jm)=true:=Af h
theorem NB {z n m:Nat} (h:(n+1+1)*(m+1)<=1099511627776):(Nat.beq z z&&((decide (0+n=n))&&decide ((n+1+1)*(m+1)<=Jm)))=true:=by rw [Ac,Ac];exact ⟨BK z,Af (Ah n),OV h⟩
def Cf (s sep:zu):Int:=Lib.indexByte s (sep.headD 0)
def y7n (s sep:zu):Bool:=Nat.beq sep.length 1
def QL :zy->Option (B9×Bool)
 | [.str s,.str sep]=>some (.int .i64 (Cf s sep),y7n s sep)
 | _=>none
theorem w5r {sep:zu} (h:Nat.beq sep.length 1=true):sep=[sep.headD 0]:=by
 have h1:=Aj h
 match sep,h1 with
 | [b],_=>rfl
theorem j8w {S:CB} (hS:Zw prog S):Zw prog (S.with VS QL):=x1o hS (by kernel_rfl) (y6d fun args v hv H vals w dC hH hG=>by
 unfold QL at hv;split at hv
 .rename_i s sep;simp only [Ad,Ae] at hv;obtain ⟨rfl,ho⟩:=hv;have hs:=w5r ho;obtain rfl:vals= #[.string ⟨s.toArray⟩,.string ⟨sep.toArray⟩]:=by
   obtain ⟨vl⟩:=vals;cases dC with
   | cons h1 h2=>cases h2 with
    | cons h2 h3=>cases h3;cases h1;cases h2;rfl
  rw [hs];refine (Any.stringslite_Index_one Tryz.lays219 ⟨s.toArray⟩ (sep.headD 0) w).mono fun e w' ⟨he,hw⟩=>⟨_,he,.int _ _,?_⟩
  subst hw;exact RowKit.Below.refl _ _
 .cases hv)
def Q4 (s sep:zu):Int:=((Lib.countByte s (sep.headD 0):Nat):Int)
def y8b (s sep:zu):Bool:=Nat.beq sep.length 1
def QV :zy->Option (B9×Bool)
 | [.str s,.str sep]=>some (.int .i64 (Q4 s sep),y8b s sep)
 | _=>none
theorem j9l {S:CB} (hS:Zw prog S):Zw prog (S.with V9 QV):=x1o hS (by kernel_rfl) (y6d fun args v hv H vals w dC hH hG=>by
 unfold QV at hv;split at hv
 .rename_i s sep;simp only [Ad,Ae] at hv;obtain ⟨rfl,ho⟩:=hv;have hs:=w5r ho;obtain rfl:vals= #[.string ⟨s.toArray⟩,.string ⟨sep.toArray⟩]:=by
   obtain ⟨vl⟩:=vals;cases dC with
   | cons h1 h2=>cases h2 with
    | cons h2 h3=>cases h3;cases h1;cases h2;rfl
  rw [hs];refine (Any.strings_Count_one Tryz.lays138 ⟨s.toArray⟩ (sep.headD 0) w).mono fun e w' ⟨he,hw⟩=>⟨_,he,.int _ _,?_⟩
  subst hw;exact RowKit.Below.refl _ _
 .cases hv)
def F2 (L:List zu) (sep:zu):zu:=Lib.join L sep
def RV (L:List zu) (sep:zu):Bool:=decide (L.length<=1000000)&&decide ((F2 L sep).length <=1000000)
def QJ :zy->Option (B9×Bool)
 | [a0,.str sep]=>match CY zu a0 with
  | some (L,g,n)=>some (.str (F2 L sep),CX zu n g&&RV L sep)
  | _=>none
 | _=>none
theorem j8v {S:CB} (hS:Zw prog S):Zw prog (S.with PJ QJ):=x1o hS (by kernel_rfl) (y6d fun args v hv H vals w dC hH hG=>by
 unfold QJ at hv;split at hv
 .rename_i a0 sep;split at hv
  .rename_i L g n e0;simp only [Ad,Ae,Ac] at hv;obtain ⟨rfl,ht,ho⟩:=hv;unfold RV at ho;rw [Ac,Ao,Ao] at ho;obtain ⟨v0,rfl,cZ⟩: ∃v0,vals= #[v0,.string ⟨sep.toArray⟩]/\Yv (DS H) (.dat L.length (Zz L)) v0:=by
    obtain ⟨vl⟩:=vals;cases dC with
    | cons h1 h2=>cases h2 with
     | cons h2 h3=>cases h3;cases h2;exact ⟨_,rfl,(Yi e0 ht).sound h1⟩
   have hmap:(L.map fun s=>(⟨s.toArray⟩:ByteArray)).map (·.data.toList)=L:=by rw [B4];exact (BX fun s _=>rfl).trans (List.map_id L)
   have hlenm:(L.map fun s=>(⟨s.toArray⟩:ByteArray)).length =L.length:=B0 _;have none: ∀(a:Option Addr) (c:Nat),L.length=0->Calls prog PJ #[.slice a 0 c,.string ⟨sep.toArray⟩] w fun e w'=> ∃u,e=.returned u/\Yv (DS H) (.str (F2 L sep)) u/\RowKit.Below w.heap.size w w':=fun a c h0=>by
    obtain rfl:=BI h0;refine (Any.strings_Join_none Tryz.lays156 Tryz.Builder_Extra_156 a c ⟨sep.toArray⟩ w).mono fun e w' ⟨he,hw⟩=>⟨_,he,?_,?_⟩
    .exact .str _
    .subst hw;exact RowKit.Below.refl _ _
   generalize hn:L.length=m at cZ;cases cZ with
   | datn=>exact none _ _ hn
   | datz _ a c=>exact none _ _ hn
   | dat _ _ blk base sz cap val dH hsz hv hh=>
    by_cases h0:L.length=0
    .rw [<-hn,h0];exact none _ _ h0
    have fC: ∀i,(hi:i<L.length)->Zz L i=[.str L[i]]:=fun i hi=>by show Xa.cells (rd L i)=_;rw [Xm hi];rfl
    have hsz1:sz=1:=by have:=hsz 0 (by omega);rw [fC 0 (by omega)] at this;exact this.symm
    subst hsz1;have dO: ∀i,(hi:i<L.length)->val i 0=.string ⟨L[i].toArray⟩:=fun i hi=>by have:=hv i 0 (by omega) (by rw [fC i hi];exact Nat.one_pos);simp only [fC i hi,List.getElem_cons_zero] at this;generalize val i 0=z at this;cases this;rfl
    have dW: ∀i,(hi:i<L.length)-> ∃cs el fz,w.heap[blk]? =some (.cells cs el fz)/\cs[base+i]? =some (.string ⟨L[i].toArray⟩):=fun i hi=>by obtain ⟨cs,el,fz,e1,e2⟩:=hh i 0 (by omega) Nat.one_pos;rw [dO i hi,Nat.mul_one,Bg] at e2;exact ⟨cs,el,fz,hH _ _ e1,e2⟩
    have hJ:=Any.strings_Join Tryz.lays156 Tryz.Builder_Extra_156 blk base cap (L.map fun s=>(⟨s.toArray⟩:ByteArray)) ⟨sep.toArray⟩ w (fun j x hx=>by
      have hj:j<L.length:=by rw [<-hlenm];exact (Bb.1 hx).1
      obtain ⟨cs,el,fz,e1,e2⟩:=dW j hj;rw [BR,At hj] at hx;obtain rfl:=Ag hx;simp [World.cell?,e1,e2])
     (by obtain ⟨cs,el,fz,e1,_⟩:=dW 0 (by omega);exact (AI.1 e1).1)
     (by rw [hlenm];omega) (by rw [hlenm];omega) (by rw [hmap];exact AG ho.2 (by omega))
    rw [hmap,hlenm,hn] at hJ;refine hJ.mono fun e w' ⟨he,hw⟩=>⟨_,he,?_,hw⟩
    exact .str _
  .cases hv
 .cases hv)
def WN :CB:=((T9.with VS QL).with V9 QV).with PJ QJ
theorem Xv :Zw prog WN:=j8v (j9l (j8w FK))
inductive I4 where
def PG (x0:zu) (x1:zu):I4->CI
 :=nofun
def w1z (x0:zu) (x1:zu):I4->Yr I4
 :=nofun
def TN (x0:zu) (x1:zu):Yr I4:=(bif (y7n x0 x1) then (bif (decide ((Cf x0 x1)>=0)) then (bif (decide ((Int.toNat (Cf x0 x1))<=x0.length)) then (bif (decide (0<=(Cf x0 x1))) then (bif (decide ((Int.toNat (wrap .i64 ((Cf x0 x1)+(x1.length:Int))))<=x0.length)) then (bif (decide (0<=(wrap .i64 ((Cf x0 x1)+(x1.length:Int))))) then (.ret [(.str ((x0.drop 0).take (Int.toNat (Cf x0 x1)))),(.str ((x0.drop (Int.toNat (wrap .i64 ((Cf x0 x1)+(x1.length:Int))))).take (x0.length - (Int.toNat (wrap .i64 ((Cf x0 x1)+(x1.length:Int))))))),(.bool true)]) else .stuck) else .stuck) else .stuck) else .stuck) else (.ret [(.str x0),(.str []),(.bool false)])) else .stuck)
theorem v0z (x0:zu) (x1:zu): ∀s,Xx prog (Zy prog 76) (PG x0 x1) (PG x0 x1 s) (w1z x0 x1 s)
 :=nofun
theorem w2a (x0:zu) (x1:zu):Xx prog (Zy prog 76) (PG x0 x1) (Zp prog 76 [(.str x0),(.str x1)] true []) (TN x0 x1):=(lo fun bG=>let d:=a7 [4,5,6];(lb (fun k0=>(lo fun o0=>(lo fun o1=>(lo fun o2=>(lo fun o3=>let b:=tn (wr ((Cf x0 x1)+(x1.length:Int)));let a:=b;let c:=tn (Cf x0 x1);(lr 13 3 (pn 767) 1 76 [(4,(.str ((x0.drop 0).take c))),(5,(.str ((x0.drop a).take (x0.length - a)))),(6,(.bool true))] (sl Xv 41 [] d a6 [true] (pp (pp nn (pp (xw o3) (pp (xG (decide (x0.length<=x0.length)) (Af (Ar _))) (xG (decide (b<=x0.length)))))) (pp (pp (xw o1) (pp nn (pp (xG (decide (c<=x0.length))) (xG (decide (0<=c)))))) (tt k0 (ww bG nn))))))))))) (fun k0=>(lr 13 3 (pn 767) 1 76 [(4,(.str x0)),(5,(.str [])),(6,(.bool false))] (sl Xv 47 [] d a6 [false] (tt k0 (ww bG nn)))))))
theorem u3y (x0:zu) (x1:zu) (n:Nat) (vs:zy) (h:Yx (w1z x0 x1) n (TN x0 x1)=.ret vs):Vi prog (Zy prog 76) (Zp prog 76 [(.str x0),(.str x1)] true []) vs:=by have:=Zg (v0z x0 x1) n _ (w2a x0 x1);rwa [h] at this
inductive Ip where
def Q3 (x0:zu) (x1:zu):Ip->CI
 :=nofun
def w3r (x0:zu) (x1:zu):Ip->Yr Ip
 :=nofun
def TE (x0:zu) (x1:zu):Yr Ip:=(bif (decide ((x0.length:Int)>=(x1.length:Int))) then (bif (decide ((Int.toNat (wrap .i64 ((x0.length:Int) - (x1.length:Int))))<=x0.length)) then (bif (decide (0<=(wrap .i64 ((x0.length:Int) - (x1.length:Int))))) then (bif (!(((x0.drop (Int.toNat (wrap .i64 ((x0.length:Int) - (x1.length:Int))))).take (x0.length - (Int.toNat (wrap .i64 ((x0.length:Int) - (x1.length:Int)))))) == x1)) then (.ret [(.str x0),(.bool false)]) else (.ret [(.str ((x0.drop 0).take (Int.toNat (wrap .i64 ((x0.length:Int) - (x1.length:Int)))))),(.bool true)])) else .stuck) else .stuck) else (.ret [(.str x0),(.bool false)]))
theorem v2c (x0:zu) (x1:zu): ∀s,Xx prog (Zy prog 77) (Q3 x0 x1) (Q3 x0 x1 s) (w3r x0 x1 s)
 :=nofun
theorem w3t (x0:zu) (x1:zu):Xx prog (Zy prog 77) (Q3 x0 x1) (Zp prog 77 [(.str x0),(.str x1)] true []) (TE x0 x1):=(lb (fun k0=>(lo fun aL=>(lo fun aT=>let b:=tn (wr ((x0.length:Int) - (x1.length:Int)));let c:=decide (x0.length<=x0.length);let d:=decide (b<=x0.length);(lb (fun k1=>(lr 11 3 (pn 767) 1 6 [(4,(.str x0)),(5,(.bool false))] (sl Xv 61 [] (a7 [4,5]) a6 (CK 10 []) (tt k1 (pp (pp nn (pp (xw aT) (pp (xG c (Af (Ar _))) (xG d)))) (tt k0 nn)))))) (fun k1=>let a:=xG d;(lr 11 3 (pn 767) 1 6 [(4,(.str ((x0.drop 0).take b))),(5,(.bool true))] (sl Xv 68 [] (a7 [4,5]) a6 (CK 9 [false]) (pp (pp (xw aT) (pp nn (pp a (xG (decide (0<=b)))))) (tt k1 (pp (pp nn (pp (xw aT) (pp (xG c (Af (Ar _))) a))) (tt k0 nn))))))))))) (fun k0=>(lr 11 3 (pn 767) 1 6 [(4,(.str x0)),(5,(.bool false))] (sl Xv 61 [] (a7 [4,5]) a6 (bl 10 512) (tt k0 nn)))))
theorem u5j (x0:zu) (x1:zu) (n:Nat) (vs:zy) (h:Yx (w3r x0 x1) n (TE x0 x1)=.ret vs):Vi prog (Zy prog 77) (Zp prog 77 [(.str x0),(.str x1)] true []) vs:=by have:=Zg (v2c x0 x1) n _ (w3t x0 x1);rwa [h] at this
inductive IX where
 | h0 (bN:Nat)
def Ov (x0:zu):IX->CI
 | .h0 bN=>⟨⟨44,0,true⟩,none,(Zq prog 30 (pn 75) 0),none,(Zy prog 5),⟨Zs [(15,(.ptr 0 0))],Xe [⟨[(.obj (.it x0 bN))],9,none⟩] 0,1,[],true⟩,[],.leaf⟩
def SJ :List (Option zr):=[some [15]]
def SI :List (Option zr):=[]
def Ms (x0:zu):IX->Yr IX
 | .h0 bN=>let a:=EA x0 bN;(bif (decide (bN<x0.length)) then (bif (decide (a>=97)) then (bif (!(decide (a<=122))) then (bif (((bN:Nat):Int) == 0) then (.ret [(.bool false)]) else (bif (a != 45) then (bif (decide (a<48)) then (.ret [(.bool false)]) else (bif (decide (a>57)) then (.ret [(.bool false)]) else (.to (.h0 (bN+Fy x0 bN))))) else (.to (.h0 (bN+Fy x0 bN))))) else (.to (.h0 (bN+Fy x0 bN)))) else (bif (((bN:Nat):Int) == 0) then (.ret [(.bool false)]) else (bif (a != 45) then (bif (decide (a<48)) then (.ret [(.bool false)]) else (bif (decide (a>57)) then (.ret [(.bool false)]) else (.to (.h0 (bN+Fy x0 bN))))) else (.to (.h0 (bN+Fy x0 bN)))))) else (.ret [(.bool true)]))
def XV (x0:zu):Yr IX:=(bif ((x0.length:Int) == 0) then (.ret [(.bool false)]) else (bif (decide ((x0.length:Int)>40)) then (.ret [(.bool false)]) else (.to (.h0 0))))
theorem v0j (x0:zu): ∀s,Xx prog (Zy prog 30) (Ov x0) (Ov x0 s) (Ms x0 s)
 | .h0 bN=>(lb (fun k0=>(lb (fun k1=>let d:=tt k1 (tt k0 nn);(lb (fun k2=>let a:=tt k2 d;(lb (fun k3=>(lr 44 30 (pn 20171) 1 5 [(2,(.bool false))] (sl Xv 52 [] (a7 [2]) a6 (CK 13 []) (tt k3 a)))) (fun k3=>(lb (fun k4=>let c:=tt k4 (tt k3 a);(lb (fun k5=>(lr 44 30 (pn 20171) 1 5 [(2,(.bool false))] (sl Xv 52 [] (a7 [2]) a6 (CK 7 (bl 12 3576)) (tt k5 c)))) (fun k5=>(lb (fun k6=>(lr 44 30 (pn 20171) 1 5 [(2,(.bool false))] (sl Xv 52 [] (a7 [2]) a6 (CK 7 (bl 12 3384)) (tt k6 (tt k5 c))))) (fun k6=>(sl Xv 51 [] ⟨[0],[],SJ,SI⟩ a6 (CK 7 (bl 12 1336)) (tt k6 (tt k5 c)))))))) (fun k4=>(sl Xv 51 [] ⟨[0],[],SJ,SI⟩ a6 (CK 7 (bl 10 256)) (tt k4 (tt k3 a)))))))) (fun k2=>(sl Xv 51 [] ⟨[0],[],SJ,SI⟩ a6 (CK 4 (bl 5 0)) (tt k2 d))))) (fun k1=>let e:=tt k1 (tt k0 nn);(lb (fun k2=>(lr 44 30 (pn 20171) 1 5 [(2,(.bool false))] (sl Xv 52 [] (a7 [2]) a6 (bl 13 8179) (tt k2 e)))) (fun k2=>let b:=tt k2 e;(lb (fun k3=>(lb (fun k4=>(lr 44 30 (pn 20171) 1 5 [(2,(.bool false))] (sl Xv 52 [] (a7 [2]) a6 (bl 19 457843) (tt k4 (tt k3 b))))) (fun k4=>let f:=tt k4 (tt k3 b);(lb (fun k5=>(lr 44 30 (pn 20171) 1 5 [(2,(.bool false))] (sl Xv 52 [] (a7 [2]) a6 (bl 19 433267) (tt k5 f)))) (fun k5=>(sl Xv 51 [] ⟨[0],[],SJ,SI⟩ a6 (bl 19 171123) (tt k5 f))))))) (fun k3=>(sl Xv 51 [] ⟨[0],[],SJ,SI⟩ a6 (bl 17 32883) (tt k3 b))))))))) (fun k0=>(lr 44 3 (pn 767) 1 5 [(2,(.bool true))] (sl Xv 12 [] (a7 [2]) a6 (bl 2 0) (tt k0 nn)))))
theorem w1q (x0:zu):Xx prog (Zy prog 30) (Ov x0) (Zp prog 30 [(.str x0)] true []) (XV x0):=(lb (fun k0=>(lr 44 30 (pn 37) 1 5 [(2,(.bool false))] (sl Xv 21 [] (a7 [2]) a6 (CK 4 []) (tt k0 nn)))) (fun k0=>(lb (fun k1=>(lr 44 30 (pn 37) 1 5 [(2,(.bool false))] (sl Xv 21 [] (a7 [2]) a6 (bl 4 8) (tt k1 (tt k0 nn))))) (fun k1=>(sl Xv 26 [] ⟨[0],[],SJ,SI⟩ a6 (bl 4 0) (tt k1 (tt k0 nn)))))))
theorem u3l (x0:zu) (n:Nat) (vs:zy) (h:Yx (Ms x0) n (XV x0)=.ret vs):Vi prog (Zy prog 30) (Zp prog 30 [(.str x0)] true []) vs:=by have:=Zg (v0j x0) n _ (w1q x0);rwa [h] at this
inductive Ht where
 | h0 (v3:Int)
def OW (x0:zu):Ht->CI
 | .h0 v3=>⟨⟨40,0,true⟩,none,(Zq prog 33 (pn 37) 0),none,(Zy prog 5),⟨Zs [(0,(.str x0)),(3,(ii v3))],Xe [] 0,0,[],true⟩,[],.leaf⟩
def SA :List (Option zr):=[some [0,3]]
def Rz :List (Option zr):=[]
def NA (x0:zu):Ht->Yr Ht
 | .h0 v3=>let a:=Cl x0 v3.toNat;(bif (decide (v3<(x0.length:Int))) then (bif (decide (0<=v3/\v3<(x0.length:Int))) then (bif (decide (a>=97)) then (bif (!(decide (a<=122))) then (bif (v3 == 0) then (.ret [(.bool false)]) else (bif (a != 45) then (bif (decide (a>=48)) then (bif (!(decide (a<=57))) then (.ret [(.bool false)]) else (.to (.h0 (wrap .i64 (v3+1))))) else (.ret [(.bool false)])) else (.to (.h0 (wrap .i64 (v3+1)))))) else (.to (.h0 (wrap .i64 (v3+1))))) else (bif (v3 == 0) then (.ret [(.bool false)]) else (bif (a != 45) then (bif (decide (a>=48)) then (bif (!(decide (a<=57))) then (.ret [(.bool false)]) else (.to (.h0 (wrap .i64 (v3+1))))) else (.ret [(.bool false)])) else (.to (.h0 (wrap .i64 (v3+1))))))) else .stuck) else (bif (decide ((x0.length:Int)>=1)) then (.ret [(.bool (decide ((x0.length:Int)<=40)))]) else (.ret [(.bool false)])))
def x2m (x0:zu):Yr Ht:=(.to (.h0 0))
theorem w9e (x0:zu): ∀s,Xx prog (Zy prog 33) (OW x0) (OW x0 s) (NA x0 s)
 | .h0 v3=>(lb (fun k0=>(lo fun aL=>let a:=ww aL (tt k0 nn);(lb (fun k1=>(lb (fun k2=>let f:=tt k2 (tt k1 a);(lb (fun k3=>(lr 40 33 (pn 2341) 1 5 [(2,(.bool false))] (sl Xv 57 [] (a7 [2]) a6 (CK 14 []) (tt k3 f)))) (fun k3=>let d:=ww aL (tt k3 f);(lb (fun k4=>let b:=ww aL (tt k4 d);(lb (fun k5=>(lb (fun k6=>(lr 40 33 (pn 2341) 1 5 [(2,(.bool false))] (sl Xv 72 [] (a7 [2]) a6 (CK 6 (bl 15 28640)) (tt k6 (tt k5 b))))) (fun k6=>(sl Xv 76 [] ⟨[],[],SA,Rz⟩ a6 (CK 6 (bl 15 12256)) (tt k6 (tt k5 b)))))) (fun k5=>(lr 40 33 (pn 2341) 1 5 [(2,(.bool false))] (sl Xv 72 [] (a7 [2]) a6 (CK 6 (bl 15 27104)) (tt k5 b)))))) (fun k4=>(sl Xv 61 [] ⟨[],[],SA,Rz⟩ a6 (CK 6 (bl 13 2048)) (tt k4 d))))))) (fun k2=>(sl Xv 61 [] ⟨[],[],SA,Rz⟩ a6 (CK 3 (bl 5 0)) (tt k2 (tt k1 a)))))) (fun k1=>(lb (fun k2=>(lr 40 33 (pn 2341) 1 5 [(2,(.bool false))] (sl Xv 57 [] (a7 [2]) a6 (bl 14 16377) (tt k2 (tt k1 a))))) (fun k2=>let e:=ww aL (tt k2 (tt k1 a));(lb (fun k3=>let c:=ww aL (tt k3 e);(lb (fun k4=>(lb (fun k5=>(lr 40 33 (pn 2341) 1 5 [(2,(.bool false))] (sl Xv 72 [] (a7 [2]) a6 (bl 21 1833017) (tt k5 (tt k4 c))))) (fun k5=>(sl Xv 76 [] ⟨[],[],SA,Rz⟩ a6 (bl 21 784441) (tt k5 (tt k4 c)))))) (fun k4=>(lr 40 33 (pn 2341) 1 5 [(2,(.bool false))] (sl Xv 72 [] (a7 [2]) a6 (bl 21 1734713) (tt k4 c)))))) (fun k3=>(sl Xv 61 [] ⟨[],[],SA,Rz⟩ a6 (bl 19 131129) (tt k3 e)))))))))) (fun k0=>(lb (fun k1=>(lr 40 3 (pn 767) 1 5 [(2,(.bool (decide ((x0.length:Int)<=40))))] (sl Xv 22 [] (a7 [2]) a6 (bl 4 14) (tt k1 (tt k0 nn))))) (fun k1=>(lr 40 3 (pn 767) 1 5 [(2,(.bool false))] (sl Xv 22 [] (a7 [2]) a6 (bl 4 0) (tt k1 (tt k0 nn))))))))
theorem x9t (x0:zu):Xx prog (Zy prog 33) (OW x0) (Zp prog 33 [(.str x0)] true []) (x2m x0):=(sl Xv 11 [] ⟨[],[],SA,Rz⟩ a6 [] nn)
theorem u1k (x0:zu) (n:Nat) (vs:zy) (h:Yx (NA x0) n (x2m x0)=.ret vs):Vi prog (Zy prog 33) (Zp prog 33 [(.str x0)] true []) vs:=by have:=Zg (w9e x0) n _ (x9t x0);rwa [h] at this
inductive IJ where
 | h0 (v3:List zu) (v4:Int) (v5:Int)
def Ob (x0:zu):IJ->CI
 | .h0 v3 v4 v5=>⟨⟨34,0,true⟩,none,(Zq prog 46 (pn 303) 0),none,(Zy prog 5),⟨Zs [(0,(.str x0)),(3,(.sla 0 1 0 v3.length (.un 1))),(4,(ii v4)),(5,(ii v5))],Xe [(rz v3 9 1)] 0,1,[],true⟩,[],.leaf⟩
def u2l :List (Option zr):=[some [0,3,4,5]]
def u2m :List (Option zr):=[]
def Gg (x0:zu):IJ->Yr IJ
 | .h0 v3 v4 v5=>(bif (decide (v5<=(x0.length:Int))) then (bif (v5 == (x0.length:Int)) then (bif (decide (v4.toNat<=v5.toNat)) then (bif (decide (v5.toNat<=x0.length)) then (bif (decide (0<=v4)) then (bif (decide (0<=v5)) then (bif (Nat.beq 1 1&&((decide (0+v3.length=v3.length))&&decide ((v3.length+1+1)*(16+1)<=Jm))) then (.to (.h0 (v3++[((x0.drop v4.toNat).take (v5.toNat - v4.toNat))]) (wrap .i64 (v5+1)) (wrap .i64 (v5+1)))) else .stuck) else .stuck) else .stuck) else .stuck) else .stuck) else (bif (decide (0<=v5/\v5<(x0.length:Int))) then (bif ((Cl x0 v5.toNat) == 47) then (bif (decide (v4.toNat<=v5.toNat)) then (bif (decide (v5.toNat<=x0.length)) then (bif (decide (0<=v4)) then (bif (decide (0<=v5)) then (bif (Nat.beq 1 1&&((decide (0+v3.length=v3.length))&&decide ((v3.length+1+1)*(16+1)<=Jm))) then (.to (.h0 (v3++[((x0.drop v4.toNat).take (v5.toNat - v4.toNat))]) (wrap .i64 (v5+1)) (wrap .i64 (v5+1)))) else .stuck) else .stuck) else .stuck) else .stuck) else .stuck) else (.to (.h0 v3 v4 (wrap .i64 (v5+1))))) else .stuck)) else (.ret [(dt v3)]))
def X2 (x0:zu):Yr IJ:=(bif (x0 == ([]:zu)) then (.ret [.nils]) else (.to (.h0 ([]:List zu) 0 0)))
theorem w9z (x0:zu): ∀s,Xx prog (Zy prog 46) (Ob x0) (Ob x0 s) (Gg x0 s)
 | .h0 v3 v4 v5=>(lb (fun k0=>let j:=x0.drop (tn v4);let l:=j.take ((tn v5) - (tn v4));let f:=v3++[l];let a:=f;let e:=Zf (Zz v3) 0 v3.length 1 [(.str l)];let g:=v3.length+1;let h:=decide ((tn v5)<=x0.length);let i:=decide ((tn v4)<=(tn v5));(lb (fun k1=>(lo fun o0=>(lo fun o1=>(lo fun o2=>(lo fun o3=>(lo fun o4=>let b:=xL g f.length;(sl Xv 49 [] ⟨[2],[],u2l,u2m⟩ ⟨[(3,.len a.length)],[.rowed 1 a.length (Zz a)],[]⟩ (CK 6 []) (pp b (pp b (pp (xS g e (Zz f)) (pp (pp (xF e) nn) (ww o4 (pp (pp (xw o3) (pp (xw o2) (pp (xG h) (xG i)))) (tt k1 (tt k0 nn))))))))))))))) (fun k1=>(lo fun bO=>let d:=ww bO (tt k1 (tt k0 nn));(lb (fun k2=>(lo fun o0=>(lo fun o1=>(lo fun o2=>(lo fun o3=>(lo fun o4=>let c:=xL g f.length;(sl Xv 49 [] ⟨[2],[],u2l,u2m⟩ ⟨[(3,.len a.length)],[.rowed 1 a.length (Zz a)],[]⟩ (bl 6 33) (pp c (pp c (pp (xS g e (Zz f)) (pp (pp (xF e) nn) (ww o4 (pp (pp (xw o3) (pp (xw o2) (pp (xG h) (xG i)))) (tt k2 d)))))))))))))) (fun k2=>(sl Xv 34 [] ⟨[0],[],u2l,u2m⟩ a6 (bl 6 1) (pp (fl v3 nn) (tt k2 d))))))))) (fun k0=>(lr 34 3 (pn 767) 1 5 [(2,(dt v3))] (sl Xv 15 [] ⟨[],[0],[some [2]],[]⟩ ⟨[(2,.frz v3.length v3.length (Zz v3) (Zz v3))],[],[]⟩ [false] (pp (xZ (Cv 1 1 0 v3.length v3.length (Zz v3)) v3.length (Zz v3)) (pp (xL v3.length v3.length) (pp (xS v3.length (Zz v3) (Zz v3)) (pp (fl v3 nn) (tt k0 nn)))))))))
theorem w0w (x0:zu):Xx prog (Zy prog 46) (Ob x0) (Zp prog 46 [(.str x0)] true []) (X2 x0):=(lb (fun k0=>(lr 34 46 (pn 37) 1 5 [(2,.nils)] (sl Xv 15 [] (a7 [2]) a6 [true] (tt k0 nn)))) (fun k0=>let a:=zu;(sl Xv 27 [(9,1,Zz ([]:List a))] ⟨[0],[],u2l,u2m⟩ ⟨[(3,.grow 0 1)],[],[]⟩ [false] (pp (fl ([]:List a) nn) (tt k0 nn)))))
theorem u2k (x0:zu) (n:Nat) (vs:zy) (h:Yx (Gg x0) n (X2 x0)=.ret vs):Vi prog (Zy prog 46) (Zp prog 46 [(.str x0)] true []) vs:=by have:=Zg (w9z x0) n _ (w0w x0);rwa [h] at this
theorem VV {s:zu} {i:Nat} (h:i<s.length):(⟨s.toArray⟩:ByteArray).get! i=s[i]:=by simp [ByteArray.get!,h]
theorem w7b {s:zu} {i:Nat} (h:i<s.length) (ha:s[i].toNat <128):EA s i=((s[i].toNat :Nat):Int)/\Fy s i=1:=by
 have e:Utf8.decode ⟨s.toArray⟩ i=(s[i].toNat,1):=by unfold Utf8.decode;simp only [Bg,VV h];rw [AJ ha]
 unfold EA Fy;rw [e];exact ⟨rfl,rfl⟩
theorem j0s {s:zu} {i:Nat} (h:i<s.length) (ha: ¬s[i].toNat <128):128<=EA s i:=by
 have e:128<=(Utf8.decode ⟨s.toArray⟩ i).1:=by
  unfold Utf8.decode;simp only [Bg,VV h];rw [AC ha];repeat' split
  all_goals (try simp only [Utf8.runeError,Ac,Ao,ge_iff_le] at*)
  all_goals omega
 unfold EA;omega
theorem M3 {P:Program} {S:CB} (hS:Zw P S) {f:FuncId} {F:zy->Option (B9×Bool)} (hf:(P.funcs[f]?).any (fun fn=>fn.body.isSome)=true)
  (hF: ∀args v,F args=some (v,true)-> ∃bs vs,Vg D1 args bs/\(∀(ρ:CE) (u:Value),Yv ρ (Uz vs) u->Yv ρ v u)/\Vi P (Zy P f) (Zp P f bs true []) vs/\ ∃d,pf d (Uz vs)=true):Zw P (S.with f F):=
 y9u hS hf fun args v h=>by obtain ⟨bs,vs,h1,h2,h3,d,h4⟩:=hF args v h;exact ⟨vs,h2,y7v h1 h3,d,h4⟩
theorem NY {s:zu} {i:Nat} (h:i<s.length):Cl s i=((s[i].toNat :Nat):Int):=by unfold Cl;rw [Bj,At h];rfl
theorem v3c (c:UInt8):c.toNat<256:=UInt8.toNat_lt c
theorem j0i (c:UInt8): ∀s:zu,Lib.indexByte s c+1<=(s.length:Int)
 | []=>by show (-1:Int)+1<=((0:Nat):Int);omega
 | b::l=>by
  have ih:=j0i c l;unfold Lib.indexByte;rw [AZ];split
  .omega
  .split <;> omega
theorem x4n (x:zu) (k:Nat):(x.drop k).take (x.length - k)=x.drop k:=A3 (by rw [Bv];omega)
def Wy (s sep:zu):zu:=bif decide (0<=Cf s sep) then s.take (Cf s sep).toNat else s
def Wi (s sep:zu):zu:=bif decide (0<=Cf s sep) then s.drop ((Cf s sep).toNat +1) else []
def Jo (s sep:zu):Bool:=decide (0<=Cf s sep)
def Kf (s sep:zu):Bool:=Nat.beq sep.length 1&&decide (s.length<=1000000)
theorem j5z (s sep:zu) (h:Kf s sep=true): ∃N,Yx (w1z s sep) N (TN s sep)=.ret [.str (Wy s sep),.str (Wi s sep),.bool (Jo s sep)]:=⟨0,by
 unfold Kf at h;rw [Ac,Ao] at h;have hl:=Aj h.1;have hi:Cf s sep+1<=(s.length:Int):=j0i _ _;show TN s sep=_;unfold TN Wy Wi Jo;rw [Zi (show y7n s sep=true from h.1),hl];by_cases g:0<=Cf s sep
 .have w:wrap .i64 (Cf s sep+((1:Nat):Int))=Cf s sep+1:=Zk (by omega);have e0:decide (0<=Cf s sep)=true:=Af g;have e1:decide (Cf s sep>=0)=true:=Af g;rw [e0,w];simp only [Ab];rw [Zi (Af (show (Cf s sep).toNat <=s.length by omega)),
   Zi (Af (show (Cf s sep+1).toNat <=s.length by omega)),Zi (Af (show 0<=Cf s sep+1 by omega)),AO,x4n,
   show (Cf s sep+1).toNat =(Cf s sep).toNat +1 by omega]
 .have e0:decide (0<=Cf s sep)=false:=An g;have e1:decide (Cf s sep>=0)=false:=An g;rw [e0];rfl⟩
def QH :zy->Option (B9×Bool)
 | [.str s,.str sep]=>some (.tup [.str (Wy s sep),.str (Wi s sep),.bool (Jo s sep)],Kf s sep)
 | _=>none
theorem j8u {S:CB} (hS:Zw prog S):Zw prog (S.with VN QH):=Kv hS (by kernel_rfl) fun args v h=>by
 unfold QH at h;split at h
 .rename_i s sep;simp only [Ad,Ae] at h;obtain ⟨rfl,ho⟩:=h;obtain ⟨N,hN⟩:=j5z s sep ho;exact ⟨_,_,.cons (.refl _) (.cons (.refl _) .nil),rfl,u3y s sep N _ hN,3,rfl⟩
 .cases h
def G8 (s f:zu):Bool:=decide (f.length<=s.length)&&(s.drop (s.length - f.length) == f)
def Jt (s f:zu):zu:=bif G8 s f then s.take (s.length - f.length) else s
def RU (s f:zu):Bool:=decide (s.length<=1000000)&&decide (f.length<=1000000)
theorem j9w (s f:zu) (h:RU s f=true): ∃N,Yx (w3r s f) N (TE s f)=.ret [.str (Jt s f),.bool (G8 s f)]:=⟨0,by
 unfold RU at h;rw [Ac,Ao,Ao] at h;show TE s f=_;unfold TE Jt G8;by_cases g:f.length<=s.length
 .have w:wrap .i64 ((s.length:Int) - (f.length:Int))=((s.length - f.length:Nat):Int):=by rw [Zk (by omega)];omega
  rw [Af g,Af (show (s.length:Int)>=(f.length:Int) by omega),Ab,w,Zj,Ak,x4n,Zi (Af (show s.length - f.length<=s.length by omega)),Zi (Af (show (0:Int)<=((s.length - f.length:Nat):Int) by omega)),AO];cases s.drop (s.length - f.length) == f <;> rfl
 .rw [An g,An (show ¬(s.length:Int)>=(f.length:Int) by omega)];rfl⟩
def QU :zy->Option (B9×Bool)
 | [.str s,.str f]=>some (.tup [.str (Jt s f),.bool (G8 s f)],RU s f)
 | _=>none
theorem j9k {S:CB} (hS:Zw prog S):Zw prog (S.with V8 QU):=Kv hS (by kernel_rfl) fun args v h=>by
 unfold QU at h;split at h
 .rename_i s f;simp only [Ad,Ae] at h;obtain ⟨rfl,ho⟩:=h;obtain ⟨N,hN⟩:=j9w s f ho;exact ⟨_,_,.cons (.refl _) (.cons (.refl _) .nil),rfl,u5j s f N _ hN,3,rfl⟩
 .cases h
def I1 (n:Nat):Bool:=decide (97<=n)&&decide (n<=122)
def digN (n:Nat):Bool:=decide (48<=n)&&decide (n<=57)
def JT (i n:Nat):Bool:=I1 n||(decide (i≠0)&&(decide (n=45)||digN n))
def Gl :Nat->zu->Bool
 | _,[]=>true
 | i,c::r=>JT i c.toNat&&Gl (i+1) r
def Cu (s:zu):Bool:=decide (1<=s.length)&&(decide (s.length<=40)&&Gl 0 s)
def Uy (s:zu):Bool:=decide (s.length<=1000000)
theorem u3k {s:zu} {i:Nat} (hi:i<s.length):Ms s (.h0 i)=bif JT i s[i].toNat then .to (.h0 (i+1)) else .ret [.bool false]:=by
 unfold Ms JT I1 digN;simp only [];rw [Yq hi,Ab];have hz:(((i:Nat):Int) == 0)=decide (i=0):=by rw [AU];simp
 rw [hz];by_cases ha:s[i].toNat <128
 .obtain ⟨e1,e2⟩:=w7b hi ha;rw [e1,e2];generalize s[i].toNat =c;by_cases h1:97<=c
  .rw [ET (by omega),Af h1];by_cases h2:c<=122
   .rw [Xs (by omega),Af h2];rfl
   .rw [EU (by omega),An h2,Ur (by omega),Ym (by omega),Ys (by omega),An (show ¬c=45 by omega),An (show ¬c<=57 by omega),A2,A2,BY,A2];cases decide (i=0) <;> rfl
  .rw [El (by omega),An h1,AW,Bc];by_cases h0:i=0
   .rw [Af h0,An (show ¬i≠0 from fun h=>h h0)];rfl
   .rw [An h0,Af (show i≠0 from h0)];by_cases h3:c=45
    .rw [Jz (by omega),Af h3];rfl
    .rw [Ur (by omega),An h3,Ak,Bc];by_cases h4:48<=c
     .rw [Ym (by omega),Af h4];by_cases h5:c<=57
      .rw [Xg (by omega),Af h5];rfl
      .rw [Ys (by omega),An h5];rfl
     .rw [Zt (by omega),An h4];rfl
 .have hb:=j0s hi ha;generalize s[i].toNat =c at ha ⊢;rw [ET (by omega),EU (by omega),Ur (by omega),Ym (by omega),Ys (by omega),Af (show 97<=c by omega),An (show ¬c<=122 by omega),An (show ¬c=45 by omega),An (show ¬c<=57 by omega),A2,A2,BY,A2];cases decide (i=0) <;> rfl
theorem u9j {s:zu}: ∀(k i:Nat),i+k=s.length-> ∃N,Yx (Ms s) N (.to (.h0 i))=.ret [.bool (Gl i (s.drop i))]
 | 0,i,h=>⟨1,by
  rw [Zx,Av (by omega)];unfold Ms;simp only [];rw [An (show ¬i<s.length by omega)];rfl⟩
 | k+1,i,h=>by
  have hi:i<s.length:=by omega
  obtain ⟨N,hN⟩:=u9j (s:=s) k (i+1) (by omega);refine ⟨N+1,?_⟩;rw [Zx,u3k hi,AT hi,Gl];cases JT i s[i].toNat with
  | true=>rw [Ab,hN,Ak]
  | false=>rw [Aa,Zd];rfl
theorem j5l (s:zu) (h:Uy s=true): ∃N,Yx (Ms s) N (XV s)=.ret [.bool (Cu s)]:=by
 unfold XV Cu;by_cases h1:1<=s.length
 .rw [Af h1,show ((s.length:Int) == 0)=false from TW (by omega),Aa,Ak];by_cases h2:s.length<=40
  .rw [Af h2,Xg (by omega),Aa,Ak];exact u9j s.length 0 (by omega)
  .rw [An h2,Ys (by omega),Ab];exact ⟨0,rfl⟩
 .rw [An h1,show ((s.length:Int) == 0)=true from TX (by omega),Ab];exact ⟨0,rfl⟩
theorem u1j {s:zu} {i:Nat} (hi:i<s.length) (hs:s.length<=1000000):NA s (.h0 (i:Int))=bif JT i s[i].toNat then .to (.h0 ((i+1:Nat):Int)) else .ret [.bool false]:=by
 unfold NA JT I1 digN;have w2:wrap .i64 ((i:Int)+1)=((i+1:Nat):Int):=Zk (by omega);simp only [Zj,w2,NY hi];rw [Zt (by omega),Ab,Zi (Zr (by omega))];have hz:(((i:Nat):Int) == 0)=decide (i=0):=by rw [AU];simp
 rw [hz];generalize s[i].toNat =c;by_cases h1:97<=c
 .rw [ET (by omega),Af h1];by_cases h2:c<=122
  .rw [Xs (by omega),Af h2];rfl
  .rw [EU (by omega),An h2,Ur (by omega),ET (by omega),EU (by omega),An (show ¬c=45 by omega),An (show ¬c<=57 by omega),A2,A2,BY,A2];cases decide (i=0) <;> rfl
 .rw [El (by omega),Aa,An h1,AW,Bc];by_cases h0:i=0
  .rw [Af h0,An (show ¬i≠0 from fun h=>h h0)];rfl
  .rw [An h0,Af (show i≠0 from h0)];by_cases h3:c=45
   .rw [Jz (by omega),Af h3];rfl
   .rw [Ur (by omega),An h3,Ak,Bc];by_cases h4:48<=c
    .rw [ET (by omega),Af h4];by_cases h5:c<=57
     .rw [Xs (by omega),Af h5];rfl
     .rw [EU (by omega),An h5];rfl
    .rw [El (by omega),An h4];rfl
theorem u8c {s:zu} (hs:s.length<=1000000): ∀(k i:Nat),i+k=s.length-> ∃N,Yx (NA s) N (.to (.h0 (i:Int)))=.ret [.bool (Gl i (s.drop i)&&(decide (1<=s.length)&&decide (s.length<=40)))]
 | 0,i,h=>⟨1,by
  rw [Zx,Av (by omega)];unfold NA;simp only [];rw [Ym (by omega),Aa];by_cases h1:1<=s.length
  .rw [ET (by omega),Af h1,Ab,show decide ((s.length:Int)<=40)=decide (s.length<=40) by rw [AU,Ao,Ao];omega];exact Zd _ _ _
  .rw [El (by omega),An h1];rfl⟩
 | k+1,i,h=>by
  have hi:i<s.length:=by omega
  obtain ⟨N,hN⟩:=u8c hs k (i+1) (by omega);refine ⟨N+1,?_⟩;rw [Zx,u1j hi hs,AT hi,Gl];cases JT i s[i].toNat with
  | true=>rw [Ab,hN,Ak]
  | false=>rw [Aa,Zd];rfl
theorem j3s (s:zu) (h:Uy s=true): ∃N,Yx (NA s) N (x2m s)=.ret [.bool (Cu s)]:=by
 obtain ⟨N,hN⟩:=u8c (s:=s) (Ax h) s.length 0 (by omega);refine ⟨N,?_⟩;have e:Cu s=(Gl 0 (s.drop 0)&&(decide (1<=s.length)&&decide (s.length<=40))):=by unfold Cu;rw [AO];cases Gl 0 s <;> cases decide (1<=s.length) <;> cases decide (s.length<=40) <;> rfl
 rw [e];exact hN
def Fd :zy->Option (B9×Bool)
 | [.str s]=>some (.bool (Cu s),Uy s)
 | _=>none
theorem j8q {S:CB} (hS:Zw prog S):Zw prog (S.with VD Fd):=Kv hS (by kernel_rfl) fun args v h=>by
 unfold Fd at h;split at h
 .rename_i s;simp only [Ad,Ae] at h;obtain ⟨rfl,ho⟩:=h;obtain ⟨N,hN⟩:=j5l s ho;exact ⟨_,_,.cons (.refl _) .nil,rfl,u3l s N _ hN,3,rfl⟩
 .cases h
theorem j7w {S:CB} (hS:Zw prog S):Zw prog (S.with UT Fd):=Kv hS (by kernel_rfl) fun args v h=>by
 unfold Fd at h;split at h
 .rename_i s;simp only [Ad,Ae] at h;obtain ⟨rfl,ho⟩:=h;obtain ⟨N,hN⟩:=j3s s ho;exact ⟨_,_,.cons (.refl _) .nil,rfl,u1k s N _ hN,3,rfl⟩
 .cases h
def DJ (s:zu):List zu:=bif s == [] then [] else Cm 47 [] s
def WP (s:zu):Bool:=decide (s.length<=1000000)
def IK (s:zu):zy:=bif s == [] then [.nils] else [.dat (Cm 47 [] s).length (Zz (Cm 47 [] s))]
theorem v5j {s:zu} (hs:s.length<=1000000): ∀(k i fr:Nat) (out:List zu),i+k=s.length->fr<=i->out.length<=i->
  ∃N,Yx (Gg s) N (.to (.h0 out (fr:Int) (i:Int)))=.ret [.dat (out++Cm 47 ((s.drop fr).take (i - fr)) (s.drop i)).length (Zz (out++Cm 47 ((s.drop fr).take (i - fr)) (s.drop i)))]
 | 0,i,fr,out,h,hfi,ho=>by
  refine ⟨2,?_⟩;have w2:wrap .i64 ((i:Int)+1)=((i+1:Nat):Int):=Zk (by omega);have e:Gg s (.h0 out (fr:Int) (i:Int))=.to (.h0 (out++[(s.drop fr).take (i - fr)]) ((i+1:Nat):Int) ((i+1:Nat):Int)):=by unfold Gg;simp only [Zj,w2];rw [Zi (Xs (by omega)),Zi (TX (by omega)),Zi (Ye hfi),Zi (Ye (by omega)),Zi (Xs (by omega)),Zi (Xs (by omega)),Zi (NB (by omega))]
  have e2: ∀o,Gg s (.h0 o ((i+1:Nat):Int) ((i+1:Nat):Int))=.ret [.dat o.length (Zz o)]:=fun o=>by unfold Gg;simp only [];rw [EU (by omega),Aa]
  rw [Zx,e,Zx,e2,Av (show s.length<=i by omega)];rfl
 | k+1,i,fr,out,h,hfi,ho=>by
  have hi:i<s.length:=by omega
  have hc:=v3c s[i];have w2:wrap .i64 ((i:Int)+1)=((i+1:Nat):Int):=Zk (by omega);have hbb:((((s[i].toNat :Nat):Int)) == 47)=(s[i] == 47):=by
   rw [AU,Bi,Bi];constructor
   .intro h;apply UInt8.toNat_inj.1;show s[i].toNat =47;omega
   .intro h;rw [h];rfl
  have e:Gg s (.h0 out (fr:Int) (i:Int))=bif s[i] == 47 then .to (.h0 (out++[(s.drop fr).take (i - fr)]) ((i+1:Nat):Int) ((i+1:Nat):Int)) else .to (.h0 out (fr:Int) ((i+1:Nat):Int)):=by unfold Gg;simp only [Zj,w2,NY hi,hbb];rw [Zi (Xs (by omega)),TW (by omega),Aa,Zi (Zr (by omega))];rw [Zi (Ye hfi),Zi (Ye (by omega)),Zi (Xs (by omega)),Zi (Xs (by omega)),Zi (NB (by omega))]
  rw [AT hi,Cm];cases g:s[i] == 47 with
  | true=>obtain ⟨N,hN⟩:=v5j hs k (i+1) (i+1) (out++[(s.drop fr).take (i - fr)]) (by omega) (Ar _) (by rw [AK,Bp];omega);refine ⟨N+1,?_⟩;rw [Zx,e,g,Ab,Ab,hN,Nat.sub_self,List.take_zero,AH];rfl
  | false=>
   obtain ⟨N,hN⟩:=v5j hs k (i+1) fr out (by omega) (by omega) (by omega);refine ⟨N+1,?_⟩;have ht:(s.drop fr).take (i+1 - fr)=(s.drop fr).take (i - fr)++[s[i]]:=by
    rw [show i+1 - fr=(i - fr)+1 by omega,AX]
    congr 1
    rw [List.getElem?_drop,show fr+(i - fr)=i by omega,At hi];rfl
   rw [Zx,e,g,Aa,Aa,hN,ht]
theorem j4w (s:zu) (h:WP s=true): ∃N,Yx (Gg s) N (X2 s)=.ret (IK s):=by
 unfold X2 IK;cases g:s == [] with
 | true=>exact ⟨0,rfl⟩
 | false=>obtain ⟨N,hN⟩:=v5j (s:=s) (Ax h) s.length 0 0 [] (Ah _) (Ar _) (Ar _);exact ⟨N,hN⟩
def QC :zy->Option (B9×Bool)
 | [.str s]=>some (.dat (DJ s).length (Zz (DJ s)),WP s)
 | _=>none
theorem j8i {S:CB} (hS:Zw prog S):Zw prog (S.with U8 QC):=M3 hS (by kernel_rfl) fun args v h=>by
 unfold QC at h;split at h
 .rename_i s;simp only [Ad,Ae] at h;obtain ⟨rfl,ho⟩:=h;obtain ⟨N,hN⟩:=j4w s ho;refine ⟨_,_,.cons (.refl _) .nil,?_,u2k s N _ hN,3,?_⟩
  .unfold IK DJ;cases s == [] with
   | true=>exact fun ρ u hu=>by cases hu;exact .datn _
   | false=>exact fun ρ u hu=>hu
  .unfold IK;cases s == [] <;> rfl
 .cases h
def WM :CB:=((((WN.with VN QH).with V8 QU).with VD Fd).with UT Fd).with U8 QC
theorem Ww :Zw prog WM:=j8i (j7w (j8q (j9k (j8u Xv))))
inductive F1 where
 | h0 (v9:Int) (bZ:Nat)
def PD (x0:zu):F1->CI
 | .h0 v9 bZ=>⟨⟨82,0,true⟩,none,(Zq prog 45 (pn 1215) 0),none,(Zy prog 45),⟨Zs [(2,(.ptr 0 0)),(4,(.str (Wy x0 ([91]:zu)))),(9,(ii v9)),(62,(.ptr 1 0))],Xe [⟨[(.str []),(ii 0)],86,none⟩,⟨[(.obj (.it (Jt (Wi x0 ([91]:zu)) ([93]:zu)) bZ))],9,none⟩] 0,2,[],true⟩,[],.leaf⟩
def j5s :List (Option zr):=[some [2,4,9,62]]
def j5t :List (Option zr):=[]
def Mr (x0:zu):F1->Yr F1
 | .h0 v9 bZ=>(bif (decide (bZ<(Jt (Wi x0 ([91]:zu)) ([93]:zu)).length)) then (bif (decide ((EA (Jt (Wi x0 ([91]:zu)) ([93]:zu)) bZ)<48)) then (.ret [(.agg [(.str []),(.int .i64 0)]),(.bool false)]) else (bif (decide ((EA (Jt (Wi x0 ([91]:zu)) ([93]:zu)) bZ)>57)) then (.ret [(.agg [(.str []),(.int .i64 0)]),(.bool false)]) else (.to (.h0 (wrap .i64 ((wrap .i64 (10*v9))+(wrap .i64 (wrap IntKind.i32 ((EA (Jt (Wi x0 ([91]:zu)) ([93]:zu)) bZ) - 48))))) (bZ+Fy (Jt (Wi x0 ([91]:zu)) ([93]:zu)) bZ))))) else (.ret [(.agg [(.str (Wy x0 ([91]:zu))),(.int .i64 v9)]),(.bool true)]))
def XT (x0:zu):Yr F1:=(bif (Kf x0 ([91]:zu)) then (bif (Uy (Wy x0 ([91]:zu))) then (bif (!(Cu (Wy x0 ([91]:zu)))) then (bif (!(Jo x0 ([91]:zu))) then (.ret [(.agg [(.str (Wy x0 ([91]:zu))),(.int .i64 (-1))]),(.bool (Cu (Wy x0 ([91]:zu))))]) else (.ret [(.agg [(.str (Wy x0 ([91]:zu))),(.int .i64 (-1))]),(.bool false)])) else (bif (!(Jo x0 ([91]:zu))) then (.ret [(.agg [(.str (Wy x0 ([91]:zu))),(.int .i64 (-1))]),(.bool (Cu (Wy x0 ([91]:zu))))]) else (bif (RU (Wi x0 ([91]:zu)) ([93]:zu)) then (bif (!(G8 (Wi x0 ([91]:zu)) ([93]:zu))) then (.ret [(.agg [(.str []),(.int .i64 0)]),(.bool false)]) else (bif ((((Jt (Wi x0 ([91]:zu)) ([93]:zu)).length :Nat):Int) == 0) then (.ret [(.agg [(.str []),(.int .i64 0)]),(.bool false)]) else (bif (decide ((((Jt (Wi x0 ([91]:zu)) ([93]:zu)).length :Nat):Int)>4)) then (.ret [(.agg [(.str []),(.int .i64 0)]),(.bool false)]) else (bif (decide ((0:Int)<=0/\0<(((Jt (Wi x0 ([91]:zu)) ([93]:zu)).length :Nat):Int))) then (bif ((Cl (Jt (Wi x0 ([91]:zu)) ([93]:zu)) 0) == 48) then (bif (decide ((((Jt (Wi x0 ([91]:zu)) ([93]:zu)).length :Nat):Int)>1)) then (.ret [(.agg [(.str []),(.int .i64 0)]),(.bool false)]) else (.to (.h0 0 0))) else (.to (.h0 0 0))) else .stuck)))) else .stuck))) else .stuck) else .stuck)
theorem v0o (x0:zu): ∀s,Xx prog (Zy prog 45) (PD x0) (PD x0 s) (Mr x0 s)
 | .h0 v9 bZ=>let b:=Zy prog 45;(lb (fun k0=>let a:=Zq prog 45 (pn 306367) 1;(lb (fun k1=>(Yu ⟨⟨82,0,true⟩,none,a,none,b,⟨Zs [(2,(.ptr 0 0)),(3,(.bool false))],Xe [⟨[(.str []),(ii 0)],86,none⟩] 0,1,[],true⟩,[],.leaf⟩ (sl Ww 31 [] ⟨[0],[],[some [2,3]],[]⟩ a6 (CK 5 []) (tt k1 (tt k0 nn))) rfl (by kernel_rfl))) (fun k1=>let c:=tt k1 (tt k0 nn);(lb (fun k2=>(Yu ⟨⟨82,0,true⟩,none,a,none,b,⟨Zs [(2,(.ptr 0 0)),(3,(.bool false))],Xe [⟨[(.str []),(ii 0)],86,none⟩] 0,1,[],true⟩,[],.leaf⟩ (sl Ww 31 [] ⟨[0],[],[some [2,3]],[]⟩ a6 (bl 5 19) (tt k2 c)) rfl (by kernel_rfl))) (fun k2=>(sl Ww 37 [] ⟨[0,1],[],j5s,j5t⟩ a6 (bl 5 3) (tt k2 c))))))) (fun k0=>(Yu ⟨⟨82,0,true⟩,none,(Zq prog 3 (pn 767) 1),none,b,⟨Zs [(2,(.ptr 0 0)),(3,(.bool true))],Xe [⟨[(.str (Wy x0 ([91]:zu))),(ii v9)],86,none⟩] 0,1,[],true⟩,[],.leaf⟩ (sl Ww 16 [] ⟨[0],[],[some [2,3]],[]⟩ a6 (bl 2 0) (tt k0 nn)) rfl (by kernel_rfl))))
theorem w1u (x0:zu):Xx prog (Zy prog 45) (PD x0) (Zp prog 45 [(.str x0)] true []) (XT x0):=(lo fun bG=>(lo fun cO=>let b:=Wy x0 ([91]:zu);let e:=Zy prog 45;let f:=Zq prog 45 (pn 75) 1;let g:=ww cO (ww bG nn);(lb (fun k0=>(lb (fun k1=>(Yu ⟨⟨82,0,true⟩,none,f,none,e,⟨Zs [(2,(.ptr 0 0)),(3,(.bool (Cu b)))],Xe [⟨[(.str b),(ii (-1))],86,none⟩] 0,1,[],true⟩,[],.leaf⟩ (sl Ww 42 [] ⟨[0],[],[some [2,3]],[]⟩ a6 (CK 5 []) (ww cO (tt k1 (tt k0 g)))) rfl (by kernel_rfl))) (fun k1=>(Yu ⟨⟨82,0,true⟩,none,f,none,e,⟨Zs [(2,(.ptr 0 0)),(3,(.bool false))],Xe [⟨[(.str b),(ii (-1))],86,none⟩] 0,1,[],true⟩,[],.leaf⟩ (sl Ww 42 [] ⟨[0],[],[some [2,3]],[]⟩ a6 (CK 3 (bl 2 0)) (tt k1 (tt k0 g))) rfl (by kernel_rfl))))) (fun k0=>(lb (fun k1=>(Yu ⟨⟨82,0,true⟩,none,f,none,e,⟨Zs [(2,(.ptr 0 0)),(3,(.bool (Cu b)))],Xe [⟨[(.str b),(ii (-1))],86,none⟩] 0,1,[],true⟩,[],.leaf⟩ (sl Ww 42 [] ⟨[0],[],[some [2,3]],[]⟩ a6 (bl 5 28) (ww cO (tt k1 (tt k1 (tt k0 g))))) rfl (by kernel_rfl))) (fun k1=>(lo fun bO=>let a:=ww bO (tt k1 (tt k0 g));let c:=Zq prog 45 (pn 303) 1;(lb (fun k2=>(Yu ⟨⟨82,0,true⟩,none,c,none,e,⟨Zs [(2,(.ptr 0 0)),(3,(.bool false))],Xe [⟨[(.str []),(ii 0)],86,none⟩] 0,1,[],true⟩,[],.leaf⟩ (sl Ww 73 [] ⟨[0],[],[some [2,3]],[]⟩ a6 (bl 15 32760) (tt k2 a)) rfl (by kernel_rfl))) (fun k2=>(lb (fun k3=>(Yu ⟨⟨82,0,true⟩,none,c,none,e,⟨Zs [(2,(.ptr 0 0)),(3,(.bool false))],Xe [⟨[(.str []),(ii 0)],86,none⟩] 0,1,[],true⟩,[],.leaf⟩ (sl Ww 73 [] ⟨[0],[],[some [2,3]],[]⟩ a6 (bl 15 32704) (tt k3 (tt k2 a))) rfl (by kernel_rfl))) (fun k3=>let h:=tt k3 (tt k2 a);(lb (fun k4=>(Yu ⟨⟨82,0,true⟩,none,c,none,e,⟨Zs [(2,(.ptr 0 0)),(3,(.bool false))],Xe [⟨[(.str []),(ii 0)],86,none⟩] 0,1,[],true⟩,[],.leaf⟩ (sl Ww 73 [] ⟨[0],[],[some [2,3]],[]⟩ a6 (bl 15 32256) (tt k4 h)) rfl (by kernel_rfl))) (fun k4=>(lo fun cD=>let d:=ww cD (tt k4 h);(lb (fun k5=>(lb (fun k6=>(Yu ⟨⟨82,0,true⟩,none,c,none,e,⟨Zs [(2,(.ptr 0 0)),(3,(.bool false))],Xe [⟨[(.str []),(ii 0)],86,none⟩] 0,1,[],true⟩,[],.leaf⟩ (sl Ww 73 [] ⟨[0],[],[some [2,3]],[]⟩ a6 (bl 18 188416) (tt k6 (tt k5 d))) rfl (by kernel_rfl))) (fun k6=>(sl Ww 80 [] ⟨[0,1],[],j5s,j5t⟩ a6 (bl 18 57344) (tt k6 (tt k5 d)))))) (fun k5=>(sl Ww 80 [] ⟨[0,1],[],j5s,j5t⟩ a6 (bl 18 0) (tt k5 d))))))))))))))))))
theorem u3s (x0:zu) (n:Nat) (vs:zy) (h:Yx (Mr x0) n (XT x0)=.ret vs):Vi prog (Zy prog 45) (Zp prog 45 [(.str x0)] true []) vs:=by have:=Zg (v0o x0) n _ (w1u x0);rwa [h] at this
inductive GS where
 | h0 (v5:Int)
 | h1 (v5:Int) (v6:zu) (v7:Int) (v8:Int)
def OI (x0:zu):GS->CI
 | .h0 v5=>⟨⟨84,0,true⟩,none,(Zq prog 47 (pn 35) 0),none,(Zy prog 47),⟨Zs [(0,(.str x0)),(5,(ii v5))],Xe [] 0,0,[],true⟩,[],.leaf⟩
 | .h1 v5 v6 v7 v8=>⟨⟨84,0,true⟩,none,(Zq prog 47 (pn 4863) 0),none,(Zy prog 47),⟨Zs [(0,(.str x0)),(5,(ii v5)),(6,(.str v6)),(7,(ii v7)),(8,(ii v8))],Xe [] 0,0,[],true⟩,[],.leaf⟩
def LA :List (Option zr):=[some [0,5]]
def LB :List (Option zr):=[]
def j3e :List (Option zr):=[some [0,5,6,7,8]]
def j3f :List (Option zr):=[]
def Kw (x0:zu):GS->Yr GS
 | .h0 v5=>let a:=Uy ((x0.drop 0).take v5.toNat);let b:=Cu ((x0.drop 0).take v5.toNat);(bif (decide (v5<(x0.length:Int))) then (bif (decide (0<=v5/\v5<(x0.length:Int))) then (bif ((Cl x0 v5.toNat) != 91) then (.to (.h0 (wrap .i64 (v5+1)))) else (bif (decide (v5.toNat<=x0.length)) then (bif (decide (0<=v5)) then (bif a then (bif (!b) then (.ret [(.str []),(.int .i64 0),(.bool false)]) else (bif (v5 == (x0.length:Int)) then (.ret [(.str x0),(.int .i64 (-1)),(.bool true)]) else (bif (decide (0<=(wrap .i64 ((x0.length:Int) - 1))/\(wrap .i64 ((x0.length:Int) - 1))<(x0.length:Int))) then (bif ((Cl x0 (Int.toNat (wrap .i64 ((x0.length:Int) - 1)))) != 93) then (.ret [(.str []),(.int .i64 0),(.bool false)]) else (bif (decide ((Int.toNat (wrap .i64 (v5+1)))<=(Int.toNat (wrap .i64 ((x0.length:Int) - 1))))) then (bif (decide ((Int.toNat (wrap .i64 ((x0.length:Int) - 1)))<=x0.length)) then (bif (decide (0<=(wrap .i64 (v5+1)))) then (bif (decide (0<=(wrap .i64 ((x0.length:Int) - 1)))) then (.to (.h1 v5 ((x0.drop (Int.toNat (wrap .i64 (v5+1)))).take ((Int.toNat (wrap .i64 ((x0.length:Int) - 1))) - (Int.toNat (wrap .i64 (v5+1))))) 0 0)) else .stuck) else .stuck) else .stuck) else .stuck)) else .stuck))) else .stuck) else .stuck) else .stuck)) else .stuck) else (bif (decide (v5.toNat<=x0.length)) then (bif (decide (0<=v5)) then (bif a then (bif (!b) then (.ret [(.str []),(.int .i64 0),(.bool false)]) else (bif (v5 == (x0.length:Int)) then (.ret [(.str x0),(.int .i64 (-1)),(.bool true)]) else (bif (decide (0<=(wrap .i64 ((x0.length:Int) - 1))/\(wrap .i64 ((x0.length:Int) - 1))<(x0.length:Int))) then (bif ((Cl x0 (Int.toNat (wrap .i64 ((x0.length:Int) - 1)))) != 93) then (.ret [(.str []),(.int .i64 0),(.bool false)]) else (bif (decide ((Int.toNat (wrap .i64 (v5+1)))<=(Int.toNat (wrap .i64 ((x0.length:Int) - 1))))) then (bif (decide ((Int.toNat (wrap .i64 ((x0.length:Int) - 1)))<=x0.length)) then (bif (decide (0<=(wrap .i64 (v5+1)))) then (bif (decide (0<=(wrap .i64 ((x0.length:Int) - 1)))) then (.to (.h1 v5 ((x0.drop (Int.toNat (wrap .i64 (v5+1)))).take ((Int.toNat (wrap .i64 ((x0.length:Int) - 1))) - (Int.toNat (wrap .i64 (v5+1))))) 0 0)) else .stuck) else .stuck) else .stuck) else .stuck)) else .stuck))) else .stuck) else .stuck) else .stuck))
 | .h1 v5 v6 v7 v8=>let a:=Cl v6 v8.toNat;(bif (decide (v8<(v6.length:Int))) then (bif (decide (0<=v8/\v8<(v6.length:Int))) then (bif (decide (a>=48)) then (bif (!(decide (a<=57))) then (.ret [(.str []),(.int .i64 0),(.bool false)]) else (bif (decide (v8>3)) then (.ret [(.str []),(.int .i64 0),(.bool false)]) else (.to (.h1 v5 v6 (wrap .i64 ((wrap .i64 (10*v7))+(wrap .i64 (wrap IntKind.u8 (a - 48))))) (wrap .i64 (v8+1)))))) else (.ret [(.str []),(.int .i64 0),(.bool false)])) else .stuck) else (bif ((v6.length:Int) == 0) then (.ret [(.str []),(.int .i64 0),(.bool false)]) else (bif (decide ((v6.length:Int)>1)) then (bif (decide ((0:Int)<=0/\0<(v6.length:Int))) then (bif ((Cl v6 0) == 48) then (.ret [(.str []),(.int .i64 0),(.bool false)]) else (bif (decide (v5.toNat<=x0.length)) then (bif (decide (0<=v5)) then (.ret [(.str ((x0.drop 0).take v5.toNat)),(.int .i64 v7),(.bool true)]) else .stuck) else .stuck)) else .stuck) else (bif (decide (v5.toNat<=x0.length)) then (bif (decide (0<=v5)) then (.ret [(.str ((x0.drop 0).take v5.toNat)),(.int .i64 v7),(.bool true)]) else .stuck) else .stuck))))
def x2i (x0:zu):Yr GS:=(.to (.h0 0))
theorem w8s (x0:zu): ∀s,Xx prog (Zy prog 47) (OI x0) (OI x0 s) (Kw x0 s)
 | .h0 v5=>let c:=decide ((tn v5)<=x0.length);let d:=decide (0<=(tn v5));let e:=tn (wr ((x0.length:Int) - 1));let f:=a7 [2,3,4];let g:=decide ((tn (wr (v5+1)))<=e);let h:=decide (e<=x0.length);(lb (fun k0=>(lo fun aL=>let b:=ww aL (tt k0 nn);(lb (fun k1=>(sl Ww 24 [] ⟨[],[],LA,LB⟩ a6 (CK 5 []) (tt k1 b))) (fun k1=>(lo fun bO=>(lo fun cI=>(lo fun cT=>let a:=tt k1 b;(lb (fun k2=>(lr 84 47 (pn 151) 1 47 [(2,(.str [])),(3,(ii 0)),(4,(.bool false))] (sl Ww 32 [] f a6 (CK 4 (bl 2 2)) (tt k2 (ww cT (pp (pp (xw cI) (pp nn (pp (xG c) (xG d)))) a)))))) (fun k2=>(lb (fun k3=>(lr 84 47 (pn 303) 1 47 [(2,(.str x0)),(3,(ii (-1))),(4,(.bool true))] (sl Ww 43 [] f a6 (CK 4 (bl 3 4)) (tt k3 (tt k2 (ww cT (pp (pp (xw cI) (pp nn (pp (xG c) (xG d)))) a))))))) (fun k3=>(lo fun bT=>(lb (fun k4=>(lr 84 47 (pn 607) 1 47 [(2,(.str [])),(3,(ii 0)),(4,(.bool false))] (sl Ww 54 [] f a6 (CK 4 (bl 4 8)) (tt k4 (ww bT (tt k3 (tt k2 (ww cT (pp (pp (xw cI) (pp nn (pp (xG c) (xG d)))) a))))))))) (fun k4=>(lo fun o0=>(lo fun o1=>(lo fun o2=>(lo fun o3=>(sl Ww 71 [] ⟨[],[],j3e,j3f⟩ a6 (CK 4 (bl 4 0)) (pp (pp (xw o3) (pp (xw o2) (pp (xG h) (xG g)))) (tt k4 (ww bT (tt k3 (tt k2 (ww cT (pp (pp (xw cI) (pp nn (pp (xG c) (xG d)))) a)))))))))))))))))))))))))) (fun k0=>(lo fun aL=>(lo fun aT=>(lo fun bR=>(lb (fun k1=>(lr 84 47 (pn 151) 1 47 [(2,(.str [])),(3,(ii 0)),(4,(.bool false))] (sl Ww 32 [] f a6 (bl 6 32) (tt k1 (ww bR (pp (pp (xw aT) (pp nn (pp (xG c) (xG d)))) (tt k0 nn))))))) (fun k1=>(lb (fun k2=>(lr 84 47 (pn 303) 1 47 [(2,(.str x0)),(3,(ii (-1))),(4,(.bool true))] (sl Ww 43 [] f a6 (bl 7 64) (tt k2 (tt k1 (ww bR (pp (pp (xw aT) (pp nn (pp (xG c) (xG d)))) (tt k0 nn)))))))) (fun k2=>(lo fun bS=>(lb (fun k3=>(lr 84 47 (pn 607) 1 47 [(2,(.str [])),(3,(ii 0)),(4,(.bool false))] (sl Ww 54 [] f a6 (bl 8 128) (tt k3 (ww bS (tt k2 (tt k1 (ww bR (pp (pp (xw aT) (pp nn (pp (xG c) (xG d)))) (tt k0 nn)))))))))) (fun k3=>(lo fun o0=>(lo fun o1=>(lo fun o2=>(lo fun o3=>(sl Ww 71 [] ⟨[],[],j3e,j3f⟩ a6 (bl 8 0) (pp (pp (xw o3) (pp (xw o2) (pp (xG h) (xG g)))) (tt k3 (ww bS (tt k2 (tt k1 (ww bR (pp (pp (xw aT) (pp nn (pp (xG c) (xG d)))) (tt k0 nn)))))))))))))))))))))))))
 | .h1 v5 v6 v7 v8=>let e:=a7 [2,3,4];(lb (fun k0=>(lo fun aL=>let a:=ww aL (tt k0 nn);let h:=pn 594687;(lb (fun k1=>(lb (fun k2=>(lr 84 47 h 1 47 [(2,(.str [])),(3,(ii 0)),(4,(.bool false))] (sl Ww 47 [] e a6 (CK 6 []) (tt k2 (tt k1 a))))) (fun k2=>let c:=tt k2 (tt k1 a);(lb (fun k3=>(lr 84 47 h 1 47 [(2,(.str [])),(3,(ii 0)),(4,(.bool false))] (sl Ww 47 [] e a6 (CK 3 (bl 3 4)) (tt k3 c)))) (fun k3=>(sl Ww 60 [] ⟨[],[],j3e,j3f⟩ a6 (CK 3 (bl 3 0)) (ww aL (tt k3 c)))))))) (fun k1=>(lr 84 47 h 1 47 [(2,(.str [])),(3,(ii 0)),(4,(.bool false))] (sl Ww 47 [] e a6 (bl 6 57) (tt k1 a))))))) (fun k0=>(lb (fun k1=>(lr 84 47 (pn 9727) 1 47 [(2,(.str [])),(3,(ii 0)),(4,(.bool false))] (sl Ww 34 [] e a6 (bl 7 126) (tt k1 (tt k0 nn))))) (fun k1=>let b:=tt k1 (tt k0 nn);let f:=decide ((tn v5)<=x0.length);let g:=decide (0<=(tn v5));(lb (fun k2=>(lo fun bS=>let d:=ww bS (tt k2 b);(lb (fun k3=>(lr 84 47 (pn 9727) 1 47 [(2,(.str [])),(3,(ii 0)),(4,(.bool false))] (sl Ww 34 [] e a6 (bl 10 736) (tt k3 d)))) (fun k3=>(lo fun o0=>(lo fun o1=>(lr 84 3 (pn 767) 1 47 [(2,(.str ((x0.drop 0).take (tn v5)))),(3,(ii v7)),(4,(.bool true))] (sl Ww 39 [] e a6 (bl 10 224) (pp (pp (xw o1) (pp nn (pp (xG f) (xG g)))) (tt k3 d)))))))))) (fun k2=>(lo fun o0=>(lo fun o1=>(lr 84 3 (pn 767) 1 47 [(2,(.str ((x0.drop 0).take (tn v5)))),(3,(ii v7)),(4,(.bool true))] (sl Ww 39 [] e a6 (bl 10 0) (pp (pp (xw o1) (pp nn (pp (xG f) (xG g)))) (tt k2 b))))))))))))
theorem x9d (x0:zu):Xx prog (Zy prog 47) (OI x0) (Zp prog 47 [(.str x0)] true []) (x2i x0):=(sl Ww 13 [] ⟨[],[],LA,LB⟩ a6 [] nn)
theorem u0v (x0:zu) (n:Nat) (vs:zy) (h:Yx (Kw x0) n (x2i x0)=.ret vs):Vi prog (Zy prog 47) (Zp prog 47 [(.str x0)] true []) vs:=by have:=Zg (w8s x0) n _ (x9d x0);rwa [h] at this
theorem wu8 (n:Int) (h:0<=n/\n<256):wrap .u8 n=n:=by unfold wrap;simp [IntKind.signed,IntKind.bits];omega
theorem wi32 (n:Int) (h:0<=n/\n<256):wrap .i32 n=n:=by unfold wrap;simp [IntKind.signed,IntKind.bits];omega
theorem j1o {cs cs':zy} (h:DE cs cs') (ρ:CE) (u:Value) (hv:Yv ρ (.tup cs) u):Yv ρ (.tup cs') u:=by
 cases hv with
 | tup _ vs hl hh=>exact .tup cs' vs (by rw [<-h.len];exact hl) fun i h1 h2=>h.sound i (by rw [h.len];exact h1) h1 (hh i (by rw [h.len];exact h1) h2)
def GM (d:zu):Bool:=d.all fun c=>digN c.toNat
def Ef (d:zu):Bool:=decide (1<=d.length)&&(decide (d.length<=4)&& !(decide (1<d.length)&&(Cl d 0 == 48)))
def JR (d:zu):Bool:=Ef d&&GM d
def Ca (s:zu):zu:=Jt (Wi s [91]) [93]
def Vd (s:zu):Bool:=Cu (Wy s [91])&&(bif Jo s [91] then G8 (Wi s [91]) [93]&&JR (Ca s) else true)
def IW (n:Nat) (d:zu):Nat:=d.foldl (fun n c=>10*n+(c.toNat - 48)) n
def Gf (s:zu):zu:=bif Cu (Wy s [91])&&Jo s [91] then (bif Vd s then Wy s [91] else []) else Wy s [91]
def Ge (s:zu):Int:=bif Cu (Wy s [91])&&Jo s [91] then (bif Vd s then (IW 0 (Ca s):Int) else 0) else -1
def Y4 (s:zu):Bool:=decide (s.length<=1000000)
theorem v6l {s sep:zu}:(Wy s sep).length <=s.length/\(Wi s sep).length <=s.length:=by
 unfold Wy Wi;cases decide (0<=Cf s sep) with
 | true=>rw [Ab,Ab,Bl,Bv];omega
 | false=>exact ⟨Ar _,Ay _⟩
theorem j9x {s f:zu}:(Jt s f).length <=s.length:=by
 unfold Jt;cases G8 s f with
 | true=>rw [Ab,Bl];omega
 | false=>exact Ar _
theorem u9x {s:zu} (hs:(Ca s).length <=4): ∀(k i n:Nat),i+k=(Ca s).length ->n<10 ^ i->
  ∃N,Yx (Mr s) N (.to (.h0 (n:Int) i))=.ret (bif GM ((Ca s).drop i) then [.agg [.str (Wy s [91]),.int .i64 (IW n ((Ca s).drop i):Int)],.bool true] else [.agg [.str [],.int .i64 0],.bool false])
 | 0,i,n,h,hn=>⟨1,by
  rw [Zx,Av (by omega)];unfold Mr;simp only [];rw [show decide (i<(Jt (Wi s [91]) [93]).length)=false from An (show ¬i<(Ca s).length by omega)];rfl⟩
 | k +1,i,n,h,hn=>by
  have hi:i<(Ca s).length :=by omega
  have hp:10 ^ i<=10 ^ 4:=Nat.pow_le_pow_right (by decide) (by omega);rw [AT hi];have e:Mr s (.h0 (n:Int) i)=bif digN (Ca s)[i].toNat then .to (.h0 ((10*n+((Ca s)[i].toNat - 48):Nat):Int) (i+1)) else .ret [.agg [.str [],.int .i64 0],.bool false]:=by
   unfold Mr;simp only [];rw [show decide (i<(Jt (Wi s [91]) [93]).length)=true from Af hi,Ab];show (bif decide (EA (Ca s) i<48) then _ else bif decide (EA (Ca s) i>57) then _ else Yr.to (F1.h0 (wrap .i64 (wrap .i64 (10*(n:Int))+wrap .i64 (wrap .i32 (EA (Ca s) i - 48)))) (i+Fy (Ca s) i)))=_;unfold digN;by_cases ha:(Ca s)[i].toNat <128
   .obtain ⟨e1,e2⟩:=w7b hi ha;rw [e1,e2];generalize (Ca s)[i].toNat =c at ha;by_cases h1:48<=c
    .rw [Ym (by omega),Af h1];by_cases h2:c<=57
     .rw [Xg (by omega),Af h2,wi32 _ (by omega),Zk (n:=10*(n:Int)) (by omega),Zk (n:=(c:Int) - 48) (by omega),Zk (by omega)];show Yr.to _=Yr.to _
      congr 2
      omega
     .rw [Ys (by omega),An h2];rfl
    .rw [Zt (by omega),An h1];rfl
   .have hb:=j0s hi ha;rw [Ym (by omega),Ys (by omega),An (show ¬(Ca s)[i].toNat <=57 by omega),A2];rfl
  show∃N,Yx _ N _=.ret (bif digN (Ca s)[i].toNat &&GM ((Ca s).drop (i+1)) then _ else _);cases g:digN (Ca s)[i].toNat with
  | false=>exact ⟨1,by rw [Zx,e,g,Aa,Zd];rfl⟩
  | true=>
   have g':(48<=(Ca s)[i].toNat /\(Ca s)[i].toNat <=57):=by unfold digN at g;rwa [Ac,Ao,Ao] at g
   obtain ⟨N,hN⟩:=u9x hs k (i+1) (10*n+((Ca s)[i].toNat - 48)) (by omega) (by rw [Nat.pow_succ];omega);refine ⟨N+1,?_⟩;rw [Zx,e,g,Ab,hN];rfl
theorem j5r (s:zu) (h:Y4 s=true): ∃N,Yx (Mr s) N (XT s)=.ret [.agg [.str (Gf s),.int .i64 (Ge s)],.bool (Vd s)]:=by
 have hs:s.length<=1000000:=Ax h;obtain ⟨k0,k1⟩:=v6l (s:=s) (sep:=[91]);unfold XT;rw [Zi (show Kf s [91]=true by unfold Kf;rw [Af hs];rfl),Zi (show Uy (Wy s [91])=true from Af (by omega))];have hv: ∀{a b c},Gf s=a->Ge s=b->Vd s=c->[B9.agg [.str (Gf s),.int .i64 (Ge s)],.bool (Vd s)]=[.agg [.str a,.int .i64 b],.bool c]:=fun h1 h2 h3=>by rw [h1,h2,h3]
 cases hn:Cu (Wy s [91]) with
 | false=>
  have e1:Vd s=false:=by unfold Vd;rw [hn];rfl
  rw [hv (a:=Wy s [91]) (b:= -1) (c:=false) (by unfold Gf;rw [hn];rfl) (by unfold Ge;rw [hn];rfl) e1];exact ⟨0,by cases Jo s [91] <;> rfl⟩
 | true=>
  cases h2:Jo s [91] with
  | false=>
   have e1:Vd s=true:=by unfold Vd;rw [hn,h2];rfl
   rw [hv (a:=Wy s [91]) (b:= -1) (c:=true) (by unfold Gf;rw [hn,h2];rfl) (by unfold Ge;rw [hn,h2];rfl) e1];exact ⟨0,rfl⟩
  | true=>
   have e1:Vd s=(G8 (Wi s [91]) [93]&&JR (Ca s)):=by unfold Vd;rw [hn,h2];rfl
   have es:Gf s=bif Vd s then Wy s [91] else []:=by unfold Gf;rw [hn,h2];rfl
   have en:Ge s=bif Vd s then (IW 0 (Ca s):Int) else 0:=by unfold Ge;rw [hn,h2];rfl
   have hf:Vd s=false->[B9.agg [.str (Gf s),.int .i64 (Ge s)],.bool (Vd s)]=[.agg [.str [],.int .i64 0],.bool false]:=fun q=>by rw [es,en,q];rfl
   have hd:(Ca s).length <=s.length:=AG j9x k1;have hD:Jt (Wi s [91]) [93]=Ca s:=rfl;rw [Aw,Aa,Aa,Zi (show RU (Wi s [91]) [93]=true by unfold RU;rw [Af (show (Wi s [91]).length <=1000000 by omega)];rfl),hD];cases hc:G8 (Wi s [91]) [93] with
   | false=>rw [hf (by rw [e1,hc];rfl)];exact ⟨0,rfl⟩
   | true=>
    rw [hc,Ak] at e1;rw [Aw,Aa];by_cases g0:1<=(Ca s).length
    .rw [TW (by omega),Aa];by_cases g4:(Ca s).length <=4
     .rw [Xg (by omega),Aa,Zi (Zr (by omega))];obtain ⟨N,hN⟩:=u9x g4 (Ca s).length 0 0 (Ah _) (by decide);rw [AO] at hN;have fin:Ef (Ca s)=true->[B9.agg [.str (Gf s),.int .i64 (Ge s)],.bool (Vd s)]=(bif GM (Ca s) then [.agg [.str (Wy s [91]),.int .i64 (IW 0 (Ca s):Int)],.bool true] else [.agg [.str [],.int .i64 0],.bool false]):=fun q=>by
       have e2:Vd s=GM (Ca s):=by rw [e1];unfold JR;rw [q,Ak]
       rw [es,en,e2];cases GM (Ca s) <;> rfl
      by_cases g1:1<(Ca s).length
      .cases g48:Cl (Ca s) 0 == 48 with
       | true=>rw [Ab,Ys (by omega),Ab,hf (by rw [e1];unfold JR Ef;rw [Af g1,g48,Bool.and_self,Aw,A2,A2,AW])];exact ⟨0,rfl⟩
       | false=>rw [Aa,fin (by unfold Ef;rw [Af g0,Af g4,g48,A2];rfl)];exact ⟨N,hN⟩
      .rw [Xg (by omega),Aa,fin (by unfold Ef;rw [Af g0,Af g4,An g1];rfl)];refine ⟨N,?_⟩;rw [show∀(b:Bool) (x:Yr F1),(bif b then x else x)=x from fun b x=>by cases b <;> rfl];exact hN
     .rw [Ys (by omega),Ab,hf (by rw [e1];unfold JR Ef;rw [An g4];cases decide (1<=(Ca s).length) <;> rfl)];exact ⟨0,rfl⟩
    .rw [TX (by omega),Ab,hf (by rw [e1];unfold JR Ef;rw [An g0];rfl)];exact ⟨0,rfl⟩
def QG :zy->Option (B9×Bool)
 | [.str s]=>some (.tup [.agg [.str (Gf s),.int .i64 (Ge s)],.bool (Vd s)],Y4 s)
 | _=>none
theorem j8s {S:CB} (hS:Zw prog S):Zw prog (S.with VL QG):=Kv hS (by kernel_rfl) fun args v h=>by
 unfold QG at h;split at h
 .rename_i s;simp only [Ad,Ae] at h;obtain ⟨rfl,ho⟩:=h;obtain ⟨N,hN⟩:=j5r s ho;exact ⟨_,_,.cons (.refl _) .nil,rfl,u3s s N _ hN,5,rfl⟩
 .cases h
def CV (b:UInt8):zu->Nat
 | []=>0
 | c::r=>bif c == b then 0 else CV b r+1
theorem v6q (b:UInt8): ∀s,CV b s<=s.length
 | []=>Ar _
 | c::r=>by
  have:=v6q b r;unfold CV;rw [AZ];cases c == b with
  | true=>exact Ay _
  | false=>rw [Aa];omega
theorem j0f (b:UInt8): ∀s,(h:CV b s<s.length)->s[CV b s]=b
 | [],h=>by cases h
 | c::r,h=>by
  cases g:c == b with
  | true=>
   have e:CV b (c::r)=0:=by unfold CV;rw [g];rfl
   simp only [e,List.getElem_cons_zero];exact Bi.1 g
  | false=>
   have e:CV b (c::r)=CV b r+1:=by rw [CV,g];rfl
   rw [e,AZ] at h;simp only [e,List.getElem_cons_succ];exact j0f b r (by omega)
theorem w2h (b:UInt8): ∀s,Lib.indexByte s b=bif decide (CV b s<s.length) then (CV b s:Int) else -1
 | []=>rfl
 | c::r=>by
  unfold Lib.indexByte CV;rw [w2h b r,AZ];cases g:c == b with
  | true=>rw [Ab,Af (Nat.succ_pos _)];rfl
  | false=>
   rw [Aa];by_cases h:CV b r<r.length
   .rw [Af h,Af (Nat.succ_lt_succ h),Ab,Ab,AC (by simp),AC (by simp)];rfl
   .rw [An h,An (show ¬CV b r+1<r.length+1 by omega)];rfl
def GT (s:zu):Bool:=Cu (s.take (CV 91 s))&&(decide (CV 91 s=s.length)||(Cl s (s.length - 1) == 93&&JR ((s.drop (CV 91 s+1)).take (s.length - 1 - (CV 91 s+1)))))
theorem j3d (s:zu):GT s=Vd s:=by
 have hix:Cf s [91]=bif decide (CV 91 s<s.length) then (CV 91 s:Int) else -1:=w2h 91 s;have hle:=v6q 91 s;unfold GT Vd;by_cases h:CV 91 s<s.length
 .rw [Af h,Ab] at hix;have e2:Jo s [91]=true:=by unfold Jo;rw [hix];exact Af (by omega)
  have e0:Wy s [91]=s.take (CV 91 s):=by unfold Wy;rw [hix,Af (show (0:Int)<=(CV 91 s:Int) by omega),Zj];rfl
  have e1:Wi s [91]=s.drop (CV 91 s+1):=by unfold Wi;rw [hix,Af (show (0:Int)<=(CV 91 s:Int) by omega),Zj];rfl
  rw [An (show ¬CV 91 s=s.length by omega),Bc,e0,e2,Ab]
  congr 1
  unfold Ca Jt G8;rw [e1];have hl:(s.drop (CV 91 s+1)).length =s.length - (CV 91 s+1):=Bv;rw [NY (show s.length - 1<s.length by omega)];by_cases g:CV 91 s+1<s.length
  .rw [Af (show [(93:UInt8)].length <=(s.drop (CV 91 s+1)).length by rw [hl];show 1<=_;omega),Ak];have ed:(s.drop (CV 91 s+1)).drop ((s.drop (CV 91 s+1)).length - [(93:UInt8)].length)=[s[s.length - 1]'(by omega)]:=by rw [List.drop_drop,hl];show s.drop (CV 91 s+1+(s.length - (CV 91 s+1) - 1))=_;rw [show CV 91 s+1+(s.length - (CV 91 s+1) - 1)=s.length - 1 by omega,AT (show s.length - 1<s.length by omega),Av (by omega)]
   rw [ed];have eb:([s[s.length - 1]'(by omega)] == [(93:UInt8)])=((((s[s.length - 1]'(by omega)).toNat :Nat):Int) == 93):=by
    rw [AU,Bi,Bi];constructor
    .intro q;rw [Bq] at q;rw [q.1];rfl
    .intro q;have:(s[s.length - 1]'(by omega))=93:=by apply UInt8.toNat_inj.1;show _=93;omega
     rw [this]
   rw [eb];cases ((((s[s.length - 1]'(by omega)).toNat :Nat):Int) == 93) with
   | false=>rfl
   | true=>
    rw [Ak,Ak,Ab,hl]
    congr 2
    show _=s.length - (CV 91 s+1) - 1;omega
  .have e:s.length - 1=CV 91 s:=by omega
   have hq:(s[s.length - 1]'(by omega))=91:=by simp only [e];exact j0f 91 s h
   rw [hq,An (show ¬ [(93:UInt8)].length <=(s.drop (CV 91 s+1)).length by rw [hl];show ¬1<=_;omega)];rfl
 .have hn:CV 91 s=s.length:=by omega
  rw [An h,Aa] at hix;have e2:Jo s [91]=false:=by unfold Jo;rw [hix];rfl
  have e0:Wy s [91]=s:=by unfold Wy;rw [hix];rfl
  rw [e2,e0,hn,Af rfl,B6];rfl
theorem u7o {s d:zu} {p:Nat} (hp:p<=s.length) (hd:d.length<=1000000): ∀(k i n:Nat),i+k=d.length->i<=4->n<10 ^ i->
  ∃N a b,Yx (Kw s) N (.to (.h1 (p:Int) d (n:Int) (i:Int)))=.ret [.str a,.int .i64 b,.bool (Ef d&&GM (d.drop i))]
 | 0,i,n,h,h4,hn=>by
  have hs: ∀a b,∃N a' b',Yx (Kw s) N (.ret [.str a,.int .i64 b,.bool (Ef d&&GM (d.drop i))])=.ret [.str a',.int .i64 b',.bool (Ef d&&GM (d.drop i))]:=fun a b=>⟨0,a,b,rfl⟩
  rw [Av (by omega)] at hs ⊢;have key: ∃a b,Kw s (.h1 (p:Int) d (n:Int) (i:Int))=.ret [.str a,.int .i64 b,.bool (Ef d&&GM [])]:=by
   unfold Kw Ef;simp only [Zj];rw [Ym (by omega),Aa,Af (show d.length<=4 by omega),Ak,Zi (Af (show (p:Nat)<=s.length from hp)),Zi (Af (show (0:Int)<=(p:Int) by omega))];by_cases g0:1<=d.length
   .rw [TW (by omega),Aa,Af g0,Ak];by_cases g1:1<d.length
    .rw [Ys (by omega),Ab,Zi (Zr (by omega)),Af g1,Ak];cases Cl d 0 == 48 with
     | true=>exact ⟨_,_,rfl⟩
     | false=>exact ⟨_,_,rfl⟩
    .rw [Xg (by omega),Aa,An g1];exact ⟨_,_,rfl⟩
   .rw [TX (by omega),Ab,An g0];exact ⟨_,_,rfl⟩
  obtain ⟨a,b,e⟩:=key;exact ⟨1,a,b,by rw [Zx,e];rfl⟩
 | k +1,i,n,h,h4,hn=>by
  have hi:i<d.length:=by omega
  have hc:=v3c d[i];have hpw:10 ^ i<=10 ^ 4:=Nat.pow_le_pow_right (by decide) (by omega);have w2:wrap .i64 ((i:Int)+1)=((i+1:Nat):Int):=Zk (by omega);rw [AT hi];have e:Kw s (.h1 (p:Int) d (n:Int) (i:Int))=bif digN d[i].toNat &&decide (i<=3) then .to (.h1 (p:Int) d ((10*n+(d[i].toNat - 48):Nat):Int) ((i+1:Nat):Int)) else .ret [.str [],.int .i64 0,.bool false]:=by
   unfold Kw digN;simp only [Zj,w2,NY hi];rw [Zt (by omega),Ab,Zi (Zr (by omega))];generalize d[i].toNat =c at hc;by_cases h1:48<=c
   .rw [ET (by omega),Af h1,Ab];by_cases h2:c<=57
    .rw [Xs (by omega),Af h2,Aw,Aa];by_cases h3:i<=3
     .rw [Xg (by omega),Af h3,Aa,wu8 _ (by omega),Zk (n:=10*(n:Int)) (by omega),Zk (n:=(c:Int) - 48) (by omega),Zk (by omega)];show Yr.to _=Yr.to _
      congr 2
      omega
     .rw [Ys (by omega),An h3];rfl
    .rw [EU (by omega),An h2];rfl
   .rw [El (by omega),An h1];rfl
  show∃N a b,Yx _ N _=.ret [_,_,.bool (Ef d&&(digN d[i].toNat &&GM (d.drop (i+1))))];cases g:digN d[i].toNat with
  | false=>exact ⟨1,[],0,by rw [Zx,e,g,AW,Aa,Zd,AW,A2]⟩
  | true=>
   by_cases h3:i<=3
   .have g':(48<=d[i].toNat /\d[i].toNat <=57):=by unfold digN at g;rwa [Ac,Ao,Ao] at g
    obtain ⟨N,a,b,hN⟩:=u7o hp hd k (i+1) (10*n+(d[i].toNat - 48)) (by omega) (by omega) (by rw [Nat.pow_succ];omega);exact ⟨N+1,a,b,by rw [Zx,e,g,Af h3,Bool.and_self,Ab,hN,Ak]⟩
   .have e4:Ef d=false:=by unfold Ef;rw [An (show ¬d.length<=4 by omega),AW,A2]
    exact ⟨1,[],0,by rw [Zx,e,g,An h3,A2,Aa,Zd,e4,AW]⟩
theorem w5c {s:zu} {p:Nat} (hp:p<=s.length) (hs:s.length<=1000000) {E:Yr GS}
  (hE:E=(bif decide (p<=s.length) then (bif decide (0<=(p:Int)) then (bif Uy ((s.drop 0).take p) then (bif !(Cu ((s.drop 0).take p)) then (.ret [.str [],.int .i64 0,.bool false]) else (bif ((p:Int) == (s.length:Int)) then (.ret [.str s,.int .i64 (-1),.bool true]) else (bif decide (0<=wrap .i64 ((s.length:Int) - 1)/\wrap .i64 ((s.length:Int) - 1)<(s.length:Int)) then (bif (Cl s (Int.toNat (wrap .i64 ((s.length:Int) - 1)))) != 93 then (.ret [.str [],.int .i64 0,.bool false]) else (bif decide (Int.toNat (wrap .i64 ((p:Int)+1))<=Int.toNat (wrap .i64 ((s.length:Int) - 1))) then (bif decide (Int.toNat (wrap .i64 ((s.length:Int) - 1))<=s.length) then (bif decide (0<=wrap .i64 ((p:Int)+1)) then (bif decide (0<=wrap .i64 ((s.length:Int) - 1)) then (.to (.h1 (p:Int) ((s.drop (Int.toNat (wrap .i64 ((p:Int)+1)))).take (Int.toNat (wrap .i64 ((s.length:Int) - 1)) - Int.toNat (wrap .i64 ((p:Int)+1)))) 0 0)) else .stuck) else .stuck) else .stuck) else .stuck)) else .stuck))) else .stuck) else .stuck) else .stuck))
  (hq:p<s.length->s[p]? =some 91):
  ∃N a b,Yx (Kw s) N E=.ret [.str a,.int .i64 b,.bool (Cu (s.take p)&&(decide (p=s.length)||(Cl s (s.length - 1) == 93&&JR ((s.drop (p+1)).take (s.length - 1 - (p+1))))))]:=by
 subst hE;have hpl:(s.take p).length <=1000000:=by rw [Bl];omega
 rw [Zi (Af hp),Zi (Af (show (0:Int)<=(p:Int) by omega)),AO,Zi (show Uy (s.take p)=true from Af hpl)];cases hn:Cu (s.take p) with
 | false=>exact ⟨0,[],0,rfl⟩
 | true=>
  rw [Aw,Aa,Ak];by_cases g:p=s.length
  .rw [TX (by omega),Ab,Af g];exact ⟨0,_,_,rfl⟩
  .have wl:wrap .i64 ((s.length:Int) - 1)=((s.length - 1:Nat):Int):=by rw [Zk (by omega)];omega
   have wp:wrap .i64 ((p:Int)+1)=((p+1:Nat):Int):=Zk (by omega);rw [TW (by omega),Aa,An g,Bc,wl,wp,Zj,Zj,Zi (Zr (by omega))];cases hb:Cl s (s.length - 1) == 93 with
   | false=>rw [show (Cl s (s.length - 1) != 93)=true by unfold bne;rw [hb];rfl,Ab,AW];exact ⟨0,[],0,rfl⟩
   | true=>
    have hne:p+1<=s.length - 1:=by
     rcases A7 (p+1) s.length with h | h
     .omega
     .exfalso;have hp1:p=s.length - 1:=(by omega);have h1:=hq (by omega);rw [hp1,At (by omega)] at h1;have h2:=Ag h1;rw [NY (show s.length - 1<s.length by omega),h2] at hb;revert hb;decide
    rw [show (Cl s (s.length - 1) != 93)=false by unfold bne;rw [hb];rfl,Aa,Ak,Zi (Af hne),Zi (Af (show s.length - 1<=s.length by omega)),Zi (Af (show (0:Int)<=((p+1:Nat):Int) by omega)),Zi (Af (show (0:Int)<=((s.length - 1:Nat):Int) by omega))];obtain ⟨N,a,b,hN⟩:=u7o (s:=s) (d:=(s.drop (p+1)).take (s.length - 1 - (p+1))) hp (by rw [Bl,Bv];omega) ((s.drop (p+1)).take (s.length - 1 - (p+1))).length 0 0 (Ah _) (by omega) (by decide);exact ⟨N,a,b,hN⟩
theorem u7p {s:zu} (hs:s.length<=1000000): ∀(k i:Nat),i+k=s.length->i+CV 91 (s.drop i)=CV 91 s->
  ∃N a b,Yx (Kw s) N (.to (.h0 (i:Int)))=.ret [.str a,.int .i64 b,.bool (GT s)]
 | 0,i,h,hx=>by have hd:s.drop i=[]:=Av (by omega);rw [hd] at hx;have hx:i=CV 91 s:=hx;obtain ⟨N,a,b,hN⟩:=w5c (s:=s) (p:=i) (by omega) hs rfl (fun hh=>absurd hh (by omega));refine ⟨N+1,a,b,?_⟩;rw [Zx];unfold Kw;simp only [Zj];rw [Ym (by omega),Aa];unfold GT;rw [<-hx];exact hN
 | k+1,i,h,hx=>by
  have hi:i<s.length:=by omega
  have hc:=v3c s[i];have w2:wrap .i64 ((i:Int)+1)=((i+1:Nat):Int):=Zk (by omega);rw [AT hi,CV] at hx;have hbb:((((s[i].toNat :Nat):Int)) != 91)= !(s[i] == 91):=by
   rw [show ((((s[i].toNat :Nat):Int)) != 91)= !((((s[i].toNat :Nat):Int)) == 91) from rfl]
   congr 1
   rw [AU,Bi,Bi];constructor
   .intro h;apply UInt8.toNat_inj.1;show s[i].toNat =91;omega
   .intro h;rw [h];rfl
  cases g:s[i] == 91 with
  | false=>
   rw [g,Aa] at hx;obtain ⟨N,a,b,hN⟩:=u7p hs k (i+1) (by omega) (by omega);refine ⟨N+1,a,b,?_⟩;have e:Kw s (.h0 (i:Int))=.to (.h0 ((i+1:Nat):Int)):=by unfold Kw;simp only [Zj,NY hi,w2];rw [Zt (by omega),Ab,Zi (Zr (by omega)),hbb,g];rfl
   rw [Zx,e,hN]
  | true=>rw [g,Ab] at hx;have hx:i=CV 91 s:=hx;obtain ⟨N,a,b,hN⟩:=w5c (s:=s) (p:=i) (by omega) hs rfl (fun _=>by rw [At hi,Bi.1 g]);refine ⟨N+1,a,b,?_⟩;rw [Zx];unfold Kw;simp only [Zj];rw [Zt (by omega),Ab,Zi (Zr (by omega)),NY hi,hbb,g,Aw,Aa];unfold GT;rw [<-hx];exact hN
def WV (s:zu):Bool:=decide (s.length<=1000000)
def Rv (s:zu):Bool:=Vd s
theorem j3c (s:zu) (h:WV s=true): ∃N a b,Yx (Kw s) N (x2i s)=.ret [.str a,.int .i64 b,.bool (Rv s)]:=by unfold Rv;rw [<-j3d];exact u7p (Ax h) s.length 0 (Ah _) (Ah _)
def Pt :zy->Option (B9×Bool)
 | [.str s]=>some (.tup [.undef,.undef,.bool (Rv s)],WV s)
 | _=>none
theorem j7o {S:CB} (hS:Zw prog S):Zw prog (S.with UP Pt):=M3 hS (by kernel_rfl) fun args v h=>by
 unfold Pt at h;split at h
 .rename_i s;simp only [Ad,Ae] at h;obtain ⟨rfl,ho⟩:=h;obtain ⟨N,a,b,hN⟩:=j3c s ho;exact ⟨_,[.str a,.int .i64 b,.bool (Rv s)],.cons (.refl _) .nil,fun ρ u hu=>j1o (cs:=[.str a,.int .i64 b,.bool (Rv s)]) (.cons (.undef _) (.cons (.undef _) (DE.refl _))) ρ u hu,u0v s N _ hN,3,rfl⟩
 .cases h
def WL :CB:=(WM.with VL QG).with UP Pt
theorem Qf :Zw prog WL:=j7o (j8s Ww)
inductive I3 where
 | h0 (v3:zu) (v4:Bool)
def PF (x0:zu):I3->CI
 | .h0 v3 v4=>⟨⟨20,0,true⟩,none,(Zq prog 75 [1,0,0] 0),none,[],⟨Zs [(0,(.yld 0)),(3,(.str v3)),(4,(.bool v4))],Cj [(1,⟨[(ii 0)],24,none⟩)],2,[],true⟩,[⟨⟨24,0,true⟩,none,(.inRangeFunc 0::(Zq prog 25 (pn 43) 1)),none,(Zy prog 25),Zs [(2,(.ptr 1 0))]⟩],(Co [(0,⟨.ready,none,24,Zs [(2,(.ptr 1 0))],[16],(Wx prog 25 [1,1,0,1,0,0]),(Wx prog 25 [1,1,0,1,0,1])⟩)])⟩
def MM :List (Option zr):=[some [0,3,4],some [2]]
def MN :List (Option zr):=[some [2],none]
def Mq (x0:zu):I3->Yr I3
 | .h0 v3 v4=>(bif v4 then (bif (Kf v3 ([47]:zu)) then (bif (Y4 (Wy v3 ([47]:zu))) then (bif (!(Vd (Wy v3 ([47]:zu)))) then (.ret [(.int .i64 12)]) else (.to (.h0 (Wi v3 ([47]:zu)) (Jo v3 ([47]:zu))))) else .stuck) else .stuck) else (.ret [(.int .i64 0)]))
def XS (x0:zu):Yr I3:=(bif (decide ((x0.length:Int)>4000)) then (.ret [(.int .i64 4)]) else (bif (y8b x0 ([47]:zu)) then (bif (decide ((Q4 x0 ([47]:zu))>39)) then (.ret [(.int .i64 4)]) else (.to (.h0 x0 (!(x0 == ([]:zu)))))) else .stuck))
theorem v0v (x0:zu): ∀s,Xx prog (Zy prog 25) (PF x0) (PF x0 s) (Mq x0 s)
 | .h0 v3 v4=>let b:=Zy prog 25;(lb (fun k0=>(lo fun aL=>(lo fun aT=>let a:=ww aT (ww aL (tt k0 nn));(lb (fun k1=>(Yu ⟨⟨24,0,true⟩,none,(.code .ret ::(Zq prog 25 (pn 43) 1)),none,b,⟨Zs [(2,(.ptr 0 0))],Xe [⟨[(ii 12)],24,none⟩] 0,1,[],true⟩,[],.leaf⟩ (sl Qf 61 [] ⟨[1],[],[some [2]],[]⟩ a6 (CK 3 []) (tt k1 a)) rfl (by kernel_rfl))) (fun k1=>(sl Qf 60 [] ⟨[0,1],[],MM,MN⟩ a6 (bl 3 1) (tt k1 a))))))) (fun k0=>(Yu ⟨⟨24,0,true⟩,none,(Zq prog 3 (pn 767) 1),none,b,⟨Zs [(2,(.ptr 0 0))],Xe [⟨[(ii 0)],24,none⟩] 0,1,[],true⟩,[],.leaf⟩ (sl Qf 14 [] ⟨[1],[],[some [2]],[]⟩ a6 [false] (tt k0 nn)) rfl (by kernel_rfl))))
theorem w1y (x0:zu):Xx prog (Zy prog 25) (PF x0) (Zp prog 25 [(.str x0)] true []) (XS x0):=let a:=Zq prog 25 (pn 37) 1;let c:=Zy prog 25;(lb (fun k0=>(Yu ⟨⟨24,0,true⟩,none,a,none,c,⟨Zs [(2,(.ptr 0 0))],Xe [⟨[(ii 4)],24,none⟩] 0,1,[],true⟩,[],.leaf⟩ (sl Qf 21 [] ⟨[0],[],[some [2]],[]⟩ a6 (CK 4 []) (tt k0 nn)) rfl (by kernel_rfl))) (fun k0=>(lo fun aL=>let b:=ww aL (tt k0 nn);(lb (fun k1=>(Yu ⟨⟨24,0,true⟩,none,a,none,c,⟨Zs [(2,(.ptr 0 0))],Xe [⟨[(ii 4)],24,none⟩] 0,1,[],true⟩,[],.leaf⟩ (sl Qf 21 [] ⟨[0],[],[some [2]],[]⟩ a6 (bl 4 8) (tt k1 b)) rfl (by kernel_rfl))) (fun k1=>(sl Qf 41 [] ⟨[2,0],[],MM,MN⟩ a6 (bl 4 0) (tt k1 b)))))))
theorem u3w (x0:zu) (n:Nat) (vs:zy) (h:Yx (Mq x0) n (XS x0)=.ret vs):Vi prog (Zy prog 25) (Zp prog 25 [(.str x0)] true []) vs:=by have:=Zg (v0v x0) n _ (w1y x0);rwa [h] at this
inductive Hx where
 | h0 (v4:Int)
def O0 (x0:zu):Hx->CI
 | .h0 v4=>⟨⟨33,0,true⟩,none,(Zq prog 26 (pn 303) 0),none,(Zy prog 5),⟨Zs [(3,(.dat (DJ x0).length (Zz (DJ x0)))),(4,(ii v4))],Xe [] 0,0,[],true⟩,[],.leaf⟩
def L5 :List (Option zr):=[some [3,4]]
def L6 :List (Option zr):=[]
def My (x0:zu):Hx->Yr Hx
 | .h0 v4=>let a:=rd (DJ x0) v4.toNat;(bif (decide (v4<(((DJ x0).length :Nat):Int))) then (bif ((decide (0<=v4/\v4<(((DJ x0).length :Nat):Int)))&&true) then (bif (WV a) then (bif (!(Rv a)) then (.ret [(.int .i64 12)]) else (.to (.h0 (wrap .i64 (v4+1))))) else .stuck) else .stuck) else (.ret [(.int .i64 0)]))
def Xl (x0:zu):Yr Hx:=(bif (decide ((x0.length:Int)>4000)) then (.ret [(.int .i64 4)]) else (bif (WP x0) then (bif (decide ((((DJ x0).length :Nat):Int)>40)) then (.ret [(.int .i64 4)]) else (.to (.h0 0))) else .stuck))
theorem w9k (x0:zu): ∀s,Xx prog (Zy prog 26) (O0 x0) (O0 x0 s) (My x0 s)
 | .h0 v4=>(lb (fun k0=>(lo fun aL=>(lo fun aT=>let a:=ww aT (ww aL (tt k0 nn));(lb (fun k1=>(lr 33 26 (pn 39215) 1 5 [(2,(ii 12))] (sl Qf 37 [] (a7 [2]) a6 (bl 2 3) (tt k1 a)))) (fun k1=>(sl Qf 41 [] ⟨[],[],L5,L6⟩ a6 (bl 2 1) (tt k1 a))))))) (fun k0=>(lr 33 3 (pn 767) 1 5 [(2,(ii 0))] (sl Qf 14 [] (a7 [2]) a6 [false] (tt k0 nn)))))
theorem x9z (x0:zu):Xx prog (Zy prog 26) (O0 x0) (Zp prog 26 [(.str x0)] true []) (Xl x0):=(lb (fun k0=>(lr 33 26 (pn 37) 1 5 [(2,(ii 4))] (sl Qf 16 [] (a7 [2]) a6 [true] (tt k0 nn)))) (fun k0=>(lo fun aL=>let a:=ww aL (tt k0 nn);(lb (fun k1=>(lr 33 26 (pn 151) 1 5 [(2,(ii 4))] (sl Qf 31 [] (a7 [2]) a6 (bl 2 2) (tt k1 a)))) (fun k1=>(sl Qf 35 [] ⟨[],[],L5,L6⟩ a6 (bl 2 0) (tt k1 a)))))))
theorem u1o (x0:zu) (n:Nat) (vs:zy) (h:Yx (My x0) n (Xl x0)=.ret vs):Vi prog (Zy prog 26) (Zp prog 26 [(.str x0)] true []) vs:=by have:=Zg (w9k x0) n _ (x9z x0);rwa [h] at this
theorem u9z (b:UInt8) (s:zu):Wy s [b]=s.take (CV b s)/\Wi s [b]=(bif decide (CV b s<s.length) then s.drop (CV b s+1) else [])/\Jo s [b]=decide (CV b s<s.length):=by
 have hix:Cf s [b]=bif decide (CV b s<s.length) then (CV b s:Int) else -1:=w2h b s;have hle:=v6q b s;unfold Wy Wi Jo;rw [hix];by_cases h:CV b s<s.length
 .rw [Af h,Ab,Af (show (0:Int)<=(CV b s:Int) by omega),Zj];exact ⟨rfl,rfl,rfl⟩
 .rw [An h,Aa];refine ⟨?_,rfl,rfl⟩;rw [show CV b s=s.length by omega,B6];rfl
theorem v7w (b:UInt8): ∀s,Cm b [] s=s.take (CV b s)::(bif decide (CV b s<s.length) then Cm b [] (s.drop (CV b s+1)) else [])
 | []=>rfl
 | c::r=>by
  cases g:c == b with
  | true=>
   have e:CV b (c::r)=0:=by unfold CV;rw [g];rfl
   rw [e,Cm,g,Ab,AZ,Af (Nat.succ_pos _)];rfl
  | false=>
   have e:CV b (c::r)=CV b r+1:=by rw [CV,g];rfl
   rw [e,Cm,g,Aa,y2h,v7w b r,AZ,show decide (CV b r+1<r.length+1)=decide (CV b r<r.length) by rw [AU,Ao,Ao];omega];rfl
theorem u5i (b:UInt8) (s:zu):Cm b [] s=Wy s [b]::(bif Jo s [b] then Cm b [] (Wi s [b]) else []):=by obtain ⟨e0,e1,e2⟩:=u9z b s;rw [v7w,e0,e1,e2];cases decide (CV b s<s.length) <;> rfl
theorem W2 (b:UInt8): ∀s cur,(Cm b cur s).length =Lib.countByte s b+1
 | [],cur=>rfl
 | c::r,cur=>by
  unfold Cm Lib.countByte;rw [List.count_cons];cases g:c == b with
  | true=>rw [Ab,AZ,W2 b r];rfl
  | false=>rw [Aa,W2 b r];rfl
def D8 (p:zu):Int:=bif decide (4000<p.length) then 4 else bif decide (40<(DJ p).length) then 4 else bif (DJ p).all Vd then 0 else 12
def Jj (p:zu):Bool:=decide (p.length<=1000000)
theorem u3x {s:zu} {b:UInt8} (h:Jo s [b]=true):(Wi s [b]).length <s.length:=by obtain ⟨e0,e1,e2⟩:=u9z b s;rw [e2] at h;rw [e1,h,Ab,Bv];have:=Ax h;omega
theorem u9y {x:zu}: ∀(n:Nat) (s:zu),s.length<=n->s.length<=1000000-> ∃N,Yx (Mq x) N (.to (.h0 s true))=.ret [.int .i64 (bif (Cm 47 [] s).all Vd then 0 else 12)]
 | n,s,hn,hs=>by
  obtain ⟨k0,k1⟩:=v6l (s:=s) (sep:=[47]);have e:Mq x (.h0 s true)=bif !(Vd (Wy s [47])) then .ret [.int .i64 12] else .to (.h0 (Wi s [47]) (Jo s [47])):=by unfold Mq;simp only [];rw [Ab,Zi (show Kf s [47]=true by unfold Kf;rw [Af hs];rfl),Zi (show Y4 (Wy s [47])=true from Af (by omega))]
  rw [u5i,BH];cases g:Vd (Wy s [47]) with
  | false=>exact ⟨1,by rw [Zx,e,g];rfl⟩
  | true=>
   cases g2:Jo s [47] with
   | false=>have e2: ∀s',Mq x (.h0 s' false)=.ret [.int .i64 0]:=fun s'=>rfl;exact ⟨2,by rw [Zx,e,g,g2,Aw,Aa,Zx,e2];rfl⟩
   | true=>
    have hl:=u3x g2
    match n with
    | 0=>omega
    | n+1=>obtain ⟨N,hN⟩:=u9y (x:=x) n (Wi s [47]) (by omega) (by omega);exact ⟨N+1,by rw [Zx,e,g,g2,Aw,Aa,hN,Ab,Ak]⟩
theorem j5y (s:zu) (h:Jj s=true): ∃N,Yx (Mq s) N (XS s)=.ret [.int .i64 (D8 s)]:=by
 have hs:s.length<=1000000:=Ax h;unfold XS D8;by_cases g:4000<s.length
 .rw [Ys (by omega),Af g];exact ⟨0,rfl⟩
 .rw [Xg (by omega),An g,Aa,Aa,Zi (show y8b s [47]=true from rfl)];have hc:Q4 s [47]=((Lib.countByte s 47:Nat):Int):=rfl;have hk:=W2 47 s [];unfold DJ;cases s with
  | nil=>refine ⟨1,?_⟩;rfl
  | cons c r=>
   rw [show ((c::r) == ([]:zu))=false from rfl,Aa,Az];by_cases g2:40<(Cm 47 [] (c::r)).length
   .rw [Af g2,Ys (by omega)];exact ⟨0,rfl⟩
   .rw [An g2,Xg (by omega),Aa,Aa];exact u9y (c::r).length (c::r) (Ar _) hs
theorem u8e {x:zu} (hs:x.length<=1000000): ∀(k i:Nat),i+k=(DJ x).length -> ∃N,Yx (My x) N (.to (.h0 (i:Int)))=.ret [.int .i64 (bif ((DJ x).drop i).all Vd then 0 else 12)]
 | 0,i,h=>⟨1,by
  rw [Zx,Av (by omega)];unfold My;simp only [];rw [Ym (by omega)];rfl⟩
 | k+1,i,h=>by
  have hi:i<(DJ x).length :=by omega
  have hle:(DJ x).length <=1000001:=by
   unfold DJ;cases x == [] with
   | true=>exact Ay _
   | false=>rw [Aa,W2];have:Lib.countByte x 47<=x.length:=List.count_le_length;omega
  have hp:(rd (DJ x) i).length <=1000000:=by
   rw [Xm hi];have hm:=AS hi;revert hm;generalize (DJ x)[i]=p;unfold DJ;cases x == [] with
   | true=>intro hm;cases hm
   | false=>intro hm;have:=y2g 47 x [] p hm;simp at this;omega
  have w2:wrap .i64 ((i:Int)+1)=((i+1:Nat):Int):=Zk (by omega);obtain ⟨N,hN⟩:=u8e hs k (i+1) (by omega);have e:My x (.h0 (i:Int))=bif !(Vd (rd (DJ x) i)) then .ret [.int .i64 12] else .to (.h0 ((i+1:Nat):Int)):=by unfold My;simp only [Zj,w2];rw [Zt (by omega),Ab,Ai,Zi (Zr (by omega)),Zi (show WV (rd (DJ x) i)=true from Af hp)];rfl
  rw [Yo hi,BH];cases g:Vd (rd (DJ x) i) with
  | false=>exact ⟨1,by rw [Zx,e,g];rfl⟩
  | true=>exact ⟨N+1,by rw [Zx,e,g,Aw,Aa,hN,Ak]⟩
theorem j3w (s:zu) (h:Jj s=true): ∃N,Yx (My s) N (Xl s)=.ret [.int .i64 (D8 s)]:=by
 have hs:s.length<=1000000:=Ax h;unfold Xl D8;by_cases g:4000<s.length
 .rw [Ys (by omega),Af g];exact ⟨0,rfl⟩
 .rw [Xg (by omega),An g,Aa,Aa,Zi (show WP s=true from h)];by_cases g2:40<(DJ s).length
  .rw [Af g2,Ys (by omega)];exact ⟨0,rfl⟩
  .rw [An g2,Xg (by omega),Aa,Aa];exact u8e hs (DJ s).length 0 (Ah _)
def Fe :zy->Option (B9×Bool)
 | [.str s]=>some (.int .i64 (D8 s),Jj s)
 | _=>none
theorem j8t {S:CB} (hS:Zw prog S):Zw prog (S.with VM Fe):=Kv hS (by kernel_rfl) fun args v h=>by
 unfold Fe at h;split at h
 .rename_i s;simp only [Ad,Ae] at h;obtain ⟨rfl,ho⟩:=h;obtain ⟨N,hN⟩:=j5y s ho;exact ⟨_,_,.cons (.refl _) .nil,rfl,u3w s N _ hN,3,rfl⟩
 .cases h
theorem j8a {S:CB} (hS:Zw prog S):Zw prog (S.with UX Fe):=Kv hS (by kernel_rfl) fun args v h=>by
 unfold Fe at h;split at h
 .rename_i s;simp only [Ad,Ae] at h;obtain ⟨rfl,ho⟩:=h;obtain ⟨N,hN⟩:=j3w s ho;exact ⟨_,_,.cons (.refl _) .nil,rfl,u1o s N _ hN,3,rfl⟩
 .cases h
def WK :CB:=(WL.with VM Fe).with UX Fe
theorem Up :Zw prog WK:=j8a (j8t Qf)
structure CD where
 n:zu
 (a t x y z:Int)
 s:zx
abbrev zt:=List CD
instance : Xa CD where
 w:=7
 d:=⟨[],0,0,0,0,0,[]⟩
 cells x:=[.str x.n,.int .i64 x.a,.int .u8 x.t,.int .i64 x.x,.int .i64 x.y,.int .i64 x.z,.dat x.s.length (Zz x.s)]
 of l:=⟨sOf (l.getD 0 .undef),D9 (l.getD 1 .undef),D9 (l.getD 2 .undef),D9 (l.getD 3 .undef),D9 (l.getD 4 .undef),D9 (l.getD 5 .undef),match l.getD 6 .undef with
  | .dat n g=>Cw R6 n g
  | _=>[]⟩
 len _:=rfl
 pos:=by decide
 flat _:=rfl
 sc _:=rfl
 back x:=by show CD.mk x.n x.a x.t x.x x.y x.z (Cw R6 x.s.length (Zz x.s))=x;rw [Zm]
inductive GY where
 | h0 (aW:List zu) (aB:Int)
 | h1 (v0:List zu) (v2:Int) (v3:Int)
def Od (l0:zt) (x1:Int):GY->CI
 | .h0 aW aB=>⟨⟨19,0,true⟩,none,(Zq prog 68 [0,0] 0),none,[],⟨Zs [(0,(.yld 0)),(1,(.ptr 2 0)),(2,(.ptr 3 0))],Cj [(1,⟨[(.sla 4 1 0 aW.length (.un 1))],77,none⟩),(2,⟨[(ii aB)],3,none⟩),(3,⟨[(dt l0)],22,none⟩),(4,(rz aW 9 1))],5,[],true⟩,[⟨⟨20,0,true⟩,none,(.inRangeFunc 0::(Zq prog 22 (pn 43) 1)),none,(Zy prog 4),Zs [(4,(.str [])),(5,(.ptr 1 0))]⟩],(Co [(0,⟨.ready,none,20,Zs [(5,(.ptr 1 0))],[10],(Wx prog 22 [1,1,0,1,0,0]),(Wx prog 22 [1,1,0,1,0,1])⟩)])⟩
 | .h1 v0 v2 v3=>⟨⟨28,0,true⟩,none,(Zq prog 41 [1,0,0] 0),none,[],⟨Zs [(0,(.sla 0 1 0 v0.length (.un 1))),(2,(ii v2)),(3,(ii v3))],Xe [(rz v0 9 1),⟨[(.sla 0 1 0 v0.length (.un 1))],77,none⟩] 0,2,[],true⟩,[⟨⟨20,0,true⟩,(Wr prog 22 (pn 23) 1),(Zq prog 22 (pn 23) 1),none,(Zy prog 4),Zs [(5,(.ptr 1 0)),(16,(.sla 0 1 0 v0.length (.un 1)))]⟩],.leaf⟩
def Lu :List (Option zr):=[some [0,1,2],some [4,5]]
def Lw :List (Option zr):=[some [5],none,none,none,none]
def Lt :List (Option zr):=[some [0,2,3],some [5,16]]
def Lv :List (Option zr):=[]
def Fo (l0:zt) (x1:Int):GY->Yr GY
 | .h0 aW aB=>let b:=rd l0 aB.toNat;(bif (decide (aB>=0)) then (bif (Nat.beq 1 1&&((decide (0+aW.length=aW.length))&&decide ((aW.length+1+1)*(16+1)<=Jm))) then (bif ((decide (0<=aB/\aB<(l0.length:Int)))&&true) then (.to (.h0 (aW++[b.n]) b.a)) else .stuck) else .stuck) else (.to (.h1 aW 0 (wrap .i64 ((aW.length:Int) - 1)))))
 | .h1 v0 v2 v3=>(bif (decide (v2<v3)) then (bif ((decide (0<=v2/\v2<(v0.length:Int)))&&true) then (bif (decide ((0+v2.toNat)<v0.length)) then (bif ((decide (0<=v3/\v3<(v0.length:Int)))&&true) then (bif (decide ((0+v3.toNat)<v0.length)) then (.to (.h1 ((v0.set (0+v2.toNat) (rd v0 (0+v3.toNat))).set (0+v3.toNat) (rd v0 (0+v2.toNat))) (wrap .i64 (v2+1)) (wrap .i64 (v3 - 1)))) else .stuck) else .stuck) else .stuck) else .stuck) else (bif (Nat.beq 1 1&&(decide (0+v0.length<=v0.length)&&DQ (Zz v0))) then (bif (RV (Cw zu (v0.length) (fun k=>(Zz v0) (0+k))) ([47]:zu)) then (.ret [(.str (F2 (Cw zu (v0.length) (fun k=>(Zz v0) (0+k))) ([47]:zu)))]) else .stuck) else .stuck))
def XY (l0:zt) (x1:Int):Yr GY:=(.to (.h0 ([]:List zu) x1))
theorem v0b (l0:zt) (x1:Int): ∀s,Xx prog (Zy prog 22) (Od l0 x1) (Od l0 x1 s) (Fo l0 x1 s)
 | .h0 aW aB=>(lb (fun k0=>(lo fun o0=>(lo fun o1=>let c:=rd l0 (tn aB);let e:=aW++[c.n];let f:=aW.length+1;let a:=xL f e.length;let b:=e;let d:=Zf (Zz aW) 0 aW.length 1 [(.str c.n)];(sl Up 43 [] ⟨[0,1,2,3,7],[],Lu,Lw⟩ ⟨[],[.keep,.cells [.len b.length],.keep,.keep,.rowed 1 b.length (Zz b)],[]⟩ (CK 7 []) (pp a (pp a (pp (xS f d (Zz e)) (pp (pp (xF d) nn) (ww o1 (ww o0 (ww o1 (tt k0 nn)))))))))))) (fun k0=>(sl Up 33 [] ⟨[4,1],[],Lt,Lv⟩ a6 (bl 7 0) (pp (fl aW nn) (tt k0 nn)))))
 | .h1 v0 v2 v3=>(lb (fun k0=>(lo fun o0=>(lo fun o1=>(lo fun o2=>(lo fun o3=>let h:=rd v0 (0+(tn v3));let e:=v0.set (0+(tn v2)) h;let f:=rd v0 (0+(tn v2));let g:=e.set (0+(tn v3)) f;let a:=xL v0.length g.length;let b:=e;let c:=b.set (0+(tn v3)) f;let d:=Xi (Xi (Zz v0) (0+(tn v2)) 0 [(.str h)]) (0+(tn v3)) 0 [(.str f)];(sl Up 22 [] ⟨[0,1],[],Lt,Lv⟩ ⟨[(0,.len c.length)],[.rowed 1 c.length (Zz c),.cells [.len c.length]],[[(16,.len c.length)]]⟩ [true] (pp a (pp a (pp (xS v0.length d (Zz g)) (pp a (pp a (pp (pp (xF d) nn) (ww o3 (ww o2 (ww o1 (ww o0 (ww o1 (ww o0 (ww o3 (ww o2 (tt k0 nn))))))))))))))))))))) (fun k0=>(lo fun o0=>(lo fun o1=>(lr 20 3 (pn 767) 1 4 [(4,(.str (F2 (Cw zu (v0.length) (fun k=>(Zz v0) (0+k))) ([47]:zu))))] (sl Up 17 [] (a7 [4]) a6 [false] (pp (pp (pp (xw o0) (pp nn nn)) (pp (xI zu (v0.length) (fun k=>(Zz v0) (0+k))) (xw o1))) (tt k0 nn))))))))
theorem w1b (l0:zt) (x1:Int):Xx prog (Zy prog 22) (Od l0 x1) (Zp prog 22 [(dt l0),(.int .i64 x1)] true []) (XY l0 x1):=(sl Up 31 [(9,1,Zz ([]:List zu))] ⟨[3,0,2,1,4],[],Lu,Lw⟩ ⟨[],[.keep,.cells [.grow 4 1],.keep,.keep,.keep],[]⟩ [] (pp (fl ([]:List zu) nn) nn))
theorem u2w (l0:zt) (x1:Int) (n:Nat) (vs:zy) (h:Yx (Fo l0 x1) n (XY l0 x1)=.ret vs):Vi prog (Zy prog 22) (Zp prog 22 [(dt l0),(.int .i64 x1)] true []) vs:=by have:=Zg (v0b l0 x1) n _ (w1b l0 x1);rwa [h] at this
inductive Hs where
 | h0 (v5:zu) (v6:Int)
def OT (l0:zt) (x1:Int):Hs->CI
 | .h0 v5 v6=>⟨⟨33,0,true⟩,none,(Zq prog 24 (pn 75) 0),none,(Zy prog 4),⟨Zs [(0,(dt l0)),(5,(.str v5)),(6,(ii v6))],Xe [] 0,0,[],true⟩,[],.leaf⟩
def LY :List (Option zr):=[some [0,5,6]]
def LZ :List (Option zr):=[]
def NC (l0:zt) (x1:Int):Hs->Yr Hs
 | .h0 v5 v6=>let b:=rd l0 v6.toNat;(bif (decide (v6>=0)) then (bif (sOk b.n ([47]:zu)) then (bif (sOk (b.n ++([47]:zu)) v5) then (bif ((decide (0<=v6/\v6<(l0.length:Int)))&&true) then (.to (.h0 ((b.n ++([47]:zu))++v5) b.a)) else .stuck) else .stuck) else .stuck) else (.ret [(.str v5)]))
def YC (l0:zt) (x1:Int):Yr Hs:=(bif ((decide (0<=x1/\x1<(l0.length:Int)))&&true) then (.to (.h0 (rd l0 x1.toNat).n (rd l0 x1.toNat).a)) else .stuck)
theorem w9d (l0:zt) (x1:Int): ∀s,Xx prog (Zy prog 24) (OT l0 x1) (OT l0 x1 s) (NC l0 x1 s)
 | .h0 v5 v6=>(lb (fun k0=>(lo fun o0=>(lo fun o1=>(lo fun o2=>(sl Up 31 [] ⟨[],[],LY,LZ⟩ a6 [true] (ww o2 (ww o1 (ww o0 (ww o2 (tt k0 nn)))))))))) (fun k0=>(lr 33 3 (pn 767) 1 4 [(4,(.str v5))] (sl Up 13 [] (a7 [4]) a6 [false] (tt k0 nn)))))
theorem x9q (l0:zt) (x1:Int):Xx prog (Zy prog 24) (OT l0 x1) (Zp prog 24 [(dt l0),(.int .i64 x1)] true []) (YC l0 x1):=(lo fun o0=>(sl Up 25 [] ⟨[],[],LY,LZ⟩ a6 [] (ww o0 (ww o0 nn))))
theorem u1g (l0:zt) (x1:Int) (n:Nat) (vs:zy) (h:Yx (NC l0 x1) n (YC l0 x1)=.ret vs):Vi prog (Zy prog 24) (Zp prog 24 [(dt l0),(.int .i64 x1)] true []) vs:=by have:=Zg (w9d l0 x1) n _ (x9q l0 x1);rwa [h] at this
inductive G0 where
 | h0 (v3:Int)
def P0 (l0:zt):G0->CI
 | .h0 v3=>⟨⟨43,0,true⟩,none,(Zq prog 5 (pn 37) 0),none,(Zy prog 5),⟨Zs [(0,(dt l0)),(3,(ii v3))],Xe [] 0,0,[],true⟩,[],.leaf⟩
def MU :List (Option zr):=[some [0,3]]
def MV :List (Option zr):=[]
def Mn (l0:zt):G0->Yr G0
 | .h0 v3=>let a:=rd l0 v3.toNat;(bif (decide (v3<(l0.length:Int))) then (bif (decide (v3<300)) then (bif ((decide (0<=v3/\v3<(l0.length:Int)))&&true) then (bif (decide (((a.s.length :Nat):Int)>12)) then (.ret [(.bool true)]) else (bif (decide (((a.n.length :Nat):Int)>500)) then (.ret [(.bool true)]) else (.to (.h0 (wrap .i64 (v3+1)))))) else .stuck) else (bif (decide ((l0.length:Int)>12)) then (bif (decide ((l0.length:Int)<=200)) then (.ret [(.bool true)]) else (.ret [(.bool (decide ((l0.length:Int)>220)))])) else (.ret [(.bool (decide ((l0.length:Int)>220)))]))) else (bif (decide ((l0.length:Int)>12)) then (bif (decide ((l0.length:Int)<=200)) then (.ret [(.bool true)]) else (.ret [(.bool (decide ((l0.length:Int)>220)))])) else (.ret [(.bool (decide ((l0.length:Int)>220)))])))
def x3i (l0:zt):Yr G0:=(.to (.h0 0))
theorem v1c (l0:zt): ∀s,Xx prog (Zy prog 5) (P0 l0) (P0 l0 s) (Mn l0 s)
 | .h0 v3=>let a:=decide ((l0.length:Int)>220);(lb (fun k0=>(lb (fun k1=>(lo fun bO=>let b:=ww bO (tt k1 (tt k0 nn));(lb (fun k2=>(lr 43 5 (pn 2341) 1 5 [(2,(.bool true))] (sl Up 40 [] (a7 [2]) a6 (CK 11 []) (tt k2 b)))) (fun k2=>let e:=ww bO (tt k2 b);(lb (fun k3=>(lr 43 5 (pn 2341) 1 5 [(2,(.bool true))] (sl Up 40 [] (a7 [2]) a6 (CK 3 (bl 8 128)) (tt k3 e)))) (fun k3=>(sl Up 44 [] ⟨[],[],MU,MV⟩ a6 (CK 3 (bl 8 0)) (tt k3 e)))))))) (fun k1=>let c:=tt k1 (tt k0 nn);(lb (fun k2=>(lb (fun k3=>(lr 43 3 (pn 767) 1 5 [(2,(.bool true))] (sl Up 31 [] (a7 [2]) a6 (bl 9 507) (tt k3 (tt k2 c))))) (fun k3=>(lr 43 3 (pn 767) 1 5 [(2,(.bool a))] (sl Up 31 [] (a7 [2]) a6 (bl 9 59) (tt k3 (tt k2 c))))))) (fun k2=>(lr 43 3 (pn 767) 1 5 [(2,(.bool a))] (sl Up 31 [] (a7 [2]) a6 (bl 9 3) (tt k2 c)))))))) (fun k0=>(lb (fun k1=>let d:=tt k1 (tt k0 nn);(lb (fun k2=>(lr 43 3 (pn 767) 1 5 [(2,(.bool true))] (sl Up 31 [] (a7 [2]) a6 (bl 9 504) (tt k2 d)))) (fun k2=>(lr 43 3 (pn 767) 1 5 [(2,(.bool a))] (sl Up 31 [] (a7 [2]) a6 (bl 9 56) (tt k2 d)))))) (fun k1=>(lr 43 3 (pn 767) 1 5 [(2,(.bool a))] (sl Up 31 [] (a7 [2]) a6 (bl 9 0) (tt k1 (tt k0 nn))))))))
theorem w2n (l0:zt):Xx prog (Zy prog 5) (P0 l0) (Zp prog 5 [(dt l0)] true []) (x3i l0):=(sl Up 11 [] ⟨[],[],MU,MV⟩ a6 [] nn)
theorem u4j (l0:zt) (n:Nat) (vs:zy) (h:Yx (Mn l0) n (x3i l0)=.ret vs):Vi prog (Zy prog 5) (Zp prog 5 [(dt l0)] true []) vs:=by have:=Zg (v1c l0) n _ (w2n l0);rwa [h] at this
def C9 (l:zt):Nat->Int->List zu
 | 0,_=>[]
 | k+1,i=>bif decide (0<=i) then (rd l i.toNat).n ::C9 l k (rd l i.toNat).a else []
def EO (l:zt) (i:Nat):Bool:=(List.range (i+1)).all fun j=>decide (-1<=(rd l j).a)&&decide ((rd l j).a <(j:Int))
def Cb (l:zt) (i:Int):zu:=Lib.join (C9 l (i.toNat+1) i).reverse [47]
def Vu (l:zt) (i:Int):Bool:=decide (0<=i/\i<(l.length:Int))&&(decide (l.length<=1000)&&(EO l i.toNat&&l.all fun x=>decide (x.n.length<=500)))
theorem Qw {l:zt} {i j:Nat} (h:EO l i=true) (hj:j<=i): -1<=(rd l j).a /\(rd l j).a <(j:Int):=by have:=Au.1 h j (AP.2 (by omega));rwa [Ac,Ao,Ao] at this
theorem u3c {l:zt} {i j:Nat} (h:EO l i=true) (hj:j<=i):EO l j=true:=Au.2 fun k hk=>by have:=Qw h (show k<=i by have:=AP.1 hk;omega);rw [Ac,Ao,Ao];exact this
theorem NJ (l:zt) (k:Nat) {i:Int} (h: ¬0<=i):C9 l k i=[]:=by
 cases k with
 | zero=>rfl
 | succ k=>unfold C9;rw [An h];rfl
theorem w4s {l:zt} {t:Nat} (ht:EO l t=true): ∀(k m:Nat) (i:Int),i<=(t:Int)->i<(k:Int)->i<(m:Int)->C9 l k i=C9 l m i
 | 0,m,i,h0,h1,h2=>by rw [NJ l 0 (by omega),NJ l m (by omega)]
 | k+1,0,i,h0,h1,h2=>by rw [NJ l (k+1) (by omega),NJ l 0 (by omega)]
 | k+1,m+1,i,h0,h1,h2=>by
  unfold C9;by_cases h:0<=i
  .obtain ⟨j,rfl⟩: ∃j:Nat,i=(j:Int):=⟨i.toNat,by omega⟩
   have hb:=Qw ht (show j<=t by omega);rw [Af h,Ab,Ab,Zj,w4s ht k m (rd l j).a (by omega) (by omega) (by omega)]
  .rw [An h];rfl
theorem x8b (l:zt): ∀(k:Nat) (i:Int),(C9 l k i).length <=k
 | 0,i=>Ar _
 | k+1,i=>by
  unfold C9;cases decide (0<=i) with
  | true=>rw [Ab,AZ];have:=x8b l k (rd l i.toNat).a;omega
  | false=>exact Ay _
theorem TA {l:zt} (h:(l.all fun x=>decide (x.n.length<=500))=true) (j:Nat):(rd l j).n.length <=500:=by
 by_cases hj:j<l.length
 .rw [Xm hj];exact Ax (Au.1 h _ (AS hj))
 .have:rd l j=Xa.d:=by simp [rd,List.getD,List.getElem?_eq_none (show l.length<=j by omega)]
  rw [this];exact Ay _
theorem x4k {l:zt} (h:(l.all fun x=>decide (x.n.length<=500))=true): ∀(k:Nat) (i:Int) (p:zu),p∈C9 l k i->p.length<=500
 | 0,i,p,hp=>by cases hp
 | k+1,i,p,hp=>by
  unfold C9 at hp;cases g:decide (0<=i) with
  | true=>
   rw [g,Ab] at hp;cases hp with
   | head=>exact TA h _
   | tail _ hp=>exact x4k h k _ p hp
  | false=>rw [g] at hp;cases hp
theorem v6j (m:Nat): ∀(L:List zu),(∀p∈L,p.length<=m)->Lib.lens L<=m*L.length
 | [],h=>by simp [Lib.lens]
 | x::r,h=>by
  have h1:=h x Br;have h2:=v6j m r fun p hp=>h p (Bz _ hp);have e:Lib.lens (x::r)=x.length+Lib.lens r:=by simp [Lib.lens]
  rw [e,AZ,Nat.mul_add];omega
theorem j6b (L:List zu) (h: ∀p∈L,p.length<=500):(Lib.join L [47]).length <=501*L.length:=by
 cases L with
 | nil=>simp [Lib.join_nil]
 | cons x r=>have:=v6j 500 (x::r) h;rw [Lib.join_length];have e:(x::r).length =r.length+1:=rfl;rw [e] at this ⊢;show 1*r.length+_<=_;omega
theorem x2u {l:zt} {i:Int} (h:Vu l i=true):(Cb l i).length <=1000000:=by unfold Vu at h;simp only [Ac,Ao] at h;obtain ⟨h1,h2,h3,h4⟩:=h;have:=j6b (C9 l (i.toNat+1) i).reverse fun p hp=>x4k h4 _ _ p (List.mem_reverse.1 hp);have hl:=x8b l (i.toNat+1) i;rw [List.length_reverse] at this;unfold Cb;omega
theorem u9d {l:zt} {x:Int} {t:Nat} (ht:EO l t=true) (hl:l.length<=1000) {R:Yr GY}: ∀(m:Nat) (i:Int) (out:List zu),i<(m:Int)->i<=(t:Int)->i<(l.length:Int)->out.length+m<=2000->
  (∃N,Yx (Fo l x) N (.to (.h1 (out++C9 l m i) 0 (wrap .i64 (((out++C9 l m i).length :Int) - 1))))=R)-> ∃N,Yx (Fo l x) N (.to (.h0 out i))=R
 | m,i,out,hm,hit,hil,ho,⟨N,hR⟩=>by
  by_cases h:0<=i
  .match m with
   | 0=>omega
   | m+1=>
    obtain ⟨j,rfl⟩: ∃j:Nat,i=(j:Int):=⟨i.toNat,by omega⟩
    have hb:=Qw ht (show j<=t by omega);have e:Fo l x (.h0 out (j:Int))=.to (.h0 (out++[(rd l j).n]) (rd l j).a):=by unfold Fo;simp only [Zj];rw [ET h,Ab,Zi (NB (by omega)),Ai,Zi (Zr (by omega))]
    have hu:C9 l (m+1) (j:Int)=(rd l j).n ::C9 l m (rd l j).a :=(by rw [C9,Af h,Ab,Zj]);rw [hu,show out++(rd l j).n ::C9 l m (rd l j).a =(out++[(rd l j).n])++C9 l m (rd l j).a by rw [AH];rfl] at hR;obtain ⟨M,hM⟩:=u9d ht hl m (rd l j).a (out++[(rd l j).n]) (by omega) (by omega) (by omega) (by rw [AK,Bp];omega) ⟨N,hR⟩;exact ⟨M+1,by rw [Zx,e,hM]⟩
  .refine ⟨N+1,?_⟩;rw [NJ l m h,AA] at hR;rw [Zx,<-hR]
   congr 1
   unfold Fo;simp only [];rw [El h];rfl
theorem v5e {α:Type} [Xa α] {L:List α} {i:Nat} {v:α} (hi:i<L.length) (k:Nat):rd (L.set i v) k=bif Nat.beq i k then v else rd L k:=by
 unfold rd;rw [Bj,Bj,List.getElem?_set];cases g:Nat.beq i k with
 | true=>obtain rfl:=Aj g;rw [AJ rfl,AJ hi];rfl
 | false=>
  have:i≠k:=fun e=>by rw [e,BK] at g;cases g
  rw [AC this];rfl
theorem j4t {L M:List zu} (hl:M.length=L.length) (h: ∀k,k<L.length->rd M k=rd L (L.length - 1 - k)):M=L.reverse:=by apply BJ (by rw [List.length_reverse,hl]);intro k h1 h2;have:=h k (by omega);rw [Xm h1,Xm (show L.length - 1 - k<L.length by omega)] at this;rw [this,List.getElem_reverse]
theorem u9c {l:zt} {x:Int} {L:List zu} (hL:L.length<=2000) (hj:RV L.reverse [47]=true): ∀(d i j:Nat) (M:List zu),M.length=L.length->i+j+1=L.length+0\/(L.length=0/\i=0/\j=0)->j - i<=d->
  (∀k,k<L.length->rd M k=bif decide (k<i)||decide (j<k) then rd L (L.length - 1 - k) else rd L k)->
  ∃N,Yx (Fo l x) N (.to (.h1 M (i:Int) (wrap .i64 ((L.length:Int) - 1 - (i:Int)))))=.ret [.str (F2 L.reverse [47])]
 | d, i,j,M,hM,hij,hd,hk=>by
  have wj:L.length≠0->wrap .i64 ((L.length:Int) - 1 - (i:Int))=(j:Int):=fun h0=>by rw [Zk (by omega)];omega
  by_cases h:i<j
  .have h0:L.length≠0:=by omega
   match d with
   | 0=>omega
   | d +1=>
    have w2:wrap .i64 ((i:Int)+1)=((i+1:Nat):Int):=Zk (by omega);have w3:wrap .i64 ((j:Int) - 1)=wrap .i64 ((L.length:Int) - 1 - ((i+1:Nat):Int)):=by congr 1;omega
    have e:Fo l x (.h1 M (i:Int) (wrap .i64 ((L.length:Int) - 1 - (i:Int))))=.to (.h1 ((M.set i (rd M j)).set j (rd M i)) ((i+1:Nat):Int) (wrap .i64 ((L.length:Int) - 1 - ((i+1:Nat):Int)))):=by rw [wj h0];unfold Fo;simp only [Zj,w2,w3,Ah];rw [Zt (by omega),Ab,Ai,Ai,Zi (Zr (by omega)),Zi (Yq (by omega)),Zi (Zr (by omega)),Zi (Yq (by omega))]
    obtain ⟨N,hN⟩:=u9c (l:=l) (x:=x) hL hj d (i+1) (j - 1) ((M.set i (rd M j)).set j (rd M i)) (by rw [B2,B2,hM]) (by omega) (by omega) fun k hkl=>by
     rw [v5e (by rw [B2];omega),v5e (by omega)];by_cases g1:j=k
     .subst g1;rw [BK,Ab,hk i (by omega),An (show ¬i<i by omega),An (show ¬j<i by omega),Af (show j - 1<j by omega),Bool.or_true];show rd L i=rd L (L.length - 1 - j)
      congr 1;omega
     .rw [show Nat.beq j k=false from by cases g:Nat.beq j k with
       | false=>rfl
       | true=>exact absurd (Aj g) g1,Aa]
      by_cases g2:i=k
      .subst g2;rw [BK,Ab,hk j (by omega),An (show ¬j<i by omega),An (show ¬j<j by omega),Af (show i<i+1 by omega)];show rd L j=rd L (L.length - 1 - i)
       congr 1;omega
      .rw [show Nat.beq i k=false from by cases g:Nat.beq i k with
        | false=>rfl
        | true=>exact absurd (Aj g) g2,Aa,hk k hkl,show decide (k<i+1)=decide (k<i) by rw [AU,Ao,Ao];omega,show decide (j - 1<k)=decide (j<k) by rw [AU,Ao,Ao];omega]
    exact ⟨N+1,by rw [Zx,e,hN]⟩
  .have hrev:M=L.reverse:=j4t hM fun k hkl=>by
    rw [hk k hkl];cases g:decide (k<i)||decide (j<k) with
    | true=>rfl
    | false=>
     rw [A4,Ba,Ba] at g;show rd L k=_
     congr 1;omega
   subst hrev;refine ⟨1,?_⟩;rw [Zx];have hlt: ¬(i:Int)<wrap .i64 ((L.length:Int) - 1 - (i:Int)):=by rw [Zk (by omega)];omega
   unfold Fo;simp only [];rw [Ym hlt,Aa,Zi (by rw [Ac,Ac];exact ⟨rfl,Af (by omega),Xc _⟩),Ux,Zi hj];rfl
theorem j5c (l:zt) (i:Int) (h:Vu l i=true): ∃N,Yx (Fo l i) N (XY l i)=.ret [.str (Cb l i)]:=by
 have hp:=x2u h;unfold Vu at h;simp only [Ac,Ao] at h;obtain ⟨h1,h2,h3,h4⟩:=h;have dA:=x8b l (i.toNat+1) i;have hjo:RV (C9 l (i.toNat+1) i).reverse [47]=true:=by unfold RV;rw [Ac,Ao,Ao,List.length_reverse];exact ⟨by omega,hp⟩
 unfold XY;refine u9d h3 h2 (i.toNat+1) i [] (by omega) (by omega) (by omega) (by rw [B1];omega) ?_;rw [A1];have:=u9c (l:=l) (x:=i) (L:=C9 l (i.toNat+1) i) (by omega) hjo ((C9 l (i.toNat+1) i).length) 0 ((C9 l (i.toNat+1) i).length - 1) (C9 l (i.toNat+1) i) rfl (by omega) (by omega) fun k hk=>by rw [An (show ¬k<0 by omega),An (show ¬(C9 l (i.toNat+1) i).length - 1<k by omega)];rfl
 rw [show ((C9 l (i.toNat+1) i).length :Int) - 1 - ((0:Nat):Int)=((C9 l (i.toNat+1) i).length :Int) - 1 by omega] at this;exact this
def F7 :zy->Option (B9×Bool)
 | [a0,.int .i64 i]=>match CY CD a0 with
  | some (L,g,n)=>some (.str (Cb L i),CX CD n g&&Vu L i)
  | _=>none
 | _=>none
theorem j8k {S:CB} (hS:Zw prog S):Zw prog (S.with U9 F7):=Kv hS (by kernel_rfl) fun args v h=>by
 unfold F7 at h;split at h
 .rename_i a0 i;split at h
  .rename_i L g n e0;simp only [Ad,Ae,Ac] at h;obtain ⟨rfl,ho0,hw⟩:=h;obtain ⟨N,hN⟩:=j5c L i hw;exact ⟨_,_,(.cons (Yi e0 ho0) (.cons (.refl _) .nil)),rfl,u2w L i N _ hN,3,rfl⟩
  .cases h
 .cases h
theorem u4a (sep x p:zu): ∀R:List zu,Lib.join (R++[x,p]) sep=Lib.join (R++[x++sep++p]) sep
 | []=>by show Lib.join [x,p] sep=Lib.join [x++sep++p] sep;rw [Lib.join_one,Lib.join_cons];simp [Lib.joinTail]
 | y::R=>by rw [BV,BV,Lib.join_cons,Lib.join_cons];simp [Lib.joinTail]
theorem u8a {l:zt} {x:Int} {t:Nat} (ht:EO l t=true) (hl:l.length<=1000) (hn:(l.all fun x=>decide (x.n.length<=500))=true): ∀(m:Nat) (i:Int) (p:zu),i<(m:Int)->i<=(t:Int)->i<(l.length:Int)->m<=1000->p.length+501*m<=600000->
  ∃N,Yx (NC l x) N (.to (.h0 p i))=.ret [.str (Lib.join ((C9 l m i).reverse ++[p]) [47])]
 | m,i,p,hm,hit,hil,hm2,hp=>by
  by_cases h:0<=i
  .match m with
   | 0=>omega
   | m+1=>
    obtain ⟨j,rfl⟩: ∃j:Nat,i=(j:Int):=⟨i.toNat,by omega⟩
    have hb:=Qw ht (show j<=t by omega);have hnl:=TA hn j;have e:NC l x (.h0 p (j:Int))=.to (.h0 (((rd l j).n ++[47])++p) (rd l j).a):=by unfold NC;simp only [Zj];rw [ET h,Ab,Zi (KV (by show _+1<=_;omega)),Zi (KV (by rw [AK];show _+1+_<=_;omega)),Ai,Zi (Zr (by omega))]
    have hu:C9 l (m+1) (j:Int)=(rd l j).n ::C9 l m (rd l j).a :=(by rw [C9,Af h,Ab,Zj]);obtain ⟨N,hN⟩:=u8a (x:=x) ht hl hn m (rd l j).a (((rd l j).n ++[47])++p) (by omega) (by omega) (by omega) (by omega) (by rw [AK,AK];show _+1+_+_<=_;omega);refine ⟨N+1,?_⟩;rw [Zx,e,hN,hu,List.reverse_cons,show (C9 l m (rd l j).a).reverse ++[(rd l j).n]++[p]=(C9 l m (rd l j).a).reverse ++[(rd l j).n,p] from AH _ _ _,u4a]
  .refine ⟨1,?_⟩;rw [Zx,NJ l m h,List.reverse_nil,A1,Lib.join_one];unfold NC;simp only [];rw [El h];rfl
theorem j3r (l:zt) (i:Int) (h:Vu l i=true): ∃N,Yx (NC l i) N (YC l i)=.ret [.str (Cb l i)]:=by
 unfold Vu at h;simp only [Ac,Ao] at h;obtain ⟨h1,h2,h3,h4⟩:=h;obtain ⟨j,rfl⟩: ∃j:Nat,i=(j:Int):=⟨i.toNat,by omega⟩
 rw [Zj] at h3;have hb:=Qw h3 (Ar j);have hnl:=TA h4 j;unfold YC Cb;rw [Ai,Zi (Zr h1),Zj];have hu:C9 l (j+1) (j:Int)=(rd l j).n ::C9 l j (rd l j).a :=by rw [C9,Af (show (0:Int)<=(j:Int) by omega),Ab,Zj]
 rw [hu,List.reverse_cons];exact u8a h3 h2 h4 j (rd l j).a (rd l j).n (by omega) (by omega) (by omega) (by omega) (by omega)
theorem j7v {S:CB} (hS:Zw prog S):Zw prog (S.with UR F7):=Kv hS (by kernel_rfl) fun args v h=>by
 unfold F7 at h;split at h
 .rename_i a0 i;split at h
  .rename_i L g n e0;simp only [Ad,Ae,Ac] at h;obtain ⟨rfl,ho0,hw⟩:=h;obtain ⟨N,hN⟩:=j3r L i hw;exact ⟨_,_,(.cons (Yi e0 ho0) (.cons (.refl _) .nil)),rfl,u1g L i N _ hN,3,rfl⟩
  .cases h
 .cases h
def F3 (x:CD):Bool:=decide (12<x.s.length)||decide (500<x.n.length)
def greZ (n:Nat):Bool:=decide (12<n)&&decide (n<=200)||decide (220<n)
def MS (l:zt):Bool:=(l.take 300).any F3||greZ l.length
theorem j6i (l:zt):(bif decide ((l.length:Int)>12) then (bif decide ((l.length:Int)<=200) then (.ret [.bool true]) else (.ret [.bool (decide ((l.length:Int)>220))])) else (.ret [.bool (decide ((l.length:Int)>220))]):Yr G0)=.ret [.bool (greZ l.length)]:=by
 unfold greZ;have e:decide ((l.length:Int)>220)=decide (220<l.length):=by rw [AU,Ao,Ao];omega
 rw [e];by_cases h:12<l.length
 .rw [Ys (by omega),Af h];by_cases h2:l.length<=200
  .rw [Xs (by omega),Af h2];rfl
  .rw [EU (by omega),An h2];rfl
 .rw [Xg (by omega),An h];rfl
theorem j0j (l:zt): ∀(k i:Nat),i+k=min l.length 300-> ∃N,Yx (Mn l) N (.to (.h0 (i:Int)))=.ret [.bool (((l.take 300).drop i).any F3||greZ l.length)]
 | 0,i,h=>⟨1,by
  rw [Zx,Av (by rw [Bl];omega)];unfold Mn;simp only [];rw [j6i];by_cases g:i<l.length
  .rw [Zt (by omega),Ab,Ym (by omega)];rfl
  .rw [Ym (by omega)];rfl⟩
 | k+1,i,h=>by
  have hi:i<l.length:=by omega
  have w2:wrap .i64 ((i:Int)+1)=((i+1:Nat):Int):=Zk (by omega);have e:Mn l (.h0 (i:Int))=bif F3 (rd l i) then .ret [.bool true] else .to (.h0 ((i+1:Nat):Int)):=by
   unfold Mn F3;simp only [Zj,w2];rw [Zt (by omega),Ab,Zt (by omega),Ab,Ai,Zi (Zr (by omega))];have e1:decide (((rd l i).s.length :Int)>12)=decide (12<(rd l i).s.length):=by rw [AU,Ao,Ao];omega
   have e2:decide (((rd l i).n.length :Int)>500)=decide (500<(rd l i).n.length):=by rw [AU,Ao,Ao];omega
   rw [e1,e2];cases decide (12<(rd l i).s.length) <;> rfl
  have hd:(l.take 300).drop i=rd l i::(l.take 300).drop (i+1):=by rw [AT (show i<(l.take 300).length by rw [Bl];omega),BG,Xm hi]
  rw [hd,List.any_cons];cases g:F3 (rd l i) with
  | true=>exact ⟨1,by rw [Zx,e,g];rfl⟩
  | false=>obtain ⟨N,hN⟩:=j0j l k (i+1) (by omega);exact ⟨N+1,by rw [Zx,e,g,Aa,hN,Bc]⟩
theorem j6h (l:zt): ∃N,Yx (Mn l) N (x3i l)=.ret [.bool (MS l)]:=j0j l (min l.length 300) 0 (Ah _)
def QM :zy->Option (B9×Bool)
 | [a0]=>match CY CD a0 with
  | some (L,g,n)=>some (.bool (MS L),CX CD n g)
  | _=>none
 | _=>none
theorem j8y {S:CB} (hS:Zw prog S):Zw prog (S.with VT QM):=Kv hS (by kernel_rfl) fun args v h=>by
 unfold QM at h;split at h
 .rename_i a0;split at h
  .rename_i L g n e0;simp only [Ad,Ae] at h;obtain ⟨rfl,ho0⟩:=h;obtain ⟨N,hN⟩:=j6h L;exact ⟨_,_,(.cons (Yi e0 ho0) .nil),rfl,u4j L N _ hN,3,rfl⟩
  .cases h
 .cases h
def WJ :CB:=((WK.with U9 F7).with UR F7).with VT QM
theorem Qe :Zw prog WJ:=j8y (j7v (j8k Up))
inductive Ig where
def Pa (aF:Int) (aQ:Int) (aP:Int) (aO:Int):Ig->CI
 :=nofun
def w3e (aF:Int) (aQ:Int) (aP:Int) (aO:Int):Ig->Yr Ig
 :=nofun
def TI (aF:Int) (aQ:Int) (aP:Int) (aO:Int):Yr Ig:=(bif (decide (aF>=24)) then (.ret [(.int .i64 8)]) else (bif (decide ((Jc (Jc aQ aP) aO)>=(-1000000))) then (bif (!(decide ((Jd (Jd aQ aP) aO)<=1000000))) then (.ret [(.int .i64 8)]) else (.ret [(.int .i64 0)])) else (.ret [(.int .i64 8)])))
theorem v1p (aF:Int) (aQ:Int) (aP:Int) (aO:Int): ∀s,Xx prog (Zy prog 31) (Pa aF aQ aP aO) (Pa aF aQ aP aO s) (w3e aF aQ aP aO s)
 :=nofun
theorem w3f (aF:Int) (aQ:Int) (aP:Int) (aO:Int):Xx prog (Zy prog 31) (Pa aF aQ aP aO) (Zp prog 31 [(.agg [(.int .u8 aF),(.int .i64 aQ),(.int .i64 aP),(.int .i64 aO)])] true []) (TI aF aQ aP aO):=(lb (fun k0=>(lr 12 31 (pn 37) 1 5 [(2,(ii 8))] (sl Qe 23 [] (a7 [2]) a6 (CK 5 []) (tt k0 nn)))) (fun k0=>(lb (fun k1=>let a:=tt k1 (tt k0 nn);(lb (fun k2=>(lr 12 31 (pn 37) 1 5 [(2,(ii 8))] (sl Qe 52 [] (a7 [2]) a6 (bl 13 6136) (tt k2 a)))) (fun k2=>(lr 12 3 (pn 767) 1 5 [(2,(ii 0))] (sl Qe 53 [] (a7 [2]) a6 (bl 13 2040) (tt k2 a)))))) (fun k1=>(lr 12 31 (pn 37) 1 5 [(2,(ii 8))] (sl Qe 52 [] (a7 [2]) a6 (bl 13 4096) (tt k1 (tt k0 nn))))))))
theorem u4v (aF:Int) (aQ:Int) (aP:Int) (aO:Int) (n:Nat) (vs:zy) (h:Yx (w3e aF aQ aP aO) n (TI aF aQ aP aO)=.ret vs):Vi prog (Zy prog 31) (Zp prog 31 [(.agg [(.int .u8 aF),(.int .i64 aQ),(.int .i64 aP),(.int .i64 aO)])] true []) vs:=by have:=Zg (v1p aF aQ aP aO) n _ (w3f aF aQ aP aO);rwa [h] at this
inductive IG where
def O9 (aF:Int) (aQ:Int) (aP:Int) (aO:Int):IG->CI
 :=nofun
def w0o (aF:Int) (aQ:Int) (aP:Int) (aO:Int):IG->Yr IG
 :=nofun
def SQ (aF:Int) (aQ:Int) (aP:Int) (aO:Int):Yr IG:=(bif (decide (aF>=24)) then (.ret [(.int .i64 8)]) else (bif (decide (aQ>=(-1000000))) then (bif (decide (aP>=(-1000000))) then (bif (decide (aO>=(-1000000))) then (bif (decide (aQ<=1000000)) then (bif (decide (aP<=1000000)) then (bif (!(decide (aO<=1000000))) then (.ret [(.int .i64 8)]) else (.ret [(.int .i64 0)])) else (.ret [(.int .i64 8)])) else (.ret [(.int .i64 8)])) else (.ret [(.int .i64 8)])) else (.ret [(.int .i64 8)])) else (.ret [(.int .i64 8)])))
theorem w9u (aF:Int) (aQ:Int) (aP:Int) (aO:Int): ∀s,Xx prog (Zy prog 34) (O9 aF aQ aP aO) (O9 aF aQ aP aO s) (w0o aF aQ aP aO s)
 :=nofun
theorem w0p (aF:Int) (aQ:Int) (aP:Int) (aO:Int):Xx prog (Zy prog 34) (O9 aF aQ aP aO) (Zp prog 34 [(.agg [(.int .u8 aF),(.int .i64 aQ),(.int .i64 aP),(.int .i64 aO)])] true []) (SQ aF aQ aP aO):=(lb (fun k0=>(lr 12 34 (pn 37) 1 5 [(2,(ii 8))] (sl Qe 23 [] (a7 [2]) a6 (CK 5 []) (tt k0 nn)))) (fun k0=>(lb (fun k1=>let c:=tt k1 (tt k0 nn);(lb (fun k2=>let a:=tt k2 c;(lb (fun k3=>(lb (fun k4=>let b:=tt k4 (tt k3 a);(lb (fun k5=>(lb (fun k6=>(lr 12 34 (pn 37) 1 5 [(2,(ii 8))] (sl Qe 64 [] (a7 [2]) a6 (bl 22 3145720) (tt k6 (tt k5 b))))) (fun k6=>(lr 12 3 (pn 767) 1 5 [(2,(ii 0))] (sl Qe 65 [] (a7 [2]) a6 (bl 22 1048568) (tt k6 (tt k5 b))))))) (fun k5=>(lr 12 34 (pn 37) 1 5 [(2,(ii 8))] (sl Qe 64 [] (a7 [2]) a6 (bl 22 2228216) (tt k5 b)))))) (fun k4=>(lr 12 34 (pn 37) 1 5 [(2,(ii 8))] (sl Qe 64 [] (a7 [2]) a6 (bl 22 2113528) (tt k4 (tt k3 a))))))) (fun k3=>(lr 12 34 (pn 37) 1 5 [(2,(ii 8))] (sl Qe 64 [] (a7 [2]) a6 (bl 22 2099192) (tt k3 a)))))) (fun k2=>(lr 12 34 (pn 37) 1 5 [(2,(ii 8))] (sl Qe 64 [] (a7 [2]) a6 (bl 22 2097272) (tt k2 c)))))) (fun k1=>(lr 12 34 (pn 37) 1 5 [(2,(ii 8))] (sl Qe 64 [] (a7 [2]) a6 (bl 22 2097152) (tt k1 (tt k0 nn))))))))
theorem u2h (aF:Int) (aQ:Int) (aP:Int) (aO:Int) (n:Nat) (vs:zy) (h:Yx (w0o aF aQ aP aO) n (SQ aF aQ aP aO)=.ret vs):Vi prog (Zy prog 34) (Zp prog 34 [(.agg [(.int .u8 aF),(.int .i64 aQ),(.int .i64 aP),(.int .i64 aO)])] true []) vs:=by have:=Zg (w9u aF aQ aP aO) n _ (w0p aF aQ aP aO);rwa [h] at this
def inB (x:Int):Bool:=decide (-1000000<=x)&&decide (x<=1000000)
def GZ (x y z:Int):Bool:=inB x&&(inB y&&inB z)
def CW (t x y z:Int):Int:=bif decide (24<=t) then 8 else bif GZ x y z then 0 else 8
theorem ZA (x y z:Int):GZ x y z=true↔(-1000000<=x/\x<=1000000)/\(-1000000<=y/\y<=1000000)/\(-1000000<=z/\z<=1000000):=by unfold GZ inB;simp only [Ac,Ao]
theorem j6w (t x y z:Int): ∃N,Yx (w3e t x y z) N (TI t x y z)=.ret [.int .i64 (CW t x y z)]:=⟨0,by
 show TI t x y z=_;unfold TI CW;by_cases h:24<=t
 .rw [ET h];rfl
 .rw [El h,Aa,Aa];cases g:GZ x y z with
  | true=>have:=(ZA x y z).1 g;rw [GF,GF,GE,GE,ET (by omega),Xs (by omega)];rfl
  | false=>
   have: ¬((-1000000<=x/\x<=1000000)/\(-1000000<=y/\y<=1000000)/\(-1000000<=z/\z<=1000000)):=fun h=>A5.1 g ((ZA x y z).2 h);rw [GF,GF,GE,GE];by_cases h1:min (min x y) z>= -1000000
   .rw [ET h1,Ab,EU (by omega)];rfl
   .rw [El h1];rfl⟩
theorem j4s (t x y z:Int): ∃N,Yx (w0o t x y z) N (SQ t x y z)=.ret [.int .i64 (CW t x y z)]:=⟨0,by
 show SQ t x y z=_;unfold SQ CW GZ inB;by_cases h:24<=t
 .rw [ET h];rfl
 .rw [El h,Aa,Aa];show (bif decide (-1000000<=x) then _ else _)=_;have e: ∀(a b:Int),decide (a>=b)=decide (b<=a):=fun a b=>rfl;rw [e y,e z];cases decide (-1000000<=x) <;> cases decide (-1000000<=y) <;> cases decide (-1000000<=z) <;> cases decide (x<=1000000) <;> cases decide (y<=1000000) <;> cases decide (z<=1000000) <;> rfl⟩
def SM :zy->Option (B9×Bool)
 | [.agg [.int .u8 t,.int .i64 x,.int .i64 y,.int .i64 z]]=>some (.int .i64 (CW t x y z),true)
 | _=>none
theorem j9g {S:CB} (hS:Zw prog S):Zw prog (S.with V4 SM):=Kv hS (by kernel_rfl) fun args v h=>by
 unfold SM at h;split at h
 .rename_i t x y z;simp only [Ad,Ae] at h;obtain ⟨rfl,_⟩:=h;obtain ⟨N,hN⟩:=j6w t x y z;exact ⟨_,_,.cons (.refl _) .nil,rfl,u4v t x y z N _ hN,3,rfl⟩
 .cases h
theorem j8g {S:CB} (hS:Zw prog S):Zw prog (S.with U4 SM):=Kv hS (by kernel_rfl) fun args v h=>by
 unfold SM at h;split at h
 .rename_i t x y z;simp only [Ad,Ae] at h;obtain ⟨rfl,_⟩:=h;obtain ⟨N,hN⟩:=j4s t x y z;exact ⟨_,_,.cons (.refl _) .nil,rfl,u2h t x y z N _ hN,3,rfl⟩
 .cases h
def WI :CB:=(WJ.with V4 SM).with U4 SM
theorem Wg :Zw prog WI:=j8g (j9g Qe)
inductive Hd where
 | h0 (v15:Int)
 | h1 (v29:Int) (aC:List (zu×Bool))
def Nx (l0:zt):Hd->CI
 | .h0 v15=>⟨⟨69,0,true⟩,none,(Zq prog 12 (pn 75) 0),none,(Zy prog 5),⟨Zs [(0,(dt l0)),(13,(dt l0)),(14,(ii (l0.length:Int))),(15,(ii v15))],Xe [] 0,0,[],true⟩,[],.leaf⟩
 | .h1 v29 aC=>⟨⟨69,0,true⟩,none,(Zq prog 12 (pn 303) 0),none,(Zy prog 5),⟨Zs [(0,(dt l0)),(6,(.mapr 0)),(27,(dt l0)),(28,(ii (l0.length:Int))),(29,(ii v29))],Xe [⟨[(.obj (.mb aC))],64,none⟩] 0,1,[],true⟩,[],.leaf⟩
def KQ :List (Option zr):=[some [0,13,14,15]]
def KS :List (Option zr):=[]
def KP :List (Option zr):=[some [0,6,27,28,29]]
def KR :List (Option zr):=[]
def Qk (l0:zt):Hd->Yr Hd
 | .h0 v15=>let a:=CA (rd l0 v15.toNat).s;(bif (decide (v15<(l0.length:Int))) then (bif ((decide (0<=v15/\v15<(l0.length:Int)))&&true) then (bif (Qj a) then (bif ((Yt a) != 0) then (.ret [(.int .i64 (Yt a))]) else (.to (.h0 (wrap .i64 (v15+1))))) else .stuck) else .stuck) else (.to (.h1 0 ([]:List (zu×Bool)))))
 | .h1 v29 aC=>let b:=rd l0 v29.toNat;let c:=Cb (CA l0) v29;(bif (decide (v29<(l0.length:Int))) then (bif ((decide (0<=v29/\v29<(l0.length:Int)))&&true) then (bif (Uy b.n) then (bif (!(Cu b.n)) then (.ret [(.int .i64 8)]) else (bif (decide (b.a <(-1))) then (.ret [(.int .i64 8)]) else (bif (decide (b.a >=v29)) then (.ret [(.int .i64 8)]) else (bif ((CW b.t b.x b.y b.z) != 0) then (.ret [(.int .i64 8)]) else (bif (Vu (CA l0) v29) then (bif (getK false aC c) then (.ret [(.int .i64 8)]) else (bif (Jj c) then (bif ((D8 c) != 0) then (.ret [(.int .i64 8)]) else (.to (.h1 (wrap .i64 (v29+1)) (Et aC c true)))) else .stuck)) else .stuck))))) else .stuck) else .stuck) else (.ret [(.int .i64 0)]))
def YL (l0:zt):Yr Hd:=(bif (decide ((l0.length:Int)>200)) then (.ret [(.int .i64 4)]) else (.to (.h0 0)))
theorem w8h (l0:zt): ∀s,Xx prog (Zy prog 12) (Nx l0) (Nx l0 s) (Qk l0 s)
 | .h0 v15=>(lb (fun k0=>(lo fun aL=>(lo fun aT=>let a:=ww aL (tt k0 nn);let b:=rd l0 (tn v15);(lb (fun k1=>(lr 69 12 (pn 40139) 1 5 [(2,(ii (Yt (CA b.s))))] (sl Wg 34 [] (a7 [2]) a6 (bl 2 3) (tt k1 (pp (pp (xI R6 b.s.length (Zz b.s)) (xw aT)) a))))) (fun k1=>(sl Wg 36 [] ⟨[],[],KQ,KS⟩ a6 (bl 2 1) (tt k1 (pp (pp (xI R6 b.s.length (Zz b.s)) (xw aT)) a)))))))) (fun k0=>(sl Wg 21 [] ⟨[0],[],KP,KR⟩ a6 [false] (tt k0 nn))))
 | .h1 v29 aC=>(lb (fun k0=>(lo fun aL=>(lo fun aT=>let b:=ww aT (ww aL (tt k0 nn));let e:=pn 152367;(lb (fun k1=>(lr 69 12 e 1 5 [(2,(ii 8))] (sl Wg 48 [] (a7 [2]) a6 (CK 13 []) (tt k1 b)))) (fun k1=>(lb (fun k2=>(lr 69 12 e 1 5 [(2,(ii 8))] (sl Wg 48 [] (a7 [2]) a6 (bl 13 8177) (tt k2 (tt k1 b))))) (fun k2=>let c:=tt k2 (tt k1 b);(lb (fun k3=>(lr 69 12 e 1 5 [(2,(ii 8))] (sl Wg 48 [] (a7 [2]) a6 (bl 13 7937) (tt k3 c)))) (fun k3=>(lb (fun k4=>(lr 69 12 e 1 5 [(2,(ii 8))] (sl Wg 48 [] (a7 [2]) a6 (bl 13 4097) (tt k4 (tt k3 c))))) (fun k4=>(lo fun cD=>let a:=pp (pp (xr l0) (xw cD)) (tt k4 (tt k3 c));(lb (fun k5=>(lr 69 12 (pn 619311) 1 5 [(2,(ii 8))] (sl Wg 69 [] (a7 [2]) a6 (bl 17 122881) (tt k5 a)))) (fun k5=>(lo fun cU=>let d:=ww cU (tt k5 a);(lb (fun k6=>(lr 69 12 (pn 619311) 1 5 [(2,(ii 8))] (sl Wg 69 [] (a7 [2]) a6 (bl 17 65537) (tt k6 d)))) (fun k6=>(sl Wg 77 [] ⟨[0],[],KP,KR⟩ a6 (bl 17 1) (tt k6 d))))))))))))))))))) (fun k0=>(lr 69 3 (pn 767) 1 5 [(2,(ii 0))] (sl Wg 11 [] (a7 [2]) a6 [false] (tt k0 nn)))))
theorem x8r (l0:zt):Xx prog (Zy prog 12) (Nx l0) (Zp prog 12 [(dt l0)] true []) (YL l0):=(lb (fun k0=>(lr 69 12 (pn 37) 1 5 [(2,(ii 4))] (sl Wg 16 [] (a7 [2]) a6 [true] (tt k0 nn)))) (fun k0=>(sl Wg 22 [] ⟨[],[],KQ,KS⟩ a6 [false] (tt k0 nn))))
theorem u0j (l0:zt) (n:Nat) (vs:zy) (h:Yx (Qk l0) n (YL l0)=.ret vs):Vi prog (Zy prog 12) (Zp prog 12 [(dt l0)] true []) vs:=by have:=Zg (w8h l0) n _ (x8r l0);rwa [h] at this
inductive Hn where
 | h0 (v3:Int)
 | h1 (v4:Int)
 | h2 (v4:Int) (v6:Int) (aC:zu) (bF:Int) (bE:Int) (bP:Int) (cR:Int) (cS:Int) (cP:zx)
def OL (l0:zt):Hn->CI
 | .h0 v3=>⟨⟨90,0,true⟩,none,(Zq prog 13 (pn 75) 0),none,(Zy prog 5),⟨Zs [(0,(dt l0)),(3,(ii v3))],Xe [] 0,0,[],true⟩,[],.leaf⟩
 | .h1 v4=>⟨⟨90,0,true⟩,none,(Zq prog 13 (pn 151) 0),none,(Zy prog 5),⟨Zs [(0,(dt l0)),(4,(ii v4))],Xe [] 0,0,[],true⟩,[],.leaf⟩
 | .h2 v4 v6 aC bF bE bP cR cS cP=>⟨⟨90,0,true⟩,none,(Zq prog 13 (pn 40087) 0),none,(Zy prog 5),⟨Zs [(0,(dt l0)),(4,(ii v4)),(5,(.ptr 0 0)),(6,(ii v6))],Xe [⟨[(.str aC),(ii bF),(.int .u8 bE),(ii bP),(ii cR),(ii cS),(dt cP)],57,none⟩] 0,1,[],true⟩,[],.leaf⟩
def LH :List (Option zr):=[some [0,3]]
def LJ :List (Option zr):=[]
def LG :List (Option zr):=[some [0,4]]
def LI :List (Option zr):=[]
def j3j :List (Option zr):=[some [0,4,5,6]]
def j3k :List (Option zr):=[]
def Va (l0:zt):Hn->Yr Hn
 | .h0 v3=>let a:=CA (rd l0 v3.toNat).s;(bif (decide (v3<(l0.length:Int))) then (bif ((decide (0<=v3/\v3<(l0.length:Int)))&&true) then (bif (Qq a) then (bif ((Ju a) != 0) then (.ret [(.int .i64 (Ju a))]) else (.to (.h0 (wrap .i64 (v3+1))))) else .stuck) else .stuck) else (.to (.h1 0)))
 | .h1 v4=>let b:=rd l0 v4.toNat;let c:=Cb (CA l0) v4;(bif (decide (v4<(l0.length:Int))) then (bif ((decide (0<=v4/\v4<(l0.length:Int)))&&true) then (bif (Uy b.n) then (bif (!(Cu b.n)) then (.ret [(.int .i64 8)]) else (bif (decide (b.a <(-1))) then (.ret [(.int .i64 8)]) else (bif (decide (b.a >=v4)) then (.ret [(.int .i64 8)]) else (bif ((CW b.t b.x b.y b.z) != 0) then (.ret [(.int .i64 8)]) else (bif (Vu (CA l0) v4) then (bif (Jj c) then (bif ((D8 c) != 0) then (.ret [(.int .i64 8)]) else (.to (.h2 v4 0 b.n b.a b.t b.x b.y b.z b.s))) else .stuck) else .stuck))))) else .stuck) else .stuck) else (.ret [(.int .i64 0)]))
 | .h2 v4 v6 aC bF bE bP cR cS cP=>let b:=rd l0 v6.toNat;(bif (decide (v6<v4)) then (bif ((decide (0<=v6/\v6<(l0.length:Int)))&&true) then (bif (b.a == bF) then (bif (b.n == aC) then (.ret [(.int .i64 8)]) else (.to (.h2 v4 (wrap .i64 (v6+1)) aC bF bE bP cR cS cP))) else (.to (.h2 v4 (wrap .i64 (v6+1)) aC bF bE bP cR cS cP))) else .stuck) else (.to (.h1 (wrap .i64 (v4+1)))))
def YG (l0:zt):Yr Hn:=(bif (decide ((l0.length:Int)>200)) then (.ret [(.int .i64 4)]) else (.to (.h0 0)))
theorem w8w (l0:zt): ∀s,Xx prog (Zy prog 13) (OL l0) (OL l0 s) (Va l0 s)
 | .h0 v3=>(lb (fun k0=>(lo fun aL=>(lo fun aT=>let b:=ww aL (tt k0 nn);let c:=rd l0 (tn v3);(lb (fun k1=>let a:=pp (xI R6 c.s.length (Zz c.s)) (xw aT);(lr 90 13 (pn 4683) 1 5 [(2,(ii (Ju (CA c.s))))] (sl Wg 33 [] (a7 [2]) a6 (bl 2 3) (pp a (ww aL (tt k1 (pp a b))))))) (fun k1=>(sl Wg 31 [] ⟨[],[],LH,LJ⟩ a6 (bl 2 1) (tt k1 (pp (pp (xI R6 c.s.length (Zz c.s)) (xw aT)) b)))))))) (fun k0=>(sl Wg 17 [] ⟨[],[],LG,LI⟩ a6 [false] (tt k0 nn))))
 | .h1 v4=>(lb (fun k0=>(lo fun aL=>(lo fun aT=>let c:=ww aT (ww aL (tt k0 nn));(lb (fun k1=>(lr 90 13 (pn 38039) 1 5 [(2,(ii 8))] (sl Wg 58 [] (a7 [2]) a6 (CK 18 []) (tt k1 c)))) (fun k1=>let a:=tt k1 c;(lb (fun k2=>(lr 90 13 (pn 38039) 1 5 [(2,(ii 8))] (sl Wg 58 [] (a7 [2]) a6 (bl 18 262129) (tt k2 a)))) (fun k2=>(lb (fun k3=>(lr 90 13 (pn 38039) 1 5 [(2,(ii 8))] (sl Wg 58 [] (a7 [2]) a6 (bl 18 261889) (tt k3 (tt k2 a))))) (fun k3=>let d:=tt k3 (tt k2 a);(lb (fun k4=>(lr 90 13 (pn 38039) 1 5 [(2,(ii 8))] (sl Wg 58 [] (a7 [2]) a6 (bl 18 258049) (tt k4 d)))) (fun k4=>(lo fun cD=>(lo fun cY=>let b:=ww cY (pp (pp (xr l0) (xw cD)) (tt k4 d));(lb (fun k5=>(lr 90 13 (pn 38039) 1 5 [(2,(ii 8))] (sl Wg 58 [] (a7 [2]) a6 (bl 18 131073) (tt k5 b)))) (fun k5=>(sl Wg 61 [] ⟨[0],[],j3j,j3k⟩ a6 (bl 18 1) (tt k5 b))))))))))))))))) (fun k0=>(lr 90 3 (pn 767) 1 5 [(2,(ii 0))] (sl Wg 14 [] (a7 [2]) a6 [false] (tt k0 nn)))))
 | .h2 v4 v6 aC bF bE bP cR cS cP=>(lb (fun k0=>(lo fun aL=>let a:=ww aL (tt k0 nn);(lb (fun k1=>let b:=ww aL (tt k1 a);(lb (fun k2=>(lr 90 13 (pn 2399383) 1 5 [(2,(ii 8))] (sl Wg 18 [] (a7 [2]) a6 (CK 10 []) (tt k2 b)))) (fun k2=>(sl Wg 22 [] ⟨[0],[],j3j,j3k⟩ a6 (CK 9 [false]) (tt k2 b))))) (fun k1=>(sl Wg 22 [] ⟨[0],[],j3j,j3k⟩ a6 (bl 10 1) (tt k1 a)))))) (fun k0=>(sl Wg 16 [] ⟨[],[],LG,LI⟩ a6 [false] (tt k0 nn))))
theorem x9g (l0:zt):Xx prog (Zy prog 13) (OL l0) (Zp prog 13 [(dt l0)] true []) (YG l0):=(lb (fun k0=>(lr 90 13 (pn 37) 1 5 [(2,(ii 4))] (sl Wg 16 [] (a7 [2]) a6 [true] (tt k0 nn)))) (fun k0=>(sl Wg 20 [] ⟨[],[],LH,LJ⟩ a6 [false] (tt k0 nn))))
theorem u0z (l0:zt) (n:Nat) (vs:zy) (h:Yx (Va l0) n (YG l0)=.ret vs):Vi prog (Zy prog 13) (Zp prog 13 [(dt l0)] true []) vs:=by have:=Zg (w8w l0) n _ (x9g l0);rwa [h] at this
def pt (L:zq) (y:Int):Prop:= ∃s∈L,s.a<=y/\y<s.b
structure Cy (L:zq):Prop where
 pos: ∀s∈L,s.a<s.b
 sep:L.Pairwise fun s t=>s.b<t.a
theorem Cy.nil :Cy []:=⟨by simp,.nil⟩
theorem Cy.tail {s:R2} {L:zq} (h:Cy (s::L)):Cy L:=⟨fun t ht=>h.pos t (Bz _ ht),(A9.1 h.sep).2⟩
theorem Cy.head {s:R2} {L:zq} (h:Cy (s::L)): ∀t∈L,s.b<t.a:=(A9.1 h.sep).1
theorem j0u {s:R2} {L:zq} (h:Cy (s::L)) {y:Int} (hy:pt (s::L) y):s.a<=y:=by
 obtain ⟨t,ht,h1,h2⟩:=hy;rcases AN.1 ht with rfl | ht
 .exact h1
 .have:=h.head t ht;have:=h.pos s (by simp);omega
theorem ZO : ∀(L M:zq),Cy L->Cy M->(∀y,pt L y↔pt M y)->L=M
 | [],[],_,_,_=>rfl
 | [],t::M,_,hM,h=>by have:=(h t.a).2 ⟨t,by simp,A6 _,hM.pos t (by simp)⟩;obtain ⟨s,hs,_⟩:=this;cases hs
 | s::L,[],hL,_,h=>by have:=(h s.a).1 ⟨s,by simp,A6 _,hL.pos s (by simp)⟩;obtain ⟨s,hs,_⟩:=this;cases hs
 | s::L,t::M,hL,hM,h=>by
  have p1:=hL.pos s (by simp);have p2:=hM.pos t (by simp);have a1:t.a<=s.a:=j0u hM ((h s.a).1 ⟨s,by simp,A6 _,p1⟩);have a2:s.a<=t.a:=j0u hL ((h t.a).2 ⟨t,by simp,A6 _,p2⟩);have b1: ¬s.b<t.b:=fun hb=>by
   obtain ⟨u,hu,h1,h2⟩:=(h s.b).2 ⟨t,by simp,by omega,hb⟩;rcases AN.1 hu with rfl | hu
   .omega
   .have:=hL.head u hu;omega
  have b2: ¬t.b<s.b:=fun hb=>by
   obtain ⟨u,hu,h1,h2⟩:=(h t.b).1 ⟨s,by simp,by omega,hb⟩;rcases AN.1 hu with rfl | hu
   .omega
   .have:=hM.head u hu;omega
  have e:s=t:=by
   obtain ⟨sa,sb⟩:=s;obtain ⟨ta,tb⟩:=t;simp only at a1 a2 b1 b2;have:sa=ta:=by omega
   have:sb=tb:=by omega
   subst_vars;rfl
  subst e
  congr 1
  refine ZO L M hL.tail hM.tail fun y=>⟨fun hy=> ?_,fun hy=> ?_⟩
  .obtain ⟨u,hu,h1,h2⟩:=hy;have g:=hL.head u hu;obtain ⟨v,hv,h3,h4⟩:=(h y).1 ⟨u,by simp [hu],h1,h2⟩;rcases AN.1 hv with rfl | hv
   .omega
   .exact ⟨v,hv,h3,h4⟩
  .obtain ⟨u,hu,h1,h2⟩:=hy;have g:=hM.head u hu;obtain ⟨v,hv,h3,h4⟩:=(h y).2 ⟨u,by simp [hu],h1,h2⟩;rcases AN.1 hv with rfl | hv
   .omega
   .exact ⟨v,hv,h3,h4⟩
def push (out:zq) (x x':Int):zq:=
 bif decide (0<out.length)&&((rd out (out.length - 1)).b == x) then out.set (out.length - 1) ⟨(rd out (out.length - 1)).a,x'⟩ else out++[⟨x,x'⟩]
theorem v5p (out:zq) (s:R2) (x x':Int):push (out++[s]) x x'=bif s.b == x then out++[⟨s.a,x'⟩] else out++[s]++[⟨x,x'⟩]:=by
 grind [rd,push]
theorem w5n {out:zq} {x x':Int} (hc:Cy out) (hb: ∀s∈out,s.b<=x) (hx:x<x'):
  Cy (push out x x')/\(∀s∈push out x x',s.b<=x')/\ ∀y,pt (push out x x') y↔pt out y\/(x<=y/\y<x'):=by
 rcases List.eq_nil_or_concat out with rfl | ⟨L,s,rfl⟩
 .refine ⟨⟨?_,?_⟩,?_,fun y=> ?_⟩;all_goals simp_all [push,pt]
 .rw [List.concat_eq_append] at*;rw [v5p];have hs:=hb s (by simp);have hp:=hc.pos s (by simp);have sep:=BS.1 hc.sep;rcases Xz (s.b == x) with q | q
  .rw [q,Ab];have q:s.b=x:=by simpa using q
   refine ⟨⟨?_,?_⟩,?_,fun y=> ?_⟩
   .intro t ht;rcases AF.1 ht with ht | ht
    .exact hc.pos t (by simp [ht])
    grind
   .grind
   .grind
   .constructor
    .rintro ⟨t,ht,h1,h2⟩;rcases AF.1 ht with ht | ht
     .exact .inl ⟨t,by simp [ht],h1,h2⟩
     .rw [BM.1 ht] at h1 h2;by_cases hy:y<s.b
      .exact .inl ⟨s,by simp,h1,hy⟩
      grind
    .rintro (⟨t,ht,h1,h2⟩ | ⟨h1,h2⟩)
     .rcases AF.1 ht with ht | ht
      .exact ⟨t,by simp [ht],h1,h2⟩
      .rw [BM.1 ht] at h1 h2;exact ⟨⟨s.a,x'⟩,by simp,h1,by grind⟩
     .exact ⟨⟨s.a,x'⟩,by simp,by grind,h2⟩
  .rw [q,Aa];have q:s.b≠x:=by simpa using q
   refine ⟨⟨?_,?_⟩,?_,fun y=> ?_⟩
   .intro t ht;rcases AF.1 ht with ht | ht
    .exact hc.pos t ht
    grind
   .grind
   .grind
   .constructor
    .rintro ⟨t,ht,h1,h2⟩;rcases AF.1 ht with ht | ht
     .exact .inl ⟨t,ht,h1,h2⟩
     grind
    .rintro (⟨t,ht,h1,h2⟩ | ⟨h1,h2⟩)
     .exact ⟨t,AF.2 (.inl ht),h1,h2⟩
     .exact ⟨⟨x,x'⟩,by simp,h1,h2⟩
theorem HU {l:zp} (h:l.Pairwise (· < ·)) {i j:Nat} (hij:i<j) (hj:j<l.length):rd l i<rd l j:=by rw [Xm (by omega),Xm hj];exact Bn.1 h i j (by omega) hj hij
theorem x3r (cuts:zp) (ins:List Bool) (hc:cuts.Pairwise (· < ·)): ∀(k i:Nat) (out:zq),i+k<cuts.length\/k=0->Cy out->(∀s∈out,s.b<=rd cuts i)->
  Cy (Fu cuts ins k i out)/\ ∀y,pt (Fu cuts ins k i out) y↔pt out y\/ ∃j,i<=j/\j<i+k/\rd ins j=true/\rd cuts j<=y/\y<rd cuts (j+1)
 | 0,i,out,h,ho,hb=>⟨ho,fun y=>⟨.inl,fun hy=>hy.elim id fun ⟨j,h1,h2,_⟩=>by omega⟩⟩
 | k +1,i,out,h,ho,hb=>by
  have hlt:rd cuts i<rd cuts (i+1):=HU hc (Bf _) (by omega);obtain ⟨p1,p2,p3⟩:=w5n ho hb hlt;have e:Fu cuts ins (k+1) i out=Fu cuts ins k (i+1) (bif rd ins i then push out (rd cuts i) (rd cuts (i+1)) else out):=rfl;rw [e];rcases Xz (rd ins i) with q | q
  .rw [q,Ab];obtain ⟨r1,r2⟩:=x3r cuts ins hc k (i+1) (push out (rd cuts i) (rd cuts (i+1))) (by omega) p1 p2;refine ⟨r1,fun y=> ?_⟩;rw [r2,p3];constructor
   .rintro ((h | h) | ⟨j,h1,h2,h3⟩)
    .exact .inl h
    .exact .inr ⟨i,Ar _,by omega,q,h⟩
    .exact .inr ⟨j,by omega,by omega,h3⟩
   .rintro (h | ⟨j,h1,h2,h3⟩)
    .exact .inl (.inl h)
    .rcases Be h1 with rfl | h1
     .exact .inl (.inr h3.2)
     .exact .inr ⟨j,h1,by omega,h3⟩
  .rw [q,Aa];obtain ⟨r1,r2⟩:=x3r cuts ins hc k (i+1) out (by omega) ho (fun s hs=>by have:=hb s hs;omega);refine ⟨r1,fun y=> ?_⟩;rw [r2];constructor
   .rintro (h | ⟨j,h1,h2,h3⟩)
    .exact .inl h
    .exact .inr ⟨j,by omega,by omega,h3⟩
   .rintro (h | ⟨j,h1,h2,h3⟩)
    .exact .inl h
    .rcases Be h1 with rfl | h1
     .rw [q] at h3;cases h3.1
     .exact .inr ⟨j,h1,by omega,h3⟩
theorem w3x {cuts:zp}: ∀(k:Nat),k<cuts.length-> ∀y,rd cuts 0<=y->y<rd cuts k-> ∃j,j<k/\rd cuts j<=y/\y<rd cuts (j+1)
 | 0,_,y,h1,h2=>by omega
 | k+1,hk,y,h1,h2=>by
  by_cases h:rd cuts k<=y
  .exact ⟨k,Bf _,h,h2⟩
  .obtain ⟨j,h3,h4⟩:=w3x k (by omega) y h1 (by omega);exact ⟨j,by omega,h4⟩
theorem w7d (cuts:zp) (hc:cuts.Pairwise (· < ·)) (P:Int->Bool) (S:zq) (hS: ∀s∈S,s.a∈cuts/\s.b∈cuts) (hP: ∀y,P y=true↔pt S y):
  Cy (DI cuts (cuts.map P))/\ ∀y,pt (DI cuts (cuts.map P)) y↔pt S y:=by
 obtain ⟨r1,r2⟩:=x3r cuts (cuts.map P) hc (cuts.length - 1) 0 [] (by omega) .nil (by simp);refine ⟨r1,fun y=> ?_⟩;unfold DI;rw [r2];have hin: ∀x,x∈cuts-> ∃i,i<cuts.length/\rd cuts i=x:=fun x hx=>by obtain ⟨i,hi,h⟩:=AQ hx;exact ⟨i,hi,by rw [Xm hi];exact h⟩
 have hmap: ∀j,j<cuts.length->rd (cuts.map P) j=P (rd cuts j):=fun j hj=>by
  grind [Xm]
 have le_of: ∀i j,i<cuts.length->j<cuts.length->i<=j->rd cuts i<=rd cuts j:=fun i j hi hj hij=>by
  rcases Be hij with rfl | h
  .grind
  .exact Int.le_of_lt (HU hc h hj)
 constructor
 .rintro (⟨s,hs,_⟩ | ⟨j,h1,h2,h3,h4,h5⟩)
  .cases hs
  .have hj:j+1<cuts.length:=by omega
   rw [hmap j (by omega)] at h3;obtain ⟨s,hs,a1,a2⟩:=(hP _).1 h3;obtain ⟨ca,cb⟩:=hS s hs;obtain ⟨m,hm,em⟩:=hin s.b cb;refine ⟨s,hs,by omega,?_⟩
   grind
 .rintro ⟨s,hs,a1,a2⟩;right;obtain ⟨ca,cb⟩:=hS s hs;obtain ⟨n,hn,en⟩:=hin s.a ca;obtain ⟨m,hm,em⟩:=hin s.b cb;have h0:=le_of 0 n (by omega) hn (Ay _);obtain ⟨j,h1,h2,h3⟩:=w3x m hm y (by omega) (by omega);refine ⟨j,Ay _,by omega,?_,h2,h3⟩;rw [hmap j (by omega),hP];refine ⟨s,hs,?_,?_⟩;all_goals grind
end Go.Am
end
