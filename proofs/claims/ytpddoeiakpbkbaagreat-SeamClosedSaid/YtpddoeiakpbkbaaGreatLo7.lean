/- A part. -/
import Derived.Test.YtpddoeiakpbkbaaGreatLo6
import Derived.ChangeArms
import Derived.WideShapes
import Derived.ChangeShapes
set_option maxRecDepth 99999
set_option maxHeartbeats 0
set_option linter.unusedVariables false
set_option linter.unusedSimpArgs false
noncomputable section
namespace Go.Am
open IntKind (wrap)
open Go.Proofs Go.Sort Go.Shelf Go.RowKit Go.Lib
theorem S9 {x y z:Int} (hx: -1000000<=x/\x<=1000000) (hy: -1000000<=y/\y<=1000000) (hz: -1000000<=z/\z<=1000000):Hn x y z=true:=by
 unfold Hn;rw [Ae,Ar,Ar];unfold Wt Wf;constructor
 ·(repeat' split) <;> omega
 ·(repeat' split) <;> omega
theorem j7c (q:Ax) (s:Bool) {p:Int} (hp: -1000000<=p/\p<=1000000) {t:R4} (ht:Vo t=true):FJ (qd q s p t)=true:=by
 simp only [Vo,Ae,Ar] at ht;have bb: ∀{x:Int},(-1000000<=x/\x<=1000000)->(-1000000<=x/\x<=1000000):=fun h=>h;have ha: -1000000<=t.a/\t.a<=1000000:=by omega
 have hb: -1000000<=t.b/\t.b<=1000000:=by omega
 have hc: -1000000<=t.c/\t.c<=1000000:=by omega
 have hd: -1000000<=t.d/\t.d<=1000000:=by omega
 have h1:decide (t.a<t.c)=true:=Al (by omega);have h2:decide (t.b<t.d)=true:=Al (by omega);have hq:(p == p)=true:=by simp
 cases q <;> cases s <;> unfold FJ qd <;> simp only [S9 hp ha hb,S9 hp hc hd,S9 ha hp hb,S9 hc hp hd,S9 ha hb hp,S9 hc hd hp,h1,h2,hq] <;> rfl
theorem MV (q:Ax) (s:Bool) (p:Int) (t:R4):Cc (Vs q s:Int) (B5 (Vs q s:Int)) p t=qd q s p t:=by cases q <;> cases s <;> rfl
theorem j8a {α:Type} {f g:α->Int}: ∀{l:List α},(∀x∈l,Cg (f x) (g x))->Cg (sm l f) (sm l g)
 | [],_=>Cg.refl 0
 | x::l,h=>by rw [Wr,Wr];exact (h x (by simp)).add (j8a fun y hy=>h y (by simp [hy]))
theorem WV (q:Ax) (s:Bool) (p:Int) (t:R4):Cg (a7 (qd q s p t)) ((t.c - t.a)*(t.d - t.b)):=by have k:Cg (wrap .i64 (wrap .i64 (t.c - t.a)*wrap .i64 (t.d - t.b))) ((t.c - t.a)*(t.d - t.b)):=Cg.w ((Cg.wrap _).mul (Cg.wrap _));cases q <;> cases s <;> exact k
def Cr (l:List Pa):Nat->List R7
 | 0=>[]
 | n+1=>Cr l n++Xe l (n:Int)
theorem w8c {P Q R:Prop} (h:P->Q->False):Qf (P/\R)+Qf (Q/\R)=Qf ((P\/Q)/\R):=by
 by_cases r:R
 .by_cases p:P
  .rw [Vv ⟨p,r⟩,Xy fun k=>h p k.1,Vv ⟨.inl p,r⟩]
  .by_cases q:Q
   .rw [Xy fun k=>p k.1,Vv ⟨q,r⟩,Vv ⟨.inr q,r⟩]
   .rw [Xy fun k=>p k.1,Xy fun k=>q k.1,Xy fun k=>k.1.elim p q]
 .rw [Xy fun k=>r k.2,Xy fun k=>r k.2,Xy fun k=>r k.2]
section
variable {l:List Pa} (h:Qe l=0) (w0:FE [] l=0) (hs: ∀x:Int,0<=x/\x<(l.length:Int)->Kg l x=0)
include h w0 hs
theorem Tf :Zf (CT [] l)=0/\ ∀x y z,CY (CT [] l) x y z↔ ∃p∈l,CY p.s x y z:=by
 have _u:=hs;have L:=G3 h;obtain ⟨a,b⟩:=(v5n l [] w1c fun x hx=>by
  obtain ⟨i,hi,rfl⟩:=AJ hx;rw [<-Yo hi];exact L.sck i hi).2 w0
 refine ⟨a,fun x y z=>(b x y z).trans ⟨?_,.inr⟩⟩;rintro (⟨r,hr,_⟩ | k)
 .cases hr
 .exact k
theorem ZC {j:Nat} (hj:j<l.length) (q:Ax) (s:Bool) {p:Int} (hp:p∈CR q (rd l j).s):
  Qd (rd l j).s (CT [] l) (Vs q s:Int) p=FS q s (rd l j).s (CT [] l) p/\Xr.can (FS q s (rd l j).s (CT [] l) p)/\(∀r∈FS q s (rd l j).s (CT [] l) p,Vo r=true)/\(FS q s (rd l j).s (CT [] l) p).Pairwise Rz/\
   ∀u v,CI Xr.inB (FS q s (rd l j).s (CT [] l) p) (u,v)↔q.inL (rd l j).s (Jz s p) u v/\ ¬q.inL (CT [] l) (Qw s p) u v:=by
 have L:=G3 h;obtain ⟨_,_,g⟩:=ZI h (x:=(j:Int)) (by omega) (hs _ (by omega));obtain ⟨e,le⟩:=g q s p hp;have hS:=L.sck j hj;obtain ⟨c,pts⟩:=w9y hS (Tf h w0 hs).1 q s p;have v:=YD c fun u w k=>(u0y (Xs hS).2.1 q ((pts u w).1 k).1).2;exact ⟨e,c,v,Rd c v le,pts⟩
theorem j3c {j:Nat} (hj:j<l.length) (q:Ax) (s:Bool) {p u w:Int} (hp: ¬p∈CR q (rd l j).s): ¬(q.inL (rd l j).s (Jz s p) u w/\ ¬q.inL (CT [] l) (Qw s p) u w):=fun ⟨k1,k2⟩=>by have k:=WE k1 hp;rw [q.inL_S] at k k2;exact k2 (((Tf h w0 hs).2 _ _ _).2 ⟨rd l j,by rw [Yo hj];exact AV hj,k⟩)
theorem w7j {j k:Nat} (hj:j<l.length) (hk:k<l.length) (q:Ax) {p u w:Int} (h1:q.inL (rd l j).s p u w) (h2:q.inL (rd l k).s p u w):j=k:=by have _u:=w0;have _v:=hs;have L:=G3 h;rw [q.inL_S] at h1 h2;exact L.dis j k hj hk _ _ _ (L.ins j hj _ _ _ h1) (L.ins k hk _ _ _ h2)
theorem Lc (q:Ax) (p u w:Int):(∃j,j<l.length/\q.inL (rd l j).s p u w)↔q.inL (CT [] l) p u w:=by
 rw [q.inL_S,(Tf h w0 hs).2];constructor
 .rintro ⟨j,hj,k⟩;rw [q.inL_S] at k;exact ⟨rd l j,by rw [Yo hj];exact AV hj,k⟩
 .rintro ⟨x,hx,k⟩;obtain ⟨j,hj,rfl⟩:=AJ hx;exact ⟨j,hj,by rw [q.inL_S,Yo hj];exact k⟩
theorem j3d (q:Ax) (s:Bool) {pl u w:Int} (hp: -1000<=pl/\pl<=1000): ∀n,n<=l.length->
  (Cr l n).countP (GR (q.to (Jz s pl) u w).1 (q.to (Jz s pl) u w).2.1 (q.to (Jz s pl) u w).2.2 (Vs q s:Int))=Qf ((∃j,j<n/\q.inL (rd l j).s (Jz s pl) u w)/\ ¬q.inL (CT [] l) (Qw s pl) u w)
 | 0,_=>by rw [Xy fun k=>by obtain ⟨⟨j,hj,_⟩,_⟩:=k;omega];rfl
 | n+1,hn=>by
  have hj:n<l.length:=by omega
  obtain ⟨_,e,_⟩:=ZI h (x:=(n:Int)) (by omega) (hs _ (by omega));have one:(Xe l (n:Int)).countP (GR (q.to (Jz s pl) u w).1 (q.to (Jz s pl) u w).2.1 (q.to (Jz s pl) u w).2.2 (Vs q s:Int))=Qf (q.inL (rd l n).s (Jz s pl) u w/\ ¬q.inL (CT [] l) (Qw s pl) u w):=by
   rw [e,t5b _ _ q s hp];show (if pl∈CR q (rd l n).s then (Qd (rd l n).s (CT [] l) (Vs q s:Int) pl).countP (FX u w) else 0)=_;by_cases hpl:pl∈CR q (rd l n).s
   .obtain ⟨e1,c,v,ap,pts⟩:=ZC h w0 hs hj q s hpl;obtain ⟨a1,a2⟩:=j6l ap u w;rw [AG hpl,e1];by_cases g:q.inL (rd l n).s (Jz s pl) u w/\ ¬q.inL (CT [] l) (Qw s pl) u w
    .rw [Vv g];exact a2.2 ((pts u w).2 g)
    .rw [Xy g];have: ¬(FS q s (rd l n).s (CT [] l) pl).countP (FX u w)=1:=fun k=>g ((pts u w).1 (a2.1 k));omega
   .rw [Aw hpl,Xy (j3c h w0 hs hj q s hpl)]
  show (Cr l n++Xe l (n:Int)).countP _=_;rw [Bx,j3d q s hp n (by omega),one,w8c fun ⟨j,hj',k1⟩ k2=>by have:=w7j h w0 hs (by omega) hj q k1 k2;omega];refine Qt (and_congr_left fun _=>⟨?_,?_⟩)
  .rintro (⟨j,hj',k⟩ | k)
   .exact ⟨j,by omega,k⟩
   .exact ⟨n,by omega,k⟩
  .rintro ⟨j,hj',k⟩;rcases Nat.lt_succ_iff_lt_or_eq.1 hj' with g | rfl
   .exact .inl ⟨j,g,k⟩
   .exact .inr k
def FN (l:List Pa) (p:List Int) (q:Ax) (s:Bool) (n:Nat):Int:=sm p fun u=>sm p fun w=>sm p fun x=>((Qf ((∃j,j<n/\q.inL (rd l j).s (Jz s x) u w)/\ ¬q.inL (CT [] l) (Qw s x) u w):Nat):Int)
def F1 (l:List Pa) (p:List Int) (q:Ax) (s:Bool) (n:Nat):Int:=sm p fun u=>sm p fun w=>sm p fun x=>((Qf (q.inL (rd l n).s (Jz s x) u w/\ ¬q.inL (CT [] l) (Qw s x) u w):Nat):Int)
theorem t5t {p:List Int} (q:Ax) (s:Bool) {n:Nat} (hn:n<l.length):FN l p q s (n+1)=FN l p q s n+F1 l p q s n:=by
 unfold FN F1;rw [<-Eh];refine Yp fun u _=> ?_;rw [<-Eh];refine Yp fun w _=> ?_;rw [<-Eh];refine Yp fun x _=> ?_;rw [<-Int.natCast_add,w8c fun ⟨j,hj',k1⟩ k2=>by have:=w7j h w0 hs (by omega) hn q k1 k2;omega]
 congr 1
 refine Qt (and_congr_left fun _=>⟨?_,?_⟩)
 .rintro ⟨j,hj',k⟩;rcases Nat.lt_succ_iff_lt_or_eq.1 hj' with g | rfl
  .exact .inl ⟨j,g,k⟩
  .exact .inr k
 .rintro (⟨j,hj',k⟩ | k)
  .exact ⟨j,by omega,k⟩
  .exact ⟨n,by omega,k⟩
theorem u9v {p:List Int} (hp:Ru p) (q:Ax) (s:Bool) {n:Nat} (hn:n<l.length):Cg (sm (Kj (Qd (rd l n).s (CT [] l)) (Vs q s:Int) (CR q (rd l n).s)) a7) (F1 l p q s n):=by
 have L:=G3 h;have hS:=L.sck n hn;have e1:Cg (sm (Kj (Qd (rd l n).s (CT [] l)) (Vs q s:Int) (CR q (rd l n).s)) a7) (sm (CR q (rd l n).s) fun x=>A4 (FS q s (rd l n).s (CT [] l) x)):=by unfold Kj;rw [v0u];refine j8a fun x hx=> ?_;rw [v6r,(ZC h w0 hs hn q s hx).1];exact j8a fun t _=>by rw [MV];exact WV q s x t
 refine e1.trans ?_;have e2:(sm (CR q (rd l n).s) fun x=>A4 (FS q s (rd l n).s (CT [] l) x))=sm (CR q (rd l n).s) fun x=>sm p fun u=>sm p fun w=>((Qf (q.inL (rd l n).s (Jz s x) u w/\ ¬q.inL (CT [] l) (Qw s x) u w):Nat):Int):=Yp fun x hx=>by obtain ⟨_,c,v,_,pts⟩:=ZC h w0 hs hn q s hx;rw [SA hp.pts c v];exact Yp fun u _=>Yp fun w _=>by rw [Qt (pts u w)]
 rw [e2,hp.sum _ _ (NP q _) (fun x hx=>by have:=t0y hS q hx;omega) fun x hx=>by
  rw [Yp (g:=fun _=>0) fun u _=>by rw [Yp (g:=fun _=>0) fun w _=>by rw [Xy (j3c h w0 hs hn q s hx)];rfl,GI],GI]]
 have e3:(sm p fun x=>sm p fun u=>sm p fun w=>((Qf (q.inL (rd l n).s (Jz s x) u w/\ ¬q.inL (CT [] l) (Qw s x) u w):Nat):Int))=F1 l p q s n:=by unfold F1;rw [G7 p p];exact Yp fun u _=>G7 p p _
 rw [e3];exact Cg.refl _
theorem v7r {p:List Int} (hp:Ru p): ∀n,n<=l.length->Cg (sm (Cr l n) a7) (FN l p .x true n+FN l p .x false n+(FN l p .y true n+FN l p .y false n)+(FN l p .z true n+FN l p .z false n))
 | 0,_=>by
  have z: ∀q s,FN l p q s 0=0:=fun q s=>by unfold FN;rw [Yp (g:=fun _=>0) fun u _=>by rw [Yp (g:=fun _=>0) fun w _=>by rw [Yp (g:=fun _=>0) fun x _=>by rw [Xy fun k=>by obtain ⟨⟨j,hj,_⟩,_⟩:=k;omega];rfl,GI],GI],GI]
  rw [z,z,z,z,z,z];exact Cg.refl 0
 | n+1,hn=>by
  have hj:n<l.length:=by omega
  obtain ⟨_,e,_⟩:=ZI h (x:=(n:Int)) (by omega) (hs _ (by omega));have ih:=v7r hp n (by omega);have d:=fun q s=>u9v h w0 hs hp q s hj;show Cg (sm (Cr l n++Xe l (n:Int)) a7) _;rw [Ji,e];show Cg (sm (Cr l n) a7+sm (DB (Qd (rd l n).s (CT [] l)) (rd l n).s 6 0) a7) _;rw [SB];simp only [Ji,t5t h w0 hs _ _ hj];have k:=ih.add ((d .x true).add ((d .x false).add ((d .y true).add ((d .y false).add ((d .z true).add (d .z false))))));refine Cg.trans k ?_;unfold Cg;omega
theorem Ou :Cg (sm (Cr l l.length) a7) (Ed (CT [] l) (CT [] l).length):=by
 obtain ⟨p,hp⟩:=PQ;have e: ∀q s,FN l p q s l.length=FA p q s (CT [] l):=fun q s=>by unfold FN FA;refine Yp fun u _=>Yp fun w _=>Yp fun x _=> ?_;rw [Qt (and_congr_left fun _=>Lc h w0 hs q (Jz s x) u w)];cases s <;> rfl
 have a:=v7r h w0 hs hp l.length (Aq _);rw [e,e,e,e,e,e,Rw (Tf h w0 hs).1 hp] at a;exact a
theorem j3b : ∀n,n<=l.length-> ∀r∈Cr l n,FJ r=true/\0<=r.a
 | 0,_,r,hr=>by cases hr
 | n+1,hn,r,hr=>by
  have hj:n<l.length:=by omega
  have L:=G3 h;rcases AI.1 (show r∈Cr l n++Xe l (n:Int) from hr) with hr | hr
  .exact j3b n (by omega) r hr
  obtain ⟨_,e,_⟩:=ZI h (x:=(n:Int)) (by omega) (hs _ (by omega));rw [e] at hr;have hr:r∈DB (Qd (rd l n).s (CT [] l)) (rd l n).s 6 0:=hr;have one: ∀q s,r∈Kj (Qd (rd l n).s (CT [] l)) (Vs q s:Int) (CR q (rd l n).s)->FJ r=true/\0<=r.a:=fun q s hm=>by
   unfold Kj at hm;obtain ⟨x,hx,hm⟩:=AK.1 hm;obtain ⟨t,ht,rfl⟩:=AO.1 hm;obtain ⟨e1,_,v,_⟩:=ZC h w0 hs hj q s hx;rw [e1] at ht;rw [MV];refine ⟨j7c q s (t0y (L.sck n hj) q hx) (v t ht),?_⟩;cases q <;> cases s <;> (unfold qd;dsimp only;omega)
  rw [SB] at hr;simp only [AI] at hr;rcases hr with hr | hr | hr | hr | hr | hr
  .exact one .x true hr
  .exact one .x false hr
  .exact one .y true hr
  .exact one .y false hr
  .exact one .z true hr
  .exact one .z false hr
end
open Go.Proofs.Tryz
abbrev j5b :Nat:=34
def L4 (l:List Pa):Nat->Nat->Bool
 | 0,_=>true
 | k+1,n=>Kg l (n:Int) == 0&&L4 l k (n+1)
def U5 (l:List Pa):Bool:=L4 l l.length 0
def Yf (l:List Pa):List R7:=bif U5 l then Cr l l.length else []
def y7r (l:List Pa):Bool:=smP l
theorem w0x (l:List Pa): ∀n,(Cr l n).length <=3000*n
 | 0=>Aq _
 | n+1=>by have:=w0x l n;have h:=w7e l (n:Int);show (Cr l n++Xe l (n:Int)).length <=_;rw [AP];omega
theorem j2b {l:List Pa} (hs:smP l=true): ∀(k n:Nat),n+k=l.length-> ∃N,Zo (UC l) N (.to (.h0 (Cr l n) (n:Int)))=.ret (bif L4 l k n then [.dat (Cr l l.length).length (Zz (Cr l l.length)),.bool true] else [.nils,.bool false])
 | 0,n,h=>by
  refine ⟨1,?_⟩;obtain rfl:n=l.length:=by omega
  rw [Zx];simp (disch:=omega) only [UC,Yh,Aa];rfl
 | k+1,n,h=>by
  have hl:=NY hs;obtain ⟨N,hN⟩:=j2b hs k (n+1) (by omega);refine ⟨N+1,?_⟩;rw [Zx];unfold L4;simp (disch:=omega) only [UC,Zd,Yy,Ab,Zj,Zw,show ST l (n:Int)=true from hs];rcases Zs (Kg l (n:Int) == 0) with a | a
  .have rm:((Cr l n).length +(Xe l (n:Int)).length +1)*(56+1)<=CF:=by have:=w0x l n;have:=w7e l (n:Int);unfold CF;omega
   rw [a,show (Kg l (n:Int) != 0)=false by unfold bne;rw [a];rfl,Al rm,Al (show 0+(Cr l n).length <=(Cr l n).length by omega)];exact hN
  .rw [a,show (Kg l (n:Int) != 0)=true by unfold bne;rw [a];rfl,Ab,Zp];rfl
def QI :List B2->Option (B2×Bool)
 | [a0]=>match CS Pa a0 with
  | some (L0,g0,n0)=>some (.tup [.dat (Yf L0).length (Zz (Yf L0)),.bool (U5 L0)],CO Pa n0 g0&&(y7r L0))
  | _=>none
 | _=>none
theorem t2x {S:B4} (hS:Zv prog S):Zv prog (S.with j5b QI):=by
 refine Em hS (by kernel_rfl) fun args v h=> ?_;unfold QI at h;split at h
 .rename_i a0;split at h
  .rename_i L0 g0 n0 e0;simp only [Ad,Ac,Ae] at h;obtain ⟨rfl,ho0,hw⟩:=h;obtain ⟨N,hN⟩:=j2b hw L0.length 0 (Af _);refine ⟨_,_,(.cons (Yn e0 ho0) .nil),?_,u5b L0 N _ hN,3,?_⟩
   .unfold Yf U5;cases L4 L0 L0.length 0 with
    | true=>exact fun ρ u hu=>hu
    | false=>exact fun ρ u hu=>GW (.cons (G4 R7) (DL.refl _)) ρ u hu
   .cases L4 L0 L0.length 0 <;> rfl
  .cases h
 .cases h
def W7 :B4:=(((W3.with w8q QM).with Ty Iv).with j5b QI).with v9w QG
theorem DM :Zv prog W7:=t2v (t2x (u1p (t3b WW)))
inductive Ij where
 | h0 (v0:List Pa)
def P9 (l0:List Pa) (x1:Int) (x2:Int) (cD:Int) (cE:Int) (cF:Int) (x4:Int):Ij->CB
 | .h0 v0=>⟨⟨144,0,true⟩,none,(Zg prog 8 [1,1,1,1,1,0,0] 0),none,(Zy prog 5),⟨Yj [(0,(.dat v0.length (Zz v0))),(4,(.int .u8 x4)),(8,(.ptr 0 0)),(11,(.bool true))],Vk [⟨[(ii cD),(ii cE),(ii cF)],50,none⟩] 0,1,[],true⟩,[],.leaf⟩
def Mf :List (Option (List Nat)):=[some [0,4,8,11]]
def Mg :List (Option (List Nat)):=[]
def Tv (l0:List Pa) (x1:Int) (x2:Int) (cD:Int) (cE:Int) (cF:Int) (x4:Int):Ij->Xz Ij
 | .h0 v0=>(bif (SU (B3 v0)) then (bif ((Hr (B3 v0)) != 0) then (.ret [(.bool false)]) else (bif (decide ((v0.length:Int)>6)) then (.ret [(.bool false)]) else (bif (SW (B3 v0)) then (bif (y7r (B3 v0)) then (bif ((Jf (B3 v0)) != 0) then (bif ((Jf (B3 v0)) == 4) then (.ret [(.bool true)]) else (.ret [(.bool ((Jf (B3 v0)) == 0))])) else (bif (!(U5 (B3 v0))) then (bif ((Jf (B3 v0)) == 4) then (.ret [(.bool true)]) else (.ret [(.bool ((Jf (B3 v0)) == 0))])) else (bif (XK (B3 (Zi (B3 v0)))) then (bif (SQ (B3 (Yf (B3 v0)))) then (bif (Tk (B3 (Zi (B3 v0))) cD cE cF) then (bif (rh6V (B3 (Zi (B3 v0))) cD cE cF) then (bif (Tk (B3 (Zi (B3 v0))) (Ff cD cE cF (DD (wrap .i64 x4)).a (DD (wrap .i64 x4)).b (DD (wrap .i64 x4)).c).a (Ff cD cE cF (DD (wrap .i64 x4)).a (DD (wrap .i64 x4)).b (DD (wrap .i64 x4)).c).b (Ff cD cE cF (DD (wrap .i64 x4)).a (DD (wrap .i64 x4)).b (DD (wrap .i64 x4)).c).c) then (bif (!(rh6V (B3 (Zi (B3 v0))) (Ff cD cE cF (DD (wrap .i64 x4)).a (DD (wrap .i64 x4)).b (DD (wrap .i64 x4)).c).a (Ff cD cE cF (DD (wrap .i64 x4)).a (DD (wrap .i64 x4)).b (DD (wrap .i64 x4)).c).b (Ff cD cE cF (DD (wrap .i64 x4)).a (DD (wrap .i64 x4)).b (DD (wrap .i64 x4)).c).c)) then (bif ((Nq (B3 (Zi (B3 v0)))) == 0) then (bif ((Ef (B3 (Yf (B3 v0)))) == 4) then (bif (Qp (B3 (Yf (B3 v0))) cD cE cF (wrap .i64 x4)) then (.ret [(.bool ((Ge (B3 (Yf (B3 v0))) cD cE cF (wrap .i64 x4)) == 1))]) else .stuck) else (bif ((Ef (B3 (Yf (B3 v0)))) == 0) then (bif ((KF (B3 (Zi (B3 v0)))) == (Qm (B3 (Yf (B3 v0))))) then (bif (Qp (B3 (Yf (B3 v0))) cD cE cF (wrap .i64 x4)) then (.ret [(.bool ((Ge (B3 (Yf (B3 v0))) cD cE cF (wrap .i64 x4)) == 1))]) else .stuck) else (.ret [(.bool false)])) else (.ret [(.bool false)]))) else (.ret [(.bool false)])) else (bif ((Nq (B3 (Zi (B3 v0)))) == 0) then (bif ((Ef (B3 (Yf (B3 v0)))) == 4) then (bif (Qp (B3 (Yf (B3 v0))) cD cE cF (wrap .i64 x4)) then (.ret [(.bool ((Ge (B3 (Yf (B3 v0))) cD cE cF (wrap .i64 x4)) == 0))]) else .stuck) else (bif ((Ef (B3 (Yf (B3 v0)))) == 0) then (bif ((KF (B3 (Zi (B3 v0)))) == (Qm (B3 (Yf (B3 v0))))) then (bif (Qp (B3 (Yf (B3 v0))) cD cE cF (wrap .i64 x4)) then (.ret [(.bool ((Ge (B3 (Yf (B3 v0))) cD cE cF (wrap .i64 x4)) == 0))]) else .stuck) else (.ret [(.bool false)])) else (.ret [(.bool false)]))) else (.ret [(.bool false)]))) else .stuck) else (bif ((Nq (B3 (Zi (B3 v0)))) == 0) then (bif ((Ef (B3 (Yf (B3 v0)))) == 4) then (bif (Qp (B3 (Yf (B3 v0))) cD cE cF (wrap .i64 x4)) then (.ret [(.bool ((Ge (B3 (Yf (B3 v0))) cD cE cF (wrap .i64 x4)) == 0))]) else .stuck) else (bif ((Ef (B3 (Yf (B3 v0)))) == 0) then (bif ((KF (B3 (Zi (B3 v0)))) == (Qm (B3 (Yf (B3 v0))))) then (bif (Qp (B3 (Yf (B3 v0))) cD cE cF (wrap .i64 x4)) then (.ret [(.bool ((Ge (B3 (Yf (B3 v0))) cD cE cF (wrap .i64 x4)) == 0))]) else .stuck) else (.ret [(.bool false)])) else (.ret [(.bool false)]))) else (.ret [(.bool false)]))) else .stuck) else .stuck) else .stuck))) else .stuck) else .stuck))) else .stuck)
def YS (l0:List Pa) (x1:Int) (x2:Int) (cD:Int) (cE:Int) (cF:Int) (x4:Int):Xz Ij:=(bif (Z6 (B3 l0)) then (bif (!(OR (B3 l0))) then (.ret [(.bool true)]) else (bif (decide (x4>5)) then (.ret [(.bool true)]) else (bif (!(EG cD cE cF (-100))) then (.ret [(.bool true)]) else (bif (decide ((Wf (Wf cD cE) cF)>100)) then (.ret [(.bool true)]) else (bif (XI (B3 l0) x1 x2) then (bif ((Ka (B3 l0) x1 x2) == 0) then (.to (.h0 (Eg (B3 l0) x1 x2))) else (.to (.h0 l0))) else .stuck))))) else .stuck)
theorem v3e (l0:List Pa) (x1:Int) (x2:Int) (cD:Int) (cE:Int) (cF:Int) (x4:Int): ∀s,Xw prog (Zy prog 8) (P9 l0 x1 x2 cD cE cF x4) (P9 l0 x1 x2 cD cE cF x4 s) (Tv l0 x1 x2 cD cE cF x4 s)
 | .h0 v0=>(lo fun bN=>let o:=pp (pp (xr v0) (xw bN)) nn;(lb (fun k0=>(lr 144 8 [1,1,1,1,1,0,1,0,0] 1 5 [(10,(.bool false))] (sl DM 15 [] (a8 [10]) a6 (CA 4 []) (tt k0 o)))) (fun k0=>(lb (fun k1=>(lr 144 8 [1,1,1,1,1,0,1,0,0] 1 5 [(10,(.bool false))] (sl DM 15 [] (a8 [10]) a6 (bl 4 8) (tt k1 (tt k0 o))))) (fun k1=>(lo fun bU=>(lo fun dA=>let a:=pp (pp (xr v0) (xw dA)) (pp (pp (xr v0) (xw bU)) (tt k1 (tt k0 o)));let C:=Jf (B3 v0);(lb (fun k2=>(lb (fun k3=>(lr 144 8 [1,1,1,1,1,1,1,1,0,1,0,0] 1 5 [(10,(.bool true))] (sl DM 56 [] (a8 [10]) a6 (bl 13 8176) (tt k3 (tt k2 a))))) (fun k3=>(lr 144 8 [1,1,1,1,1,1,1,1,0,1,0,0] 1 5 [(10,(.bool (C == 0)))] (sl DM 56 [] (a8 [10]) a6 (bl 13 5104) (tt k3 (tt k2 a))))))) (fun k2=>(lb (fun k3=>let B:=tt k3 (tt k2 a);(lb (fun k4=>(lr 144 8 [1,1,1,1,1,1,1,1,0,1,0,0] 1 5 [(10,(.bool true))] (sl DM 56 [] (a8 [10]) a6 (bl 13 8128) (tt k4 B)))) (fun k4=>(lr 144 8 [1,1,1,1,1,1,1,1,0,1,0,0] 1 5 [(10,(.bool (C == 0)))] (sl DM 56 [] (a8 [10]) a6 (bl 13 5056) (tt k4 B)))))) (fun k3=>(lo fun bZ=>(lo fun cQ=>(lo fun dK=>let b:=tt k3 (tt k2 a);let c:=Ge (B3 (Yf (B3 v0))) cD cE cF (wr x4);(lb (fun k4=>(lo fun cJ=>(lb (fun k5=>(lb (fun k6=>(lb (fun k7=>(lo fun o0=>let m:=xI R6 (Zi (B3 v0)).length (Zz (Zi (B3 v0)));let z:=xI R7 (Yf (B3 v0)).length (Zz (Yf (B3 v0)));(lr 144 3 [1,1,1,1,0] 1 5 [(10,(.bool (c == 1)))] (sl DM 106 [] (a8 [10]) a6 (bl 33 8589934464) (pp (pp z (xw o0)) (tt k7 (tt k6 (tt k5 (pp (pp m (xw cJ)) (tt k4 (pp (pp m (xw dK)) (pp (pp z (xw cQ)) (pp (pp m (xw bZ)) b))))))))))))) (fun k7=>(lb (fun k8=>(lb (fun k9=>(lo fun o0=>let n:=xI R6 (Zi (B3 v0)).length (Zz (Zi (B3 v0)));let u:=xI R7 (Yf (B3 v0)).length (Zz (Yf (B3 v0)));(lr 144 3 [1,1,1,1,0] 1 5 [(10,(.bool (c == 1)))] (sl DM 106 [] (a8 [10]) a6 (bl 36 68570578816) (pp (pp u (xw o0)) (tt k9 (tt k8 (tt k7 (tt k6 (tt k5 (pp (pp n (xw cJ)) (tt k4 (pp (pp n (xw dK)) (pp (pp u (xw cQ)) (pp (pp n (xw bZ)) b))))))))))))))) (fun k9=>let d:=xI R6 (Zi (B3 v0)).length (Zz (Zi (B3 v0)));(lr 144 3 [1,1,1,1,0] 1 5 [(10,(.bool false))] (sl DM 106 [] (a8 [10]) a6 (bl 36 387972992) (tt k9 (tt k8 (tt k7 (tt k6 (tt k5 (pp (pp d (xw cJ)) (tt k4 (pp (pp d (xw dK)) (pp (pp (xI R7 (Yf (B3 v0)).length (Zz (Yf (B3 v0)))) (xw cQ)) (pp (pp d (xw bZ)) b))))))))))))))) (fun k8=>let e:=xI R6 (Zi (B3 v0)).length (Zz (Zi (B3 v0)));(lr 144 3 [1,1,1,1,0] 1 5 [(10,(.bool false))] (sl DM 106 [] (a8 [10]) a6 (bl 36 270532480) (tt k8 (tt k7 (tt k6 (tt k5 (pp (pp e (xw cJ)) (tt k4 (pp (pp e (xw dK)) (pp (pp (xI R7 (Yf (B3 v0)).length (Zz (Yf (B3 v0)))) (xw cQ)) (pp (pp e (xw bZ)) b)))))))))))))))) (fun k6=>let f:=xI R6 (Zi (B3 v0)).length (Zz (Zi (B3 v0)));(lr 144 3 [1,1,1,1,0] 1 5 [(10,(.bool false))] (sl DM 106 [] (a8 [10]) a6 (bl 29 262016) (tt k6 (tt k5 (pp (pp f (xw cJ)) (tt k4 (pp (pp f (xw dK)) (pp (pp (xI R7 (Yf (B3 v0)).length (Zz (Yf (B3 v0)))) (xw cQ)) (pp (pp f (xw bZ)) b)))))))))))) (fun k5=>(lb (fun k6=>(lb (fun k7=>(lo fun o0=>let g:=xI R6 (Zi (B3 v0)).length (Zz (Zi (B3 v0)));let w:=xI R7 (Yf (B3 v0)).length (Zz (Yf (B3 v0)));(lr 144 3 [1,1,1,1,0] 1 5 [(10,(.bool (c == 0)))] (sl DM 104 [] (a8 [10]) a6 (bl 33 8589901696) (pp (pp w (xw o0)) (tt k7 (tt k6 (tt k5 (pp (pp g (xw cJ)) (tt k4 (pp (pp g (xw dK)) (pp (pp w (xw cQ)) (pp (pp g (xw bZ)) b))))))))))))) (fun k7=>(lb (fun k8=>(lb (fun k9=>(lo fun o0=>let h:=xI R6 (Zi (B3 v0)).length (Zz (Zi (B3 v0)));let y:=xI R7 (Yf (B3 v0)).length (Zz (Yf (B3 v0)));(lr 144 3 [1,1,1,1,0] 1 5 [(10,(.bool (c == 0)))] (sl DM 104 [] (a8 [10]) a6 (bl 36 68570546048) (pp (pp y (xw o0)) (tt k9 (tt k8 (tt k7 (tt k6 (tt k5 (pp (pp h (xw cJ)) (tt k4 (pp (pp h (xw dK)) (pp (pp y (xw cQ)) (pp (pp h (xw bZ)) b))))))))))))))) (fun k9=>let i:=xI R6 (Zi (B3 v0)).length (Zz (Zi (B3 v0)));(lr 144 3 [1,1,1,1,0] 1 5 [(10,(.bool false))] (sl DM 104 [] (a8 [10]) a6 (bl 36 387940224) (tt k9 (tt k8 (tt k7 (tt k6 (tt k5 (pp (pp i (xw cJ)) (tt k4 (pp (pp i (xw dK)) (pp (pp (xI R7 (Yf (B3 v0)).length (Zz (Yf (B3 v0)))) (xw cQ)) (pp (pp i (xw bZ)) b))))))))))))))) (fun k8=>let j:=xI R6 (Zi (B3 v0)).length (Zz (Zi (B3 v0)));(lr 144 3 [1,1,1,1,0] 1 5 [(10,(.bool false))] (sl DM 104 [] (a8 [10]) a6 (bl 36 270499712) (tt k8 (tt k7 (tt k6 (tt k5 (pp (pp j (xw cJ)) (tt k4 (pp (pp j (xw dK)) (pp (pp (xI R7 (Yf (B3 v0)).length (Zz (Yf (B3 v0)))) (xw cQ)) (pp (pp j (xw bZ)) b)))))))))))))))) (fun k6=>let l:=xI R6 (Zi (B3 v0)).length (Zz (Zi (B3 v0)));(lr 144 3 [1,1,1,1,0] 1 5 [(10,(.bool false))] (sl DM 104 [] (a8 [10]) a6 (bl 29 229248) (tt k6 (tt k5 (pp (pp l (xw cJ)) (tt k4 (pp (pp l (xw dK)) (pp (pp (xI R7 (Yf (B3 v0)).length (Zz (Yf (B3 v0)))) (xw cQ)) (pp (pp l (xw bZ)) b))))))))))))))) (fun k4=>(lb (fun k5=>(lb (fun k6=>(lo fun o0=>let t:=xI R6 (Zi (B3 v0)).length (Zz (Zi (B3 v0)));let A:=xI R7 (Yf (B3 v0)).length (Zz (Yf (B3 v0)));(lr 144 3 [1,1,1,1,0] 1 5 [(10,(.bool (c == 0)))] (sl DM 104 [] (a8 [10]) a6 (bl 33 8589869056) (pp (pp A (xw o0)) (tt k6 (tt k5 (tt k4 (pp (pp t (xw dK)) (pp (pp A (xw cQ)) (pp (pp t (xw bZ)) b))))))))))) (fun k6=>(lb (fun k7=>(lb (fun k8=>(lo fun o0=>let p:=xI R6 (Zi (B3 v0)).length (Zz (Zi (B3 v0)));let v:=xI R7 (Yf (B3 v0)).length (Zz (Yf (B3 v0)));(lr 144 3 [1,1,1,1,0] 1 5 [(10,(.bool (c == 0)))] (sl DM 104 [] (a8 [10]) a6 (bl 36 68570513408) (pp (pp v (xw o0)) (tt k8 (tt k7 (tt k6 (tt k5 (tt k4 (pp (pp p (xw dK)) (pp (pp v (xw cQ)) (pp (pp p (xw bZ)) b))))))))))))) (fun k8=>let q:=xI R6 (Zi (B3 v0)).length (Zz (Zi (B3 v0)));(lr 144 3 [1,1,1,1,0] 1 5 [(10,(.bool false))] (sl DM 104 [] (a8 [10]) a6 (bl 36 387907584) (tt k8 (tt k7 (tt k6 (tt k5 (tt k4 (pp (pp q (xw dK)) (pp (pp (xI R7 (Yf (B3 v0)).length (Zz (Yf (B3 v0)))) (xw cQ)) (pp (pp q (xw bZ)) b))))))))))))) (fun k7=>let r:=xI R6 (Zi (B3 v0)).length (Zz (Zi (B3 v0)));(lr 144 3 [1,1,1,1,0] 1 5 [(10,(.bool false))] (sl DM 104 [] (a8 [10]) a6 (bl 36 270467072) (tt k7 (tt k6 (tt k5 (tt k4 (pp (pp r (xw dK)) (pp (pp (xI R7 (Yf (B3 v0)).length (Zz (Yf (B3 v0)))) (xw cQ)) (pp (pp r (xw bZ)) b)))))))))))))) (fun k5=>let s:=xI R6 (Zi (B3 v0)).length (Zz (Zi (B3 v0)));(lr 144 3 [1,1,1,1,0] 1 5 [(10,(.bool false))] (sl DM 104 [] (a8 [10]) a6 (bl 29 196608) (tt k5 (tt k4 (pp (pp s (xw dK)) (pp (pp (xI R7 (Yf (B3 v0)).length (Zz (Yf (B3 v0)))) (xw cQ)) (pp (pp s (xw bZ)) b)))))))))))))))))))))))))
theorem w3n (l0:List Pa) (x1:Int) (x2:Int) (cD:Int) (cE:Int) (cF:Int) (x4:Int):Xw prog (Zy prog 8) (P9 l0 x1 x2 cD cE cF x4) (Zm prog 8 [(.dat l0.length (Zz l0)),(.int .i64 x1),(.int .i64 x2),(.agg [(.int .i64 cD),(.int .i64 cE),(.int .i64 cF)]),(.int .u8 x4)] true []) (YS l0 x1 x2 cD cE cF x4):=(lo fun bN=>let c:=pp (pp (xr l0) (xw bN)) nn;(lb (fun k0=>(lr 144 8 [1,1,0,1,0,0] 1 5 [(10,(.bool true))] (sl DM 46 [] (a8 [10]) a6 (CA 16 []) (tt k0 c)))) (fun k0=>let a:=tt k0 c;(lb (fun k1=>(lr 144 8 [1,1,0,1,0,0] 1 5 [(10,(.bool true))] (sl DM 46 [] (a8 [10]) a6 (bl 16 65532) (tt k1 a)))) (fun k1=>(lb (fun k2=>(lr 144 8 [1,1,0,1,0,0] 1 5 [(10,(.bool true))] (sl DM 46 [] (a8 [10]) a6 (bl 16 65504) (tt k2 (tt k1 a))))) (fun k2=>let d:=tt k2 (tt k1 a);(lb (fun k3=>(lr 144 8 [1,1,0,1,0,0] 1 5 [(10,(.bool true))] (sl DM 46 [] (a8 [10]) a6 (bl 16 57344) (tt k3 d)))) (fun k3=>(lo fun bZ=>let b:=pp (pp (xr l0) (xw bZ)) (tt k3 d);(lb (fun k4=>(sl DM 67 [] ⟨[0],[],Mf,Mg⟩ a6 (bl 17 65536) (tt k4 b))) (fun k4=>(sl DM 64 [] ⟨[0],[],Mf,Mg⟩ a6 (bl 17 0) (tt k4 b))))))))))))))
theorem lcl_ends (l0:List Pa) (x1:Int) (x2:Int) (cD:Int) (cE:Int) (cF:Int) (x4:Int) (n:Nat) (vs:List B2) (h:Zo (Tv l0 x1 x2 cD cE cF x4) n (YS l0 x1 x2 cD cE cF x4)=.ret vs):Uj prog (Zy prog 8) (Zm prog 8 [(.dat l0.length (Zz l0)),(.int .i64 x1),(.int .i64 x2),(.agg [(.int .i64 cD),(.int .i64 cE),(.int .i64 cF)]),(.int .u8 x4)] true []) vs:=by have:=Zb (v3e l0 x1 x2 cD cE cF x4) n _ (w3n l0 x1 x2 cD cE cF x4);rwa [h] at this
theorem u9f {l:List Pa} (h:OR l=true):l.length<=6/\Qe l=0/\smP l=true:=by
 unfold OR at h;rcases Zs (decide ((l.length:Int)<=6)) with a | a
 .rw [a,Ab] at h;have h6:l.length<=6:=by have:=Az a;omega
  rcases Zs (Hq l) with b | b
  .rw [b,Ab] at h;exact ⟨h6,by rw [R8];exact eq_of_beq h,j3n b h6⟩
  .rw [b] at h;cases h
 .rw [a] at h;cases h
theorem v7f {l:List Pa}: ∀k n,L4 l k n=true-> ∀j,n<=j->j<n+k->Kg l (j:Int)=0
 | 0,n,_,j,h1,h2=>by omega
 | k+1,n,h,j,h1,h2=>by
  unfold L4 at h;obtain ⟨a,b⟩:=BH.1 h;rcases A1 h1 with rfl | h1
  .exact eq_of_beq a
  .exact v7f k (n+1) b j h1 (by omega)
theorem Oi {l:List Pa} (h:Qe l=0):smP l=true:=by have L:=G3 h;unfold smP;rw [Ae,Bb,At];refine ⟨by have:=L.len;omega,fun x hx=> ?_⟩;obtain ⟨m,hm,rfl⟩:=BM.1 hx;have:=(UB h hm).2;rw [Yo hm] at this;exact Al (by omega)
theorem j5z {l0 l:List Pa} {x1 x2 a b c d:Int} (h:Qe l=0) (h6:l.length<=6) (hd:0<=d/\d<=5) (ha: -100<=a/\a<=100) (hb: -100<=b/\b<=100) (hcc: -100<=c/\c<=100):
  ∃N,Zo (Tv l0 x1 x2 a b c d) N (.to (.h0 l))=.ret [.bool true]:=by
 have hs:=Oi h;have L:=G3 h;have wg:=v5n l [] w1c fun x hx=>by obtain ⟨i,hi,rfl⟩:=AJ hx;rw [<-Yo hi];exact L.sck i hi
 have sw:Jf l=FE [] l:=by unfold Jf;rw [h];rfl
 refine ⟨1,?_⟩;rw [Zx];simp only [Tv,Zd,show SU l=true from j1m hs,show Hr l=0 from h,show SW l=true from hs,show y7r l=true from hs,Av (show ¬(l.length:Int)>6 by omega),sw,Ab,Aa,show ((0:Int) != 0)=false from rfl,show∀A,XK A=true from fun _=>rfl];rcases wg.1.symm with w4 | w0
 .rw [w4];rfl
 rw [w0];simp only [Ab,Aa,show ((0:Int) != 0)=false from rfl,show ((0:Int) == 4)=false from rfl,show ((0:Int) == 0)=true from rfl];rcases (Zs (U5 l)).symm with k | k
 .rw [k];rfl
 have hk: ∀x:Int,0<=x/\x<(l.length:Int)->Kg l x=0:=fun x hx=>by have:=v7f l.length 0 k x.toNat (AA _) (by omega);rwa [show ((x.toNat:Nat):Int)=x by omega] at this
 obtain ⟨a1,a2⟩:=Tf h w0 hk;have eA:Zi l=CT [] l:=by unfold Zi;rw [sw,w0];rfl
 have eQ:Yf l=Cr l l.length:=by unfold Yf;rw [k];rfl
 have val:=j3b h w0 hk l.length (Aq _);have ql:=w0x l l.length;have al:=(Xs a1).1;have o1:SQ (Cr l l.length)=true:=At.2 fun r hr=>by obtain ⟨v,v0⟩:=val r hr;have:=j0s v;simp only [Ae,Ar];omega
 have o2: ∀x y z,Tk (CT [] l) x y z=true:=fun _ _ _=>Al (by omega);have hw:wrap .i64 d=d:=Zj (by omega);have o3:Qp (Cr l l.length) a b c d=true:=Al (by omega);obtain ⟨Q,s,hQ⟩:=j6h (show Int.toNat d<6 by omega);have hdq:d=(Vs Q s:Int):=by omega
 obtain ⟨pl,u,w,ea,eb,ec,hp,hnx⟩:=RT Q s ha hb hcc;rw [<-hdq] at hnx;have cov:=j3d h w0 hk Q s (u:=u) (w:=w) hp l.length (Aq _);rw [<-ea,<-eb,<-ec,<-hdq,Qt (and_congr_left fun _=>Lc h w0 hk Q (Jz s pl) u w)] at cov;have m1:rh6V (CT [] l) a b c=true↔Q.inL (CT [] l) (Jz s pl) u w:=by rw [j2o,Q.inL_S,ea,eb,ec]
 have m2:rh6V (CT [] l) (Q.to (Qw s pl) u w).1 (Q.to (Qw s pl) u w).2.1 (Q.to (Qw s pl) u w).2.2=true↔Q.inL (CT [] l) (Qw s pl) u w:=by rw [j2o,Q.inL_S]
 have rc:Ge (Cr l l.length) a b c d=((Qf (Q.inL (CT [] l) (Jz s pl) u w/\ ¬Q.inL (CT [] l) (Qw s pl) u w):Nat):Int):=by unfold Ge;rw [cov]
 have s1:Nq (CT [] l)=0:=a1;have mz:Ef (Cr l l.length)=4\/(Ef (Cr l l.length)=0/\KF (CT [] l)=Qm (Cr l l.length)):=by
  unfold Qm Ef KF FI;by_cases g:3000<(Cr l l.length).length
  .rw [Al g];exact .inl rfl
  .rw [Av g,At.2 fun r hr=>(val r hr).1,a1];exact .inr ⟨rfl,Cg.eq (Ou h w0 hk).symm⟩
 rw [k];simp only [eA,eQ,hw,hnx,o1,o2,o3,s1,Ab,Aa,Ay,show ((0:Int) == 0)=true from rfl];rw [rc];rcases Zs (rh6V (CT [] l) a b c) with t1 | t1
 .rcases Zs (rh6V (CT [] l) (Q.to (Qw s pl) u w).1 (Q.to (Qw s pl) u w).2.1 (Q.to (Qw s pl) u w).2.2) with t2 | t2
  .rw [t1,t2,Xy fun z=>z.2 (m2.1 t2)];rcases mz with z | ⟨z,z2⟩
   .rw [z];rfl
   .rw [z,z2,show (Qm (Cr l l.length) == Qm (Cr l l.length))=true from beq_self_eq_true _];rfl
  .rw [t1,t2,Vv ⟨m1.1 t1,fun z=>by rw [m2.2 z] at t2;cases t2⟩];rcases mz with z | ⟨z,z2⟩
   .rw [z];rfl
   .rw [z,z2,show (Qm (Cr l l.length) == Qm (Cr l l.length))=true from beq_self_eq_true _];rfl
 .rw [t1,Xy fun z=>by rw [m1.2 z.1] at t1;cases t1];rcases mz with z | ⟨z,z2⟩
  .rw [z];rfl
  .rw [z,z2,show (Qm (Cr l l.length) == Qm (Cr l l.length))=true from beq_self_eq_true _];rfl
theorem lcl_run (l:List Pa) (x1 x2 a b c d:Int) (hd:0<=d/\d<256): ∃N,Zo (Tv l x1 x2 a b c d) N (YS l x1 x2 a b c d)=.ret [.bool true]:=by
 unfold YS;simp only [Zd,show Z6 l=true from rfl,Ab];rcases (Zs (OR l)).symm with q | q
 .exact ⟨0,by rw [q];rfl⟩
 rw [q];by_cases g6:d>5
 .exact ⟨0,by rw [Al g6];rfl⟩
 rw [Av g6];rcases (Zs (EG a b c (-100))).symm with g7 | g7
 .exact ⟨0,by rw [g7];rfl⟩
 rw [g7];by_cases g8:Wf (Wf a b) c>100
 .exact ⟨0,by rw [Al g8];rfl⟩
 rw [Av g8];simp only [NL] at g8;simp only [EG,Ae,Ar] at g7;obtain ⟨h6,hc,hs⟩:=u9f q;simp only [Ay,Ab,Aa,show XI l x1 x2=true from j1m hs];by_cases h0:Ka l x1 x2=0
 .obtain ⟨_,e0,k0,_⟩:=u5k hc h0;rw [show (Ka l x1 x2 == 0)=true by rw [h0];rfl,Ab];exact j5z k0 (by rw [e0,BF];exact h6) (by omega) (by omega) (by omega) (by omega)
 .rw [show (Ka l x1 x2 == 0)=false from beq_eq_false_iff_ne.2 h0,Aa];exact j5z hc h6 (by omega) (by omega) (by omega) (by omega)
open Go.ChangeShapes Go.WideShapes Go.Deep
section
variable {P:Program}
def VF (P:Program) (e:TypeId):List (TypeId×Nat):=match P.underlying e with
 | some (.struct fs)=>fs.toList.map fun f=>(f.type,f.offset)
 | _=>[]
def RQ {H:Type}:DataW H->List (DataW H)
 | .slice es _=>es
 | _=>[]
def TO {H:Type} (n:Nat) (q:DataW H):Prop:=n=(RQ q).length /\ ∀y∈RQ q,∃z r,y=.agg (z::r)
theorem w9h {e t0 t1:TypeId} {a b:Nat} (h:VF P e=[(t0,a),(t1,b)]): ∃fs:Array Field,P.underlying e=some (.struct fs)/\fs.size=2/\(∃f0,fs[0]? =some f0/\f0.type=t0/\f0.offset=a)/\ ∃f1,fs[1]? =some f1/\f1.type=t1/\f1.offset=b:=by
 unfold VF at h;split at h
 .rename_i fs hu;refine ⟨fs,hu,?_⟩;obtain ⟨l⟩:=fs;simp only at h
  match l,h with
  | [f0,f1],h=>simp only [AT,Bi,List.cons.injEq,Ac,Bh] at h;exact ⟨rfl,⟨f0,rfl,h.1.1,h.1.2⟩,f1,rfl,h.2.1,h.2.2⟩
 .cases h
abbrev WA :List IntKind:=[.i64,.i64,.i64,.i64,.i64,.i64]
variable {HH:Type} {enc:TypeId×Value->HH} {w:World} {base:Nat} {held:Bool}
theorem v2p {t e f0 f1:TypeId} {o0 o1:Nat} {ks:List IntKind} {cs:List Value} {x:DataW HH×List MemPlace} {fuel:Nat} (ht:P.underlying t=some (.slice e)) (hk:Ng P 30 e=some ks) (hks:1<=ks.length) (hfl:VF P e=[(f0,o0),(f1,o1)])
  (h:DataW.trod enc P w base (fun _=>true) held fuel t cs=some x):
  ∃(v:Value) (n:Nat) (c:Nat->Nat->Int),cs=[v]/\VRel (rhoOf fun k=>w.heap[k]?) (.dat n (fun i=>Hi ks (c i))) v/\TO n x.1:=by
 rcases open_slice ht h with ⟨h0,rfl⟩ | ⟨a,len,cap,m,fl,D,Pl,hcs,hb,hl,eC,hm,rfl,hi⟩
 .exact ⟨_,0,fun _ _=>0,h0,.datn _,rfl,fun y hy=>by cases hy⟩
 .simp only [if_true] at hm;subst hm;have hL:TO len (DataW.slice ((List.range len).map D) ((List.range (m - len)).map fun j=>D (len+j))):=by
   refine ⟨by simp [RQ],fun y hy=> ?_⟩;obtain ⟨i,hi2,rfl⟩:=AO.1 hy;have hil:=A6.1 hi2;obtain ⟨cs',_,ht'⟩:=hi i (by omega);obtain ⟨fs,hu,hsz,_⟩:=w9h hfl;obtain ⟨xs,_,_,hx,_,hxl,_⟩:=DataW.trod_struct hu ht';have hx:=(Prod.mk.inj hx).1
   match xs,hxl with
   | [],hxl=>simp at hxl;omega
   | z::r,_=>exact ⟨_,_,hx⟩
  by_cases hc0:m=0
  .subst hc0;obtain rfl:len=0:=by omega
   exact ⟨_,0,fun _ _=>0,hcs,.datz _ _ _,hL⟩
  .have hspot:a.spot=none:=by
    obtain ⟨cs',hc',ht'⟩:=hi 0 (by omega);have I:=XW 30 e ks hk _ _ _ ht';obtain ⟨_,dV,fD⟩:=World.cells?_some hc';have h1:=fD 0 (by rw [<-dV,I.length];exact hks);obtain ⟨blk,off,spot⟩:=a;have h2:cs'[0]? =some (cs'[0]'(by rw [I.length];exact hks)):=(by simp);rw [h2] at h1
    simpa [Addr.add] using World.cell?_spot h1
   obtain ⟨blk,off,spot⟩:=a;simp only at hspot;subst hspot;obtain ⟨c,h1,h2⟩:=u9w (w:=w) hk hl hl hi;exact ⟨_,len,c,hcs,h1,hL⟩
theorem open_land {t e t0 t1 b f0 f1:TypeId} {o0 o1:Nat} {v:Value} {d:DataW HH} {p:List MemPlace} (ht:P.underlying t=some (.slice e)) (hs:VF P e=[(t0,0),(t1,6)]) (ce:P.cellsOf e=7) (c0:P.cellsOf t0=6) (c1:P.cellsOf t1=1)
  (k0:Ng P 30 t0=some WA) (u1:P.underlying t1=some (.slice b)) (kb:Ng P 30 b=some WA) (fb:VF P b=[(f0,o0),(f1,o1)]) {b0:Nat} (hv:Value.okWide P w .any b0 t v) (h:DataW.Trod enc P w base (fun _=>true) held t v d p):
  ∃X:List Pa,VRel (rhoOf fun k=>w.heap[k]?) (.dat X.length (Zz X)) v/\ ∀x∈X,∃es sp ps q,d=.slice es sp/\DataW.agg ps∈es/\q∈ps/\TO x.s.length q:=by
 obtain ⟨fuel,h⟩:=h;have hvc:v.cells.toList=[v]:=by
  unfold Value.okWide at hv;rw [ht] at hv;unfold Cell.okWide at hv;rw [ht] at hv;cases v <;> first | rfl | (simp [Cell.ok,ht] at hv)
 rcases open_slice ht h with ⟨h0,_⟩ | ⟨a,len,cap,m,fl,D,Pl,hcs,hb,hl,eC,hm,hx,hi⟩
 .rw [hvc] at h0;obtain rfl:v=.slice none 0 0:=by simpa using h0
  exact ⟨[],.datn _,fun x hx=>by cases hx⟩
 .rw [hvc] at hcs;obtain rfl:v=.slice (some a) len cap:=by simpa using hcs
  have hspot:a.spot=none:=by unfold Value.okWide at hv;rw [ht] at hv;unfold Cell.okWide at hv;rw [ht] at hv;simp only [Cell.ok,ht] at hv;exact hv.2.2.2.1
  obtain ⟨blk,off,spot⟩:=a;simp only at hspot;subst hspot;simp only [if_true] at hm;subst hm;obtain ⟨fs,hu,hsz,⟨f0,hf0,rfl,o0⟩,f1,hf1,rfl,o1⟩:=w9h hs;have key: ∀i,i<len-> ∃q:Pa×(Nat->Value),(∀j,j<7->w.cell? ⟨blk,off+(i*7+j),none⟩=some (q.2 j))/\(∀j (hj:j<7),VRel (rhoOf fun k=>w.heap[k]?) ((Xc.cells q.1)[j]'hj) (q.2 j))/\ ∃ps z,D i=DataW.agg ps/\z∈ps/\TO q.1.s.length z:=by
   intro i hil;obtain ⟨cs',hc',ht'⟩:=hi i (by omega);obtain ⟨xs,n,_,hx',hcl,hxl,hf⟩:=DataW.trod_struct hu ht';have dV:cs'.length=7:=hcl.trans ce;have fD:=(World.cells?_some hc').2.2;have g0:=hf 0 f0 hf0;have g1:=hf 1 f1 hf1;rw [o0,c0,AS] at g0;rw [o1,c1] at g1;have hx0:0<xs.length:=by omega
   have hx1:1<xs.length:=by omega
   rw [Au hx0] at g0;rw [Au hx1] at g1;obtain ⟨ns,n1,n2,_⟩:=XW 30 _ _ k0 _ _ _ g0;obtain ⟨u,n',c,e1,e2,e3⟩:=v2p u1 kb (by decide) fb g1
   match ns,n1 with
   | [m0,m1,m2,m3,m4,m5],_=>
    have ecs:cs'=[.int .i64 m0,.int .i64 m1,.int .i64 m2,.int .i64 m3,.int .i64 m4,.int .i64 m5,u]:=by
     rw [<-List.take_append_drop 6 cs',n2];have:cs'.drop 6=[u]:=by rw [<-e1,A2 (by rw [List.length_drop];omega)]
     rw [this];rfl
    refine ⟨(⟨m0,m1,m2,m3,m4,m5,Cn R6 n' fun i=>Hi WA (c i)⟩,fun j=>cs'.getD j undef),fun j hj=> ?_,fun j hj=> ?_,xs.map (·.1),xs[1].1,(Prod.mk.inj hx').1,AO.2 ⟨xs[1],AV hx1,rfl⟩,?_⟩
    .have:=fD j (by omega);rw [ce] at this;simp only [Xo] at this;rw [show off+(i*7+j)=off+i*7+j by omega,this];show cs'[j]? =some (cs'.getD j undef);rw [List.getD_eq_getElem?_getD,Au (by omega)];rfl
    .have last:=(Yn (α:=R6) (v:=.dat n' fun i=>Hi WA (c i)) rfl (Xj fun i _=>rfl)).sound e2;rw [ecs]
     match j,hj with
     | 0,_=>exact .int _ _
     | 1,_=>exact .int _ _
     | 2,_=>exact .int _ _
     | 3,_=>exact .int _ _
     | 4,_=>exact .int _ _
     | 5,_=>exact .int _ _
     | 6,_=>exact last
    .have:(Cn R6 n' fun i=>Hi WA (c i)).length =n':=(by simp [Cn]);show TO (Cn R6 n' _).length _;rw [this];exact e3
  let Q:Nat->Pa×(Nat->Value):=fun i=>if hil:i<len then (key i hil).choose else (Xc.d,fun _=>undef)
  have hQ: ∀i,i<len->(∀j,j<7->w.cell? ⟨blk,off+(i*7+j),none⟩=some ((Q i).2 j))/\(∀j (hj:j<7),VRel (rhoOf fun k=>w.heap[k]?) ((Xc.cells (Q i).1)[j]'hj) ((Q i).2 j))/\ ∃ps z,D i=DataW.agg ps/\z∈ps/\TO (Q i).1.s.length z:=by intro i hil;have:=(key i hil).choose_spec;simp only [Q,hil,dif_pos];exact this
  have hXl:((List.range len).map fun i=>(Q i).1).length =len:=by simp
  have gE: ∀i,i<len->Zz ((List.range len).map fun i=>(Q i).1) i=Xc.cells (Q i).1:=fun i hi=>by show Xc.cells (rd _ i)=_;rw [Yo (by rw [hXl];exact hi)];simp only [List.getElem_map,List.getElem_range]
  refine ⟨(List.range len).map fun i=>(Q i).1,?_,fun x hx2=> ?_⟩
  .rw [hXl];refine .dat len _ blk off 7 m (fun i j=>(Q i).2 j) hl (fun i hil=>by rw [gE i hil];rfl) (fun i j hil hj=> ?_) (fun i j hil hj=> ?_)
   .have hj7:j<7:=by rw [gE i hil] at hj;exact hj
    have:=(hQ i hil).2.1 j hj7;simp only [gE i hil];exact this
   .have e2:=(hQ i hil).1 j hj;unfold World.cell? at e2;split at e2
    .rename_i cl el fz hb2;simp only [Option.isSome_none,Bool.false_eq_true,if_false] at e2;exact ⟨cl,el,fz,hb2,e2⟩
    .cases e2
  .obtain ⟨i,hi2,rfl⟩:=AO.1 hx2;have hil:=A6.1 hi2;obtain ⟨ps,z,h1,h2,h3⟩:=(hQ i hil).2.2;exact ⟨_,_,ps,z,(Prod.mk.inj hx).1,AO.2 ⟨i,hi2,h1⟩,h2,h3⟩
end
section
variable {P:Program} {w:World} {base:Nat}
theorem j0b {u:TypeId} {k:IntKind} {v:Value} (hu:P.underlying u=some (.int k)) (h:Cell.okWide P w .any base u v): ∃n,v=.int k n/\k.has n=true:=by simp only [Cell.okWide,hu] at h;cases v <;> simp_all [Cell.ok]
theorem w7n : ∀(us:List TypeId) (ks:List IntKind) (cs:List Value),cs.length=us.length->us.map P.underlying=ks.map (fun k=>some (.int k))->
  (∀(i:Nat) (v:Value),cs[i]? =some v-> ∃u,us[i]? =some u/\Cell.okWide P w .any base u v)->
  ∃ns:List Int,ns.length=ks.length/\cs=List.zipWith Value.int ks ns/\ ∀p∈List.zip ks ns,p.1.has p.2=true
 | [],[],[],_,_,_=>⟨[],rfl,rfl,fun p hp=>by cases hp⟩
 | u::us,k::ks,c::cs,hl,hk,h=>by
  simp only [AT,List.cons.injEq] at hk;obtain ⟨u',hu',hc⟩:=h 0 c rfl;obtain rfl:u=u':=Ag hu';obtain ⟨n,rfl,hn⟩:=j0b hk.1 hc;obtain ⟨ns,h1,h2,h3⟩:=w7n us ks cs (by simpa using hl) hk.2 fun i v hi=>h (i+1) v hi;refine ⟨n::ns,by simp [h1],by rw [h2];rfl,fun p hp=> ?_⟩;rw [List.zip_cons_cons,AH] at hp;rcases hp with rfl | hp
  .exact hn
  .exact h3 p hp
 | [],_::_,_,_,hk,_=>by simp at hk
 | _::_,[],_,_,hk,_=>by simp at hk
 | _::_,_::_,[],hl,_,_=>by simp at hl
 | [],[],_::_,hl,_,_=>by simp at hl
def WU (P:Program) (t:TypeId):Bool:=match P.underlying t with | some (.struct _) | some (.array _ _)=>true | _=>false
theorem open_agg_ints {t:TypeId} {us:List TypeId} {ks:List IntKind} {v:Value} (hs:WU P t=true) (hc:P.cellTypes P.depth t=some us) (hn:P.cellsOf t=us.length)
  (hk:us.map P.underlying=ks.map (fun k=>some (.int k))) (hv:Value.okWide P w .any base t v):
  ∃ns:List Int,ns.length=ks.length/\v=.agg (List.zipWith Value.int ks ns).toArray /\ ∀p∈List.zip ks ns,p.1.has p.2=true:=by
 have h: ∃cs,v=.agg cs/\cs.size=P.cellsOf t/\Row.okWide P w .any base t cs:=by
  unfold Value.okWide at hv;unfold WU at hs;split at hv
  .exact hv
  .exact hv
  .rename_i h1 h2;split at hs
   .rename_i fs h;exact absurd h (h1 fs)
   .rename_i a b h;exact absurd h (h2 a b)
   .cases hs
 obtain ⟨cs,rfl,hsz,ts,hts,_,gE⟩:=h;obtain rfl:us=ts:=Ag (hc.symm.trans hts);have hl:cs.toList.length=us.length:=by simpa using hsz.trans hn
 obtain ⟨ns,h1,h2,h3⟩:=w7n us ks cs.toList hl hk fun i v hi=>by
  have hi':cs[i]? =some v:=by simpa using hi
  obtain ⟨u,hu,hc⟩:=gE i v hi';have hlt:i<us.length:=by
   have:=(AN.mp hi').1
   simpa [<-hl] using this
  rw [Nat.mod_eq_of_lt hlt] at hu;exact ⟨u,hu,hc⟩
 exact ⟨ns,h1,by rw [<-h2],h3⟩
theorem vrel_ints {ρ:B6} (ks:List IntKind) (ns:List Int):VRel ρ (.agg (List.zipWith B2.int ks ns)) (.agg (List.zipWith Value.int ks ns).toArray):=by refine .agg _ _ (by simp) fun i h1 h2=> ?_;simp only [List.getElem_zipWith,List.getElem_toArray];exact .int _ _
end
end Go.Am
end
