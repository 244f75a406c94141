/- A part. -/
import Derived.Test.YtpddoeiakpbkbaaGreatLo3
set_option maxRecDepth 99999
set_option maxHeartbeats 0
set_option linter.unusedVariables false
set_option linter.unusedSimpArgs false
noncomputable section
namespace Go.Am
open IntKind (wrap)
open Go.Proofs.Tryz
open Go.Proofs
inductive IM where
 | h0 (v10:Int)
def Oq (l0:List R2):IM->CB
 | .h0 v10=>⟨⟨34,0,true⟩,none,(Zg prog 160 [1,1,0,1,0,0] 0),none,(Zy prog 9),⟨Yj [(0,(.dat l0.length (Zz l0))),(8,(.dat l0.length (Zz l0))),(9,(ii (l0.length:Int))),(10,(ii v10))],Vk [] 0,0,[],true⟩,[],.leaf⟩
def j9i :List (Option (List Nat)):=[some [0,8,9,10]]
def j9j :List (Option (List Nat)):=[]
def JW (l0:List R2):IM->Xz IM
 | .h0 v10=>(bif (decide (v10<(l0.length:Int))) then (bif ((decide (0<=v10/\v10<(l0.length:Int)))&&true) then (bif (decide ((rd l0 v10.toNat).a <(rd l0 v10.toNat).b)) then (bif (decide ((rd l0 v10.toNat).a >=(-1000000))) then (bif (!(decide ((rd l0 v10.toNat).b <=1000000))) then (.ret [(.int .i64 8)]) else (bif (decide (v10>0)) then (bif ((decide (0<=(wrap .i64 (v10 - 1))/\(wrap .i64 (v10 - 1))<(l0.length:Int)))&&true) then (bif (decide ((rd l0 (Int.toNat (wrap .i64 (v10 - 1)))).b >=(rd l0 v10.toNat).a)) then (.ret [(.int .i64 8)]) else (.to (.h0 (wrap .i64 (v10+1))))) else .stuck) else (.to (.h0 (wrap .i64 (v10+1)))))) else (.ret [(.int .i64 8)])) else (.ret [(.int .i64 8)])) else .stuck) else (.ret [(.int .i64 0)]))
def ZF (l0:List R2):Xz IM:=(bif (decide ((l0.length:Int)>400)) then (.ret [(.int .i64 4)]) else (.to (.h0 0)))
theorem v1i (l0:List R2): ∀s,Xw prog (Zy prog 160) (Oq l0) (Oq l0 s) (JW l0 s)
 | .h0 v10=>(lb (fun k0=>(lo fun aE=>let c:=ww aE (tt k0 nn);(lb (fun k1=>let a:=tt k1 c;(lb (fun k2=>(lb (fun k3=>(lr 34 160 [1,1,0,1,0,0,1,1,0,0,1,1,0,0] 1 9 [(2,(ii 8))] (sl E1 25 [] (a8 [2]) a6 (CA 12 []) (tt k3 (tt k2 a))))) (fun k3=>let d:=tt k3 (tt k2 a);(lb (fun k4=>(lo fun cJ=>let b:=ww cJ (tt k4 d);(lb (fun k5=>(lr 34 160 [1,1,0,1,0,0,1,1,0,0,1,1,0,0] 1 9 [(2,(ii 8))] (sl E1 25 [] (a8 [2]) a6 (CA 7 (bl 14 12280)) (tt k5 b)))) (fun k5=>(sl E1 28 [] ⟨[],[],j9i,j9j⟩ a6 (CA 7 (bl 14 4088)) (tt k5 b)))))) (fun k4=>(sl E1 28 [] ⟨[],[],j9i,j9j⟩ a6 (CA 7 (bl 14 0)) (tt k4 d))))))) (fun k2=>(lr 34 160 [1,1,0,1,0,0,1,1,0,0,1,1,0,0] 1 9 [(2,(ii 8))] (sl E1 25 [] (a8 [2]) a6 (CA 4 (bl 8 248)) (tt k2 a)))))) (fun k1=>(lr 34 160 [1,1,0,1,0,0,1,1,0,0,1,1,0,0] 1 9 [(2,(ii 8))] (sl E1 25 [] (a8 [2]) a6 (bl 12 3969) (tt k1 c))))))) (fun k0=>(lr 34 3 [1,1,1,1,0] 1 9 [(2,(ii 0))] (sl E1 11 [] (a8 [2]) a6 [false] (tt k0 nn)))))
theorem w1d (l0:List R2):Xw prog (Zy prog 160) (Oq l0) (Zm prog 160 [(.dat l0.length (Zz l0))] true []) (ZF l0):=(lb (fun k0=>(lr 34 160 [1,0,1,0,0] 1 9 [(2,(ii 4))] (sl E1 16 [] (a8 [2]) a6 [true] (tt k0 nn)))) (fun k0=>(sl E1 22 [] ⟨[],[],j9i,j9j⟩ a6 [false] (tt k0 nn))))
theorem u5r (l0:List R2) (n:Nat) (vs:List B2) (h:Zo (JW l0) n (ZF l0)=.ret vs):Uj prog (Zy prog 160) (Zm prog 160 [(.dat l0.length (Zz l0))] true []) vs:=by have:=Zb (v1i l0) n _ (w1d l0);rwa [h] at this
inductive cuS where
def cuC (x0:Bool) (x1:Bool):cuS->CB
 :=nofun
def u2k (x0:Bool) (x1:Bool):cuS->Xz cuS
 :=nofun
def w5k (x0:Bool) (x1:Bool):Xz cuS:=(bif x0 then (.ret [(.bool true)]) else (.ret [(.bool x1)]))
theorem u2j (x0:Bool) (x1:Bool): ∀s,Xw prog (Zy prog 164) (cuC x0 x1) (cuC x0 x1 s) (u2k x0 x1 s)
 :=nofun
theorem v4g (x0:Bool) (x1:Bool):Xw prog (Zy prog 164) (cuC x0 x1) (Zm prog 164 [(.bool x0),(.bool x1)] true []) (w5k x0 x1):=(lb (fun k0=>(lr 9 3 [1,1,1,1,0] 1 6 [(4,(.bool true))] (sl E1 12 [] (a8 [4]) a6 [true] (tt k0 nn)))) (fun k0=>(lr 9 3 [1,1,1,1,0] 1 6 [(4,(.bool x1))] (sl E1 12 [] (a8 [4]) a6 [false] (tt k0 nn)))))
theorem t4z (x0:Bool) (x1:Bool) (n:Nat) (vs:List B2) (h:Zo (u2k x0 x1) n (w5k x0 x1)=.ret vs):Uj prog (Zy prog 164) (Zm prog 164 [(.bool x0),(.bool x1)] true []) vs:=by have:=Zb (u2j x0 x1) n _ (v4g x0 x1);rwa [h] at this
inductive ceS where
def ceC (x0:Bool) (x1:Bool):ceS->CB
 :=nofun
def u2u (x0:Bool) (x1:Bool):ceS->Xz ceS
 :=nofun
def w5r (x0:Bool) (x1:Bool):Xz ceS:=(bif x0 then (.ret [(.bool x1)]) else (.ret [(.bool false)]))
theorem u2t (x0:Bool) (x1:Bool): ∀s,Xw prog (Zy prog 133) (ceC x0 x1) (ceC x0 x1 s) (u2u x0 x1 s)
 :=nofun
theorem v4l (x0:Bool) (x1:Bool):Xw prog (Zy prog 133) (ceC x0 x1) (Zm prog 133 [(.bool x0),(.bool x1)] true []) (w5r x0 x1):=(lb (fun k0=>(lr 9 3 [1,1,1,1,0] 1 6 [(4,(.bool x1))] (sl E1 12 [] (a8 [4]) a6 [true] (tt k0 nn)))) (fun k0=>(lr 9 3 [1,1,1,1,0] 1 6 [(4,(.bool false))] (sl E1 12 [] (a8 [4]) a6 [false] (tt k0 nn)))))
theorem t5e (x0:Bool) (x1:Bool) (n:Nat) (vs:List B2) (h:Zo (u2u x0 x1) n (w5r x0 x1)=.ret vs):Uj prog (Zy prog 133) (Zm prog 133 [(.bool x0),(.bool x1)] true []) vs:=by have:=Zb (u2t x0 x1) n _ (v4l x0 x1);rwa [h] at this
inductive cdS where
def cdC (x0:Bool) (x1:Bool):cdS->CB
 :=nofun
def u2w (x0:Bool) (x1:Bool):cdS->Xz cdS
 :=nofun
def w5t (x0:Bool) (x1:Bool):Xz cdS:=(bif x0 then (.ret [(.bool (!x1))]) else (.ret [(.bool false)]))
theorem u2v (x0:Bool) (x1:Bool): ∀s,Xw prog (Zy prog 123) (cdC x0 x1) (cdC x0 x1 s) (u2w x0 x1 s)
 :=nofun
theorem v4m (x0:Bool) (x1:Bool):Xw prog (Zy prog 123) (cdC x0 x1) (Zm prog 123 [(.bool x0),(.bool x1)] true []) (w5t x0 x1):=(lb (fun k0=>(lr 10 3 [1,1,1,1,0] 1 6 [(4,(.bool (!x1)))] (sl E1 13 [] (a8 [4]) a6 (bl 2 3) (tt k0 nn)))) (fun k0=>(lr 10 3 [1,1,1,1,0] 1 6 [(4,(.bool false))] (sl E1 13 [] (a8 [4]) a6 (bl 2 0) (tt k0 nn)))))
theorem t5f (x0:Bool) (x1:Bool) (n:Nat) (vs:List B2) (h:Zo (u2w x0 x1) n (w5t x0 x1)=.ret vs):Uj prog (Zy prog 123) (Zm prog 123 [(.bool x0),(.bool x1)] true []) vs:=by have:=Zb (u2v x0 x1) n _ (v4m x0 x1);rwa [h] at this
open Go.Sort Go.Shelf Go.RowKit Go.Lib
def Fh (l:List R2) (i:Nat):Bool:=C7 (rd l i)&&(decide (i=0)||decide ((rd l (i - 1)).b <(rd l i).a))
def Dp (l:List R2):Int:=bif decide (400<l.length) then 4 else bif (List.range l.length).all (Fh l) then 0 else 8
def Tn (l:List R2):Bool:=true
theorem j3a (l:List R2) (hl:l.length<=400): ∀(k i:Nat),i+k=l.length->(∀j,j<i->Fh l j=true)-> ∃n,Zo (JW l) n (.to (.h0 (i:Int)))=.ret [.int .i64 (bif (List.range l.length).all (Fh l) then 0 else 8)]
 | 0,i,h,ht=>by
  have hv:(List.range l.length).all (Fh l)=true:=At.2 fun j hj=>ht j (by grind);refine ⟨1,?_⟩
  grind [Zx,JW,Zp]
 | k +1,i,h,ht=>by
  have hi:i<l.length:=by omega
  have hlt:decide ((i:Int)<(l.length:Int))=true:=Al (by omega);have hin:decide (0<=(i:Int)/\(i:Int)<(l.length:Int))=true:=Al (by omega);have step:JW l (.h0 (i:Int))=bif Fh l i then .to (.h0 ((i+1:Nat):Int)) else .ret [.int .i64 8]:=by
   unfold Fh C7;by_cases hi0:i=0
   .simp_all [JW,Zj,S6]
   .have g1:decide ((i:Int)>0)=true:=Al (by omega);have g2:wrap .i64 ((i:Int) - 1)=((i - 1:Nat):Int):=by rw [Zj (by omega)];omega
    have g3:decide (0<=((i - 1:Nat):Int)/\((i - 1:Nat):Int)<(l.length:Int))=true:=Al (by omega);have g4:decide ((rd l (i - 1)).b >=(rd l i).a)= !decide ((rd l (i - 1)).b <(rd l i).a):=by
     grind
    rw [Av hi0];simp (disch:=omega) only [JW,hlt,hin,g1,g2,g3,g4,Zj,Zw,Zk,S6,S7,Bool.false_or,Ah,Ab,Aa]
  rcases Zs (Fh l i) with q | q
  .obtain ⟨n,hn⟩:=j3a l hl k (i+1) (by omega) (fun j hj=>by
    grind)
   refine ⟨n+1,?_⟩
   grind [Zx]
  .have hv:(List.range l.length).all (Fh l)=false:=A3.2 fun e=>by
    grind
   refine ⟨1,?_⟩
   grind [Zx,Zp]
theorem j9h (l:List R2) (h:Tn l=true): ∃n,Zo (JW l) n (ZF l)=.ret [.int .i64 (Dp l)]:=by
 unfold ZF Dp;by_cases h:400<l.length
 .refine ⟨0,?_⟩;rw [Al h,Yt (show (l.length:Int)>400 by omega)];rfl
 .obtain ⟨n,hn⟩:=j3a l (by omega) l.length 0 (Af _) (fun j hj=>absurd hj (AL _))
  grind
inductive Op where
 | u | e | d
abbrev Op.k :Op->Nat
 | .u =>0
 | .e =>1
 | .d =>2
abbrev nC :Op->Nat
 | .u =>VZ
 | .e =>V0
 | .d =>V1
abbrev FU :Op->Nat
 | .u =>nSpU
 | .e =>nSpE
 | .d =>nSpD
abbrev D2 :Op->Nat
 | .u =>nRgU
 | .e =>nRgE
 | .d =>nRgD
abbrev FV :Op->Nat
 | .u =>nSlU
 | .e =>nSlE
 | .d =>nSlD
def cV (q:Op) (a b:Bool):Bool:=Cp q.k a b
theorem RW (a b:Bool): ∃N,Zo (u2k a b) N (w5k a b)=.ret [.bool (cV .u a b)]:=⟨0,by cases a <;> cases b <;> rfl⟩
theorem Ra (a b:Bool): ∃N,Zo (u2u a b) N (w5r a b)=.ret [.bool (cV .e a b)]:=⟨0,by cases a <;> cases b <;> rfl⟩
theorem Rb (a b:Bool): ∃N,Zo (u2w a b) N (w5t a b)=.ret [.bool (cV .d a b)]:=⟨0,by cases a <;> cases b <;> rfl⟩
theorem ZE (l:List R2):Dp l=0↔l.length<=400/\l.all C7=true/\Co l:=by
 unfold Dp;constructor
 .intro h;by_cases h1:400<l.length
  .grind
  .rw [Av h1,Aa] at h;cases hq:(List.range l.length).all (Fh l) with
   | false=>grind
   | true=>
    have hq:=fun i hi=>At.1 hq i (A6.2 hi);have hv: ∀i,i<l.length->C7 (rd l i)=true:=fun i hi=>by
     grind [Fh]
    have hp: ∀i,i<l.length->(rd l i).a <(rd l i).b :=fun i hi=>by
     grind [C7]
    have hs: ∀i,i+1<l.length->(rd l i).b <(rd l (i+1)).a :=fun i hi=>by
     grind [Fh]
    refine ⟨by omega,At.2 fun s hs=> ?_,⟨fun s hs=> ?_,?_⟩⟩
    .obtain ⟨i,hi,rfl⟩:=AJ hs;rw [<-Yo hi];exact hv i hi
    .obtain ⟨i,hi,rfl⟩:=AJ hs;rw [<-Yo hi];exact hp i hi
    .refine AY.2 fun i j hi hj hij=> ?_;rw [<-Yo hi,<-Yo hj];clear hi
     induction j with
     | zero=>omega
     | succ j ih=>
      grind
 .rintro ⟨h1,h2,h3⟩;rw [Av (by omega),Aa];have:(List.range l.length).all (Fh l)=true:=At.2 fun i hi=>by
   have hi:=A6.1 hi;unfold Fh;rw [At.1 h2 (rd l i) (by grind [Yo]),Ai,Bs];by_cases h0:i=0
   .grind
   .refine .inr (Al ?_);have:=AY.1 h3.sep (i - 1) i (by omega) hi (by omega);rwa [<-Yo,<-Yo] at this
  grind
def QO :List B2->Option (B2×Bool)
 | [a0]=>match CS R2 a0 with
  | some (L0,g0,n0)=>some (.int .i64 (Dp L0),CO R2 n0 g0&&(Tn L0))
  | _=>none
 | _=>none
theorem t3d {S:B4} (hS:Zv prog S):Zv prog (S.with w8g QO):=by
 refine Qn hS (by kernel_rfl) fun args v h=> ?_;unfold QO at h;split at h
 .rename_i a0;split at h
  .rename_i L0 g0 n0 e0;simp only [Ad,Ac,Ae] at h;obtain ⟨rfl,ho0,hw⟩:=h;obtain ⟨N,hN⟩:=j9h L0 hw;exact ⟨_,_,(.cons (Yn e0 ho0) .nil),rfl,u5r L0 N _ hN,3,rfl⟩
  .cases h
 .cases h
def fCu :List B2->Option (B2×Bool)
 | [.bool b0,.bool b1]=>some (.bool (cV .u b0 b1),true)
 | _=>none
theorem RD {S:B4} (hS:Zv prog S):Zv prog (S.with (nC .u) fCu):=by
 refine Qn hS (by kernel_rfl) fun args v h=> ?_;unfold fCu at h;split at h
 .rename_i b0 b1;simp only [Ad,Ac,Bh] at h;subst h;obtain ⟨N,hN⟩:=RW b0 b1;exact ⟨_,_,(.cons (.refl _) (.cons (.refl _) .nil)),rfl,t4z b0 b1 N _ hN,3,rfl⟩
 .cases h
def fCe :List B2->Option (B2×Bool)
 | [.bool b0,.bool b1]=>some (.bool (cV .e b0 b1),true)
 | _=>none
theorem RG {S:B4} (hS:Zv prog S):Zv prog (S.with (nC .e) fCe):=by
 refine Qn hS (by kernel_rfl) fun args v h=> ?_;unfold fCe at h;split at h
 .rename_i b0 b1;simp only [Ad,Ac,Bh] at h;subst h;obtain ⟨N,hN⟩:=Ra b0 b1;exact ⟨_,_,(.cons (.refl _) (.cons (.refl _) .nil)),rfl,t5e b0 b1 N _ hN,3,rfl⟩
 .cases h
def fCd :List B2->Option (B2×Bool)
 | [.bool b0,.bool b1]=>some (.bool (cV .d b0 b1),true)
 | _=>none
theorem RH {S:B4} (hS:Zv prog S):Zv prog (S.with (nC .d) fCd):=by
 refine Qn hS (by kernel_rfl) fun args v h=> ?_;unfold fCd at h;split at h
 .rename_i b0 b1;simp only [Ad,Ac,Bh] at h;subst h;obtain ⟨N,hN⟩:=Rb b0 b1;exact ⟨_,_,(.cons (.refl _) (.cons (.refl _) .nil)),rfl,t5f b0 b1 N _ hN,3,rfl⟩
 .cases h
def Ua :B4:=((((T9.with w8g QO).with (nC .u) fCu).with (nC .e) fCe).with (nC .d) fCd)
theorem Dt :Zv prog Ua:=(RH (RG (RD (t3d E1))))
inductive IA where
 | h0 (v3:List R3) (v17:Int)
 | h1 (v3:List R3) (v17:Int)
 | h2 (v5:List R3) (v6:Int) (v7:Int) (aD:Int) (bV:Int) (aX:Int) (aH:Bool) (aB:List R2)
abbrev Jg (aB:List R2) (aX:Int) (v5:List R3) (v7:Int):=(aB++[(R2.mk aX (rd v5 (0+(tn v7))).a)])
def v6n (l0:List R2) (l1:List R2) (q:Op):CV:=⟨⟨29,0,true⟩,(Vm prog 122 [1,1,1,0] 3),(Zg prog 122 [1,1,1,0] 1),none,(Zy prog 10),Yj [(21,(.dat l0.length (Zz l0))),(22,(.dat l1.length (Zz l1))),(23,(.fn (nC q) []))]⟩
abbrev KH (aB:List R2) (aX:Int) (v5:List R3) (v7:Int):=(Zt (Zz aB) 0 aB.length 2 [(ii aX),(ii (rd v5 (0+(tn v7))).a)])
def v6m (q:Op) (l0:List R2) (l1:List R2):CV:=⟨⟨11,0,true⟩,(Vm prog (FU q) [1,0] 2),(Zg prog (FU q) [1,0] 1),none,(Zy prog 16),Yj [(6,(.dat l0.length (Zz l0))),(7,(.dat l1.length (Zz l1)))]⟩
def j1j :CV:=⟨⟨42,0,true⟩,(Vm prog 161 [1,1,1,1,1,0,0] 3),(Zg prog 161 [1,1,1,1,1,0,0] 1),none,(Zy prog 3),Yj [(5,(.ptr 1 0)),(6,.nils),(7,(.ptr 2 0)),(8,(.ptr 3 0)),(9,(.ptr 4 0)),(10,(.ptr 5 0)),(11,(.ptr 6 0)),(16,(.sl 0 0 2 (.un 1)))]⟩
abbrev x1e (v3:List R3) (l0:List R2) (v17:Int):=(v3++[(R3.mk (rd l0 (tn v17)).a 0 1),(R3.mk (rd l0 (tn v17)).b 0 (-1))])
abbrev x1d (v3:List R3) (l1:List R2) (v17:Int):=(v3++[(R3.mk (rd l1 (tn v17)).a 1 1),(R3.mk (rd l1 (tn v17)).b 1 (-1))])
def Gm (q:Op) (l0:List R2) (l1:List R2):IA->CB
 | .h0 v3 v17=>⟨⟨38,0,true⟩,none,(Zg prog 184 [1,1,0,1,0,0,1,1,0,0,1,1,0,0] 0),none,(Zy prog 9),⟨Yj [(3,(.sla 7 3 0 v3.length (.un 3))),(4,(ii 0)),(8,(.sl 0 0 2 (.un 1))),(9,(ii 2)),(10,(ii 0)),(15,(.dat l0.length (Zz l0))),(16,(ii (l0.length:Int))),(17,(ii v17))],Vk [⟨[(.dat l0.length (Zz l0)),(.dat l1.length (Zz l1))],155,none⟩,⟨[(.fn (nC q) [])],167,none⟩,⟨[(ii 0),(ii 0)],222,none⟩,⟨[.nils],155,none⟩,⟨[(ii 0)],3,none⟩,⟨[(.bool false)],4,none⟩,⟨[(.fn 183 [(.ptr 5 0),(.ptr 4 0),(.ptr 3 0)])],223,none⟩,⟨Ya v3.length (Zz v3),227,some ⟨3,v3.length,(Zz v3)⟩⟩] 0,8,[],true⟩,[j1j,(v6n l0 l1 q),(v6m q l0 l1)],.leaf⟩
 | .h1 v3 v17=>⟨⟨38,0,true⟩,none,(Zg prog 184 [1,1,0,1,0,0,1,1,0,0,1,1,0,0] 0),none,(Zy prog 9),⟨Yj [(3,(.sla 7 3 0 v3.length (.un 3))),(4,(ii 1)),(8,(.sl 0 0 2 (.un 1))),(9,(ii 2)),(10,(ii 1)),(15,(.dat l1.length (Zz l1))),(16,(ii (l1.length:Int))),(17,(ii v17))],Vk [⟨[(.dat l0.length (Zz l0)),(.dat l1.length (Zz l1))],155,none⟩,⟨[(.fn (nC q) [])],167,none⟩,⟨[(ii 0),(ii 0)],222,none⟩,⟨[.nils],155,none⟩,⟨[(ii 0)],3,none⟩,⟨[(.bool false)],4,none⟩,⟨[(.fn 183 [(.ptr 5 0),(.ptr 4 0),(.ptr 3 0)])],223,none⟩,⟨Ya v3.length (Zz v3),227,some ⟨3,v3.length,(Zz v3)⟩⟩] 0,8,[],true⟩,[j1j,(v6n l0 l1 q),(v6m q l0 l1)],.leaf⟩
 | .h2 v5 v6 v7 aD bV aX aH aB=>⟨⟨16,0,true⟩,none,(Zg prog 198 [1,0,0] 0),none,[],⟨Yj [(0,(.yld 0)),(5,(.sla 7 3 0 v5.length (.un 3))),(6,(ii v6)),(7,(ii v7))],Ch [(1,⟨[(.fn (nC q) [])],167,none⟩),(2,⟨[(ii aD),(ii bV)],222,none⟩),(3,⟨[(ii aX)],3,none⟩),(4,⟨[(.bool aH)],4,none⟩),(5,⟨[(.fn 183 [(.ptr 4 0),(.ptr 3 0),(.ptr 6 0)])],223,none⟩),(6,⟨[(.sla 8 2 0 aB.length (.un 2))],155,none⟩),(7,⟨Ya v5.length (Zz v5),227,some ⟨3,v5.length,(Zz v5)⟩⟩),(8,⟨Ya aB.length (Zz aB),176,some ⟨2,aB.length,(Zz aB)⟩⟩)],9,[],true⟩,[⟨⟨42,0,true⟩,none,(.inRangeFunc 0::(Zg prog 161 [1,1,1,1,1,0,1,0] 1)),none,(Zy prog 3),Yj [(6,.nils),(8,(.ptr 6 0))]⟩,(v6n l0 l1 q),(v6m q l0 l1)],(DH [(0,⟨.ready,none,42,Yj [(5,(.ptr 1 0)),(7,(.ptr 2 0)),(9,(.ptr 3 0)),(10,(.ptr 4 0)),(11,(.ptr 5 0))],[18],(Wc prog 161 [1,1,1,1,1,0,1,0,0]),(Wc prog 161 [1,1,1,1,1,0,1,0,1])⟩)])⟩
def K5 :List (Option (List Nat)):=[some [3,4,8,9,10,15,16,17],some [5,6,7,8,9,10,11,16],some [21,22,23],some [6,7]]
def K7 :List (Option (List Nat)):=[]
def K4 :List (Option (List Nat)):=[some [3,4,8,9,10,15,16,17],some [5,6,7,8,9,10,11,16],some [21,22,23],some [6,7]]
def K6 :List (Option (List Nat)):=[]
def Gb :List (Option (List Nat)):=[some [0,5,6,7],some [6,8],some [21,22,23],some [6,7]]
def Ga :List (Option (List Nat)):=[some [5,7,9,10,11],none,none,none,none,none,none,none,none]
def Vx (q:Op) (l0:List R2) (l1:List R2):IA->Xz IA
 | .h0 v3 v17=>(bif (decide (v17<(l0.length:Int))) then (bif ((decide (0<=v17/\v17<(l0.length:Int)))&&true) then (bif (Nat.beq 3 3&&((decide (0+v3.length=v3.length))&&decide ((v3.length+2+1)*(24+1)<=CF))) then (.to (.h0 (v3++[(R3.mk (rd l0 v17.toNat).a 0 1),(R3.mk (rd l0 v17.toNat).b 0 (-1))]) (wrap .i64 (v17+1)))) else .stuck) else .stuck) else (.to (.h1 v3 0)))
 | .h1 v3 v17=>(bif (decide (v17<(l1.length:Int))) then (bif ((decide (0<=v17/\v17<(l1.length:Int)))&&true) then (bif (Nat.beq 3 3&&((decide (0+v3.length=v3.length))&&decide ((v3.length+2+1)*(24+1)<=CF))) then (.to (.h1 (v3++[(R3.mk (rd l1 v17.toNat).a 1 1),(R3.mk (rd l1 v17.toNat).b 1 (-1))]) (wrap .i64 (v17+1)))) else .stuck) else .stuck) else (bif (DZ (B3 v3)) then (bif (decide (v3.length<4611686018427387904)) then (bif (decide (v3.length=v3.length)) then (.to (.h2 (Cj (B3 v3)) (v3.length:Int) 0 0 0 0 false ([]:List R2))) else .stuck) else .stuck) else .stuck))
 | .h2 v5 v6 v7 aD bV aX aH aB=>(bif (decide (v7<v6)) then (bif ((decide (0<=v7/\v7<(v5.length:Int)))&&true) then (bif (decide ((0+v7.toNat)<v5.length)) then (bif (!aH) then (bif (decide ((rd v5 (0+v7.toNat)).b =Int.ofNat 0)) then (.to (.h2 v5 v6 (wrap .i64 (v7+1)) (wrap .i64 (aD+(rd v5 (0+v7.toNat)).c)) bV (rd v5 (0+v7.toNat)).a ((cV q) (decide ((wrap .i64 (aD+(rd v5 (0+v7.toNat)).c))>0)) (decide (bV>0))) aB)) else (bif (decide ((rd v5 (0+v7.toNat)).b =Int.ofNat 1)) then (.to (.h2 v5 v6 (wrap .i64 (v7+1)) aD (wrap .i64 (bV+(rd v5 (0+v7.toNat)).c)) (rd v5 (0+v7.toNat)).a ((cV q) (decide (aD>0)) (decide ((wrap .i64 (bV+(rd v5 (0+v7.toNat)).c))>0))) aB)) else .stuck)) else (bif (aX == (rd v5 (0+v7.toNat)).a) then (bif (decide ((rd v5 (0+v7.toNat)).b =Int.ofNat 0)) then (.to (.h2 v5 v6 (wrap .i64 (v7+1)) (wrap .i64 (aD+(rd v5 (0+v7.toNat)).c)) bV (rd v5 (0+v7.toNat)).a ((cV q) (decide ((wrap .i64 (aD+(rd v5 (0+v7.toNat)).c))>0)) (decide (bV>0))) aB)) else (bif (decide ((rd v5 (0+v7.toNat)).b =Int.ofNat 1)) then (.to (.h2 v5 v6 (wrap .i64 (v7+1)) aD (wrap .i64 (bV+(rd v5 (0+v7.toNat)).c)) (rd v5 (0+v7.toNat)).a ((cV q) (decide (aD>0)) (decide ((wrap .i64 (bV+(rd v5 (0+v7.toNat)).c))>0))) aB)) else .stuck)) else (bif (decide ((aB.length:Int)>0)) then (bif ((decide (0<=(wrap .i64 ((aB.length:Int) - 1))/\(wrap .i64 ((aB.length:Int) - 1))<(aB.length:Int)))&&true) then (bif (decide ((0+(Int.toNat (wrap .i64 ((aB.length:Int) - 1))))<aB.length)) then (bif ((rd aB (0+(Int.toNat (wrap .i64 ((aB.length:Int) - 1))))).b == aX) then (bif (decide ((rd v5 (0+v7.toNat)).b =Int.ofNat 0)) then (.to (.h2 v5 v6 (wrap .i64 (v7+1)) (wrap .i64 (aD+(rd v5 (0+v7.toNat)).c)) bV (rd v5 (0+v7.toNat)).a ((cV q) (decide ((wrap .i64 (aD+(rd v5 (0+v7.toNat)).c))>0)) (decide (bV>0))) (aB.set (0+(Int.toNat (wrap .i64 ((aB.length:Int) - 1)))) (R2.mk (rd aB (0+(Int.toNat (wrap .i64 ((aB.length:Int) - 1))))).a (rd v5 (0+v7.toNat)).a)))) else (bif (decide ((rd v5 (0+v7.toNat)).b =Int.ofNat 1)) then (.to (.h2 v5 v6 (wrap .i64 (v7+1)) aD (wrap .i64 (bV+(rd v5 (0+v7.toNat)).c)) (rd v5 (0+v7.toNat)).a ((cV q) (decide (aD>0)) (decide ((wrap .i64 (bV+(rd v5 (0+v7.toNat)).c))>0))) (aB.set (0+(Int.toNat (wrap .i64 ((aB.length:Int) - 1)))) (R2.mk (rd aB (0+(Int.toNat (wrap .i64 ((aB.length:Int) - 1))))).a (rd v5 (0+v7.toNat)).a)))) else .stuck)) else (bif (Nat.beq 2 2&&((decide (0+aB.length=aB.length))&&decide ((aB.length+1+1)*(16+1)<=CF))) then (bif (decide ((rd v5 (0+v7.toNat)).b =Int.ofNat 0)) then (.to (.h2 v5 v6 (wrap .i64 (v7+1)) (wrap .i64 (aD+(rd v5 (0+v7.toNat)).c)) bV (rd v5 (0+v7.toNat)).a ((cV q) (decide ((wrap .i64 (aD+(rd v5 (0+v7.toNat)).c))>0)) (decide (bV>0))) (aB++[(R2.mk aX (rd v5 (0+v7.toNat)).a)]))) else (bif (decide ((rd v5 (0+v7.toNat)).b =Int.ofNat 1)) then (.to (.h2 v5 v6 (wrap .i64 (v7+1)) aD (wrap .i64 (bV+(rd v5 (0+v7.toNat)).c)) (rd v5 (0+v7.toNat)).a ((cV q) (decide (aD>0)) (decide ((wrap .i64 (bV+(rd v5 (0+v7.toNat)).c))>0))) (aB++[(R2.mk aX (rd v5 (0+v7.toNat)).a)]))) else .stuck)) else .stuck)) else .stuck) else .stuck) else (bif (Nat.beq 2 2&&((decide (0+aB.length=aB.length))&&decide ((aB.length+1+1)*(16+1)<=CF))) then (bif (decide ((rd v5 (0+v7.toNat)).b =Int.ofNat 0)) then (.to (.h2 v5 v6 (wrap .i64 (v7+1)) (wrap .i64 (aD+(rd v5 (0+v7.toNat)).c)) bV (rd v5 (0+v7.toNat)).a ((cV q) (decide ((wrap .i64 (aD+(rd v5 (0+v7.toNat)).c))>0)) (decide (bV>0))) (aB++[(R2.mk aX (rd v5 (0+v7.toNat)).a)]))) else (bif (decide ((rd v5 (0+v7.toNat)).b =Int.ofNat 1)) then (.to (.h2 v5 v6 (wrap .i64 (v7+1)) aD (wrap .i64 (bV+(rd v5 (0+v7.toNat)).c)) (rd v5 (0+v7.toNat)).a ((cV q) (decide (aD>0)) (decide ((wrap .i64 (bV+(rd v5 (0+v7.toNat)).c))>0))) (aB++[(R2.mk aX (rd v5 (0+v7.toNat)).a)]))) else .stuck)) else .stuck)))) else .stuck) else .stuck) else (bif (decide ((aB.length:Int)>400)) then (.ret [.nils,(.int .i64 4)]) else (.ret [(.dat aB.length (Zz aB)),(.int .i64 0)])))
def ZN (q:Op) (l0:List R2) (l1:List R2):Xz IA:=(bif (Tn (B3 l0)) then (bif ((Dp (B3 l0)) != 0) then (.ret [.nils,(.int .i64 (Dp (B3 l0)))]) else (bif (Tn (B3 l1)) then (bif ((Dp (B3 l1)) != 0) then (.ret [.nils,(.int .i64 (Dp (B3 l1)))]) else (.to (.h0 ([]:List R3) 0))) else .stuck)) else .stuck)
theorem v0q (q:Op) (l0:List R2) (l1:List R2): ∀s,Xw prog (Zy prog (FU q)) (Gm q l0 l1) (Gm q l0 l1 s) (Vx q l0 l1 s):=by cases q <;> refine (?f: ∀q:Op,∀s,Xw prog (Zy prog (FU q)) (Gm q l0 l1) (Gm q l0 l1 s) (Vx q l0 l1 s)) _ <;> exact fun q=>fun
 | .h0 v3 v17=>(lb (fun k0=>(lo fun o0=>(lo fun o1=>let c:=xL (v3.length+2) (x1e v3 l0 v17).length;let d:=x1e v3 l0 v17;(sl Dt 36 [] ⟨[0,1,2,3,4,5,6,10],[],K5,K7⟩ ⟨[(3,.len d.length)],(Cl 7 [.rowed 3 d.length (Zz d)]),[]⟩ [true] (pp c (pp c (pp (xS (v3.length+2) (Zt (Zz v3) 0 v3.length 3 [(ii (rd l0 (tn v17)).a),(ii 0),(ii 1),(ii (rd l0 (tn v17)).b),(ii 0),(ii (-1))]) (Zz (x1e v3 l0 v17))) (pp (pp (xF (Zt (Zz v3) 0 v3.length 3 [(ii (rd l0 (tn v17)).a),(ii 0),(ii 1),(ii (rd l0 (tn v17)).b),(ii 0),(ii (-1))])) nn) (ww o1 (ww o0 (tt k0 nn))))))))))) (fun k0=>(sl Dt 38 [] ⟨(List.range 8),[],K4,K6⟩ a6 (bl 2 2) (pp (fl v3 nn) (tt k0 nn)))))
 | .h1 v3 v17=>(lb (fun k0=>(lo fun o0=>(lo fun o1=>let d:=xL (v3.length+2) (x1d v3 l1 v17).length;let f:=x1d v3 l1 v17;(sl Dt 36 [] ⟨[0,1,2,3,4,5,6,10],[],K4,K6⟩ ⟨[(3,.len f.length)],(Cl 7 [.rowed 3 f.length (Zz f)]),[]⟩ [true] (pp d (pp d (pp (xS (v3.length+2) (Zt (Zz v3) 0 v3.length 3 [(ii (rd l1 (tn v17)).a),(ii 1),(ii 1),(ii (rd l1 (tn v17)).b),(ii 1),(ii (-1))]) (Zz (x1d v3 l1 v17))) (pp (pp (xF (Zt (Zz v3) 0 v3.length 3 [(ii (rd l1 (tn v17)).a),(ii 1),(ii 1),(ii (rd l1 (tn v17)).b),(ii 1),(ii (-1))])) nn) (ww o1 (ww o0 (tt k0 nn))))))))))) (fun k0=>(lo fun o0=>(lo fun o1=>(lo fun o2=>let c:=xL v3.length (Cj (B3 v3)).length (by first | exact y0m _ | exact Uu rfl);let e:=Cj (B3 v3);let g:=xG (Nat.beq 3 3);(sl Dt 54 [(176,2,Zz ([]:List R2))] ⟨[9,1,2,4,5,6,3,7,10],[],Gb,Ga⟩ ⟨[(5,.len e.length)],(Cl 6 [.cells [.grow 8 2],.rowed 3 e.length (Zz e),.keep]),[]⟩ (bl 2 0) (pp c (pp c (pp (xS v3.length (Zz (Cj (B3 v3))) (Zz (Cj (B3 v3)))) (pp (fl e (fl ([]:List R2) nn)) (pp (pp g (pp g (pp (xG (Nat.beq 0 0)) (pp (pp (xG (decide (v3.length=v3.length))) (pp (xr v3) (xG (decide (v3.length<4611686018427387904))))) (xG (DZ (B3 v3))))))) (tt k0 nn))))))))))))
 | .h2 v5 v6 v7 aD bV aX aH aB=>(lb (fun k0=>(lo fun aE=>(lo fun bI=>let i:=List.range 9;let j:=fl v5 (fl aB nn);let l:=ww bI (ww aE (tt k0 nn));(lb (fun k1=>(lb (fun k2=>(sl Dt 62 [] ⟨i,[],Gb,Ga⟩ a6 (CA 5 (bl 3 0)) (pp j (ww k2 (tt k1 l))))) (fun k2=>(lb (fun k3=>(sl Dt 62 [] ⟨i,[],Gb,Ga⟩ a6 (CA 6 (bl 4 2)) (pp j (ww k3 (tt k1 l))))) (fun k3=>trivial))))) (fun k1=>let d:=tt k1 l;(lb (fun k2=>(lb (fun k3=>(sl Dt 62 [] ⟨i,[],Gb,Ga⟩ a6 (bl 8 17) (pp j (ww k3 (tt k2 d))))) (fun k3=>(lb (fun k4=>(sl Dt 62 [] ⟨i,[],Gb,Ga⟩ a6 (bl 10 177) (pp j (ww k4 (tt k2 d))))) (fun k4=>trivial))))) (fun k2=>let r:=Jg aB aX v5 v7;let c:=Cl 6 [.cells [.len r.length],.keep,.rowed 2 r.length (Zz r)];(lb (fun k3=>(lo fun bZ=>(lo fun cQ=>let g:=ww cQ (ww bZ (tt k3 (tt k2 d)));(lb (fun k4=>let q:=tn (wr ((aB.length:Int) - 1));let b:=aB.set (0+q) (R2.mk (rd aB (0+q)).a (rd v5 (0+(tn v7))).a);let h:=Cl 6 [.cells [.len b.length],.keep,.rowed 2 b.length (Zz b)];let s:=ww cQ (ww bZ (tt k4 g));(lb (fun k5=>let f:=xL aB.length (aB.set (0+(tn (wr ((aB.length:Int) - 1)))) (R2.mk (rd aB (0+(tn (wr ((aB.length:Int) - 1))))).a (rd v5 (0+(tn v7))).a)).length;(sl Dt 81 [] ⟨i,[],Gb,Ga⟩ ⟨[],h,[]⟩ (bl 17 16353) (pp f (pp f (pp (xS aB.length (Xa (Zz aB) (0+(tn (wr ((aB.length:Int) - 1)))) 1 [(ii (rd v5 (0+(tn v7))).a)]) (Zz (aB.set (0+(tn (wr ((aB.length:Int) - 1)))) (R2.mk (rd aB (0+(tn (wr ((aB.length:Int) - 1))))).a (rd v5 (0+(tn v7))).a)))) (pp (fl v5 (pp (xF (Xa (Zz aB) (0+(tn (wr ((aB.length:Int) - 1)))) 1 [(ii (rd v5 (0+(tn v7))).a)])) nn)) (ww k5 s))))))) (fun k5=>(lb (fun k6=>let e:=xL aB.length (aB.set (0+(tn (wr ((aB.length:Int) - 1)))) (R2.mk (rd aB (0+(tn (wr ((aB.length:Int) - 1))))).a (rd v5 (0+(tn v7))).a)).length;(sl Dt 81 [] ⟨i,[],Gb,Ga⟩ ⟨[],h,[]⟩ (bl 19 98273) (pp e (pp e (pp (xS aB.length (Xa (Zz aB) (0+(tn (wr ((aB.length:Int) - 1)))) 1 [(ii (rd v5 (0+(tn v7))).a)]) (Zz (aB.set (0+(tn (wr ((aB.length:Int) - 1)))) (R2.mk (rd aB (0+(tn (wr ((aB.length:Int) - 1))))).a (rd v5 (0+(tn v7))).a)))) (pp (fl v5 (pp (xF (Xa (Zz aB) (0+(tn (wr ((aB.length:Int) - 1)))) 1 [(ii (rd v5 (0+(tn v7))).a)])) nn)) (ww k6 s))))))) (fun k6=>trivial))))) (fun k4=>(lo fun cJ=>let u:=ww cJ (tt k4 g);(lb (fun k5=>let n:=xL (aB.length+1) (Jg aB aX v5 v7).length;(sl Dt 81 [] ⟨[0,1,2,3,4,5,6,7,12],[],Gb,Ga⟩ ⟨[],c,[]⟩ (bl 17 8161) (pp n (pp n (pp (xS (aB.length+1) (KH aB aX v5 v7) (Zz (Jg aB aX v5 v7))) (pp (fl v5 (pp (xF (KH aB aX v5 v7)) nn)) (ww k5 u))))))) (fun k5=>(lb (fun k6=>let p:=xL (aB.length+1) (Jg aB aX v5 v7).length;(sl Dt 81 [] ⟨[0,1,2,3,4,5,6,7,12],[],Gb,Ga⟩ ⟨[],c,[]⟩ (bl 19 90081) (pp p (pp p (pp (xS (aB.length+1) (KH aB aX v5 v7) (Zz (Jg aB aX v5 v7))) (pp (fl v5 (pp (xF (KH aB aX v5 v7)) nn)) (ww k6 u))))))) (fun k6=>trivial)))))))))) (fun k3=>(lo fun bZ=>let t:=ww bZ (tt k3 (tt k2 d));(lb (fun k4=>let m:=xL (aB.length+1) (Jg aB aX v5 v7).length;(sl Dt 81 [] ⟨[0,1,2,3,4,5,6,7,12],[],Gb,Ga⟩ ⟨[],c,[]⟩ (bl 17 1) (pp m (pp m (pp (xS (aB.length+1) (KH aB aX v5 v7) (Zz (Jg aB aX v5 v7))) (pp (fl v5 (pp (xF (KH aB aX v5 v7)) nn)) (ww k4 t))))))) (fun k4=>(lb (fun k5=>let o:=xL (aB.length+1) (Jg aB aX v5 v7).length;(sl Dt 81 [] ⟨[0,1,2,3,4,5,6,7,12],[],Gb,Ga⟩ ⟨[],c,[]⟩ (bl 19 81921) (pp o (pp o (pp (xS (aB.length+1) (KH aB aX v5 v7) (Zz (Jg aB aX v5 v7))) (pp (fl v5 (pp (xF (KH aB aX v5 v7)) nn)) (ww k5 t))))))) (fun k5=>trivial)))))))))))))) (fun k0=>(lb (fun k1=>(lr 11 3 [1,1,1,1,0] 1 16 [(4,.nils),(5,(ii 4))] (sl Dt 37 [] (a8 [4,5]) a6 (bl 2 2) (tt k1 (tt k0 nn))))) (fun k1=>(lr 11 3 [1,1,1,1,0] 1 16 [(4,(.dat aB.length (Zz aB))),(5,(ii 0))] (sl Dt 39 [] ⟨[],[8],[some [4,5]],[]⟩ ⟨[(4,.frz aB.length aB.length (Zz aB) (Zz aB))],[],[]⟩ (bl 2 0) (pp (xZ (Cm 2 2 0 aB.length aB.length (Zz aB)) aB.length (Zz aB)) (pp (xL aB.length aB.length) (pp (xS aB.length (Zz aB) (Zz aB)) (pp (fl aB nn) (tt k1 (tt k0 nn))))))))))))
theorem w0n (q:Op) (l0:List R2) (l1:List R2):Xw prog (Zy prog (FU q)) (Gm q l0 l1) (Zm prog (FU q) [(.dat l0.length (Zz l0)),(.dat l1.length (Zz l1))] true []) (ZN q l0 l1):=by cases q <;> exact (lo fun bN=>(lb (fun k0=>(lr 11 3 [1,1,1,1,0] 1 16 [(4,.nils),(5,(ii (Dp (B3 l0))))] (sl Dt 40 [] (a8 [4,5]) a6 [true] (tt k0 (pp (pp (xr l0) (xw bN)) nn))))) (fun k0=>(lo fun aE=>(lb (fun k1=>(lr 11 3 [1,1,1,1,0] 1 16 [(4,.nils),(5,(ii (Dp (B3 l1))))] (sl Dt 54 [] (a8 [4,5]) a6 (bl 2 2) (tt k1 (pp (pp (xr l1) (xw aE)) (tt k0 (pp (pp (xr l0) (xw bN)) nn))))))) (fun k1=>(sl Dt 124 [(227,3,Zz ([]:List R3))] ⟨[6,0,1,2,3,4,5,7],[],K5,K7⟩ ⟨[(3,.grow 7 3)],[],[]⟩ (bl 3 4) (pp (fl ([]:List R3) nn) (tt k1 (pp (pp (xr l1) (xw aE)) (tt k0 (pp (pp (xr l0) (xw bN)) nn))))))))))))
theorem u4j (q:Op) (l0:List R2) (l1:List R2) (n:Nat) (vs:List B2) (h:Zo (Vx q l0 l1) n (ZN q l0 l1)=.ret vs):Uj prog (Zy prog (FU q)) (Zm prog (FU q) [(.dat l0.length (Zz l0)),(.dat l1.length (Zz l1))] true []) vs:=by have:=Zb (v0q q l0 l1) n _ (w0n q l0 l1);rwa [h] at this
def HS (k:Nat) (a b:List R2):Int:=bif Dp a != 0 then Dp a else bif Dp b != 0 then Dp b else D7 (Cx k a b).length
theorem y3v (i:Int) (l:List R2):(Vu i l).length =2*l.length:=by
 induction l with
 | nil=>rfl
 | cons r l ih=>grind [Vu]
theorem x3f (j:Int) (l:List R2) (i:Nat) (h:i<l.length):Vu j (l.drop i)=Vu j [rd l i]++Vu j (l.drop (i+1)):=by rw [Yg h];rfl
theorem u2b {j:Int} {l:List R2} {e:R3} (h:e∈Vu j l):e.b=j/\(e.c=1\/e.c= -1):=by
 obtain ⟨s,_,h⟩:=AK.1 h
 grind
theorem w6v (f:Bool->Bool->Bool) (e:R3) (r:List R3) (o p last:Int) (inn:Bool) (out:List R2):EI f (e::r) o p last inn out=EI f r (bif e.b == 0 then o+e.c else o) (bif e.b == 0 then p else p+e.c) e.a (f (decide ((bif e.b == 0 then o+e.c else o)>0)) (decide ((bif e.b == 0 then p else p+e.c)>0))) (Jx out last inn e.a):=rfl
section
variable (q:Op) (a b:List R2)
theorem j1g (L:List R3) (hL:L.length<=2000) (hE: ∀i,i<L.length->((rd L i).b =0\/(rd L i).b =1)/\((rd L i).c =1\/(rd L i).c = -1)): ∀(k i:Nat) (o p last:Int) (inn:Bool) (out:List R2),i+k=L.length-> -(i:Int)<=o->o<=i-> -(i:Int)<=p->p<=i->out.length<=i->
  ∃n,Zo (Vx q a b) n (.to (.h2 L (L.length:Int) (i:Int) o p last inn out))=.ret (Qo (EI (Cp q.k) (L.drop i) o p last inn out))
 | 0,i,o,p,last,inn,out,h,ho1,ho2,hp1,hp2,hout=>by
  refine ⟨1,?_⟩;rw [Zx,As (by omega)];unfold Qo;show _=Xz.ret (bif decide ((out.length:Int)>400) then _ else _);rcases Zs (decide ((out.length:Int)>400)) with g | g <;>
  simp (disch:=omega) only [Vx,Yh,g,Ab,Aa,Zp];rfl
 | k + 1,i,o,p,last,inn,out,h,ho1,ho2,hp1,hp2,hout=>by
  obtain ⟨hb,hc⟩:=hE i (by omega);have hcl:=z5b out last inn (rd L i).a;have hcf: ∀x y,cV q x y=Cp q.k x y:=fun _ _=>rfl;have hlt:decide ((i:Int)<(L.length:Int))=true:=Al (by omega);have hw:wrap .i64 (o+(rd L i).c)=o+(rd L i).c :=Zj (by grind);have hw':wrap .i64 (p+(rd L i).c)=p+(rd L i).c :=Zj (by grind);have key: ∀(o' p':Int) (out':List R2),-((i+1:Nat):Int)<=o'->o'<=((i+1:Nat):Int)-> -((i+1:Nat):Int)<=p'->p'<=((i+1:Nat):Int)->out'=Jx out last inn (rd L i).a ->
    Vx q a b (.h2 L (L.length:Int) (i:Int) o p last inn out)=.to (.h2 L (L.length:Int) ((i+1:Nat):Int) o' p' (rd L i).a (Cp q.k (decide (o'>0)) (decide (p'>0))) out')->
    EI (Cp q.k) (L.drop i) o p last inn out=EI (Cp q.k) (L.drop (i+1)) o' p' (rd L i).a (Cp q.k (decide (o'>0)) (decide (p'>0))) out'->
    ∃n,Zo (Vx q a b) n (.to (.h2 L (L.length:Int) (i:Int) o p last inn out))=.ret (Qo (EI (Cp q.k) (L.drop i) o p last inn out)):=fun o' p' out' b1 b2 b3 b4 eo hs hq=>by
   obtain ⟨n,hn⟩:=j1g L hL hE k (i+1) o' p' (rd L i).a (Cp q.k (decide (o'>0)) (decide (p'>0))) out' (by omega) b1 b2 b3 b4 (by grind);refine ⟨n+1,?_⟩;rw [Zx,hs,hq];exact hn
  rcases hb with hb | hb
  .have hz:decide ((rd L i).b =Int.ofNat 0)=true:=Al hb;have hb0:((rd L i).b == 0)=true:=by rw [hb];rfl
   refine key (o+(rd L i).c) p (Jx out last inn (rd L i).a) (by grind) (by grind) (by omega) (by omega) rfl ?_ ?_
   .unfold Jx;cases inn with
    | false=>simp (disch:=omega) only [Vx,hlt,hz,hw,hw',hcf,Yy,Yz,Yu,Zj,Zw,Zk,Af,Ah,Ab,Aa,AB]
    | true=>
     rcases Zs (last == (rd L i).a) with g | g
     .simp (disch:=omega) only [Vx,hlt,hz,hw,hw',hcf,Yy,Yz,Yu,Zj,Zw,Zk,Af,Ah,Ab,Aa,Ay,g]
     .by_cases h0:0<out.length
      .rw [Al h0,Ai];rcases Zs ((rd out (out.length - 1)).b == last) with q2 | q2
       .simp (disch:=omega) only [Vx,hlt,hz,hw,hw',hcf,Yy,Yz,Yu,Zj,Zw,Zk,Af,Ah,Ab,Aa,Ay,g,q2,Yt,Zn]
       .simp (disch:=omega) only [Vx,hlt,hz,hw,hw',hcf,Yy,Yz,Yu,Zj,Zw,Zk,Af,Ah,Ab,Aa,Ay,Ai,g,q2,Yt,Zn,Yk,Zh,Yc,Ao]
      .rw [Av h0,Be];simp (disch:=omega) only [Vx,hlt,hz,hw,hw',hcf,Yy,Yz,Yu,Zj,Zw,Zk,Af,Ah,Ab,Aa,Ay,Ai,g,Wu,Yk,Zh,Yc,Ao]
   simp_all [Yg,w6v]
  .have hz0:decide ((rd L i).b =Int.ofNat 0)=false:=Av (by grind);have hz:decide ((rd L i).b =Int.ofNat 1)=true:=Al hb;have hb0:((rd L i).b == 0)=false:=by rw [hb];rfl
   refine key o (p+(rd L i).c) (Jx out last inn (rd L i).a) (by omega) (by omega) (by grind) (by grind) rfl ?_ ?_
   .unfold Jx;cases inn with
    | false=>simp (disch:=omega) only [Vx,hlt,hz0,hz,hw,hw',hcf,Yy,Yz,Yu,Zj,Zw,Zk,Af,Ah,Ab,Aa,AB]
    | true=>
     rcases Zs (last == (rd L i).a) with g | g
     .simp (disch:=omega) only [Vx,hlt,hz0,hz,hw,hw',hcf,Yy,Yz,Yu,Zj,Zw,Zk,Af,Ah,Ab,Aa,Ay,g]
     .by_cases h0:0<out.length
      .rw [Al h0,Ai];rcases Zs ((rd out (out.length - 1)).b == last) with q2 | q2
       .simp (disch:=omega) only [Vx,hlt,hz0,hz,hw,hw',hcf,Yy,Yz,Yu,Zj,Zw,Zk,Af,Ah,Ab,Aa,Ay,g,q2,Yt,Zn]
       .simp (disch:=omega) only [Vx,hlt,hz0,hz,hw,hw',hcf,Yy,Yz,Yu,Zj,Zw,Zk,Af,Ah,Ab,Aa,Ay,Ai,g,q2,Yt,Zn,Yk,Zh,Yc,Ao]
      .rw [Av h0,Be];simp (disch:=omega) only [Vx,hlt,hz0,hz,hw,hw',hcf,Yy,Yz,Yu,Zj,Zw,Zk,Af,Ah,Ab,Aa,Ay,Ai,g,Wu,Yk,Zh,Yc,Ao]
   simp_all [Yg,w6v]
theorem j1h (ha:a.length<=400) (hb:b.length<=400) (va:a.all C7=true) (vb:b.all C7=true): ∀(k i:Nat) (E:List R3),i+k=b.length->E.length=2*a.length+2*i->E++Vu 1 (b.drop i)=Vu 0 a++Vu 1 b-> ∃n,Zo (Vx q a b) n (.to (.h1 E (i:Int)))=.ret (Qo (Cx q.k a b))
 | 0,i,E,h,hl,he=>by
  rw [As (by omega),show Vu 1 []=[] from rfl,AE] at he;subst he;have hbnd:DZ (Vu 0 a++Vu 1 b)=true:=by
   grind [x8o,DZ]
  have hsl:=y7f (Vu 0 a++Vu 1 b);obtain ⟨hp,_⟩:=J8 _ hbnd;obtain ⟨n,hn⟩:=j1g q a b (Cj (Vu 0 a++Vu 1 b)) (by grind) (fun i hi=>by
   have hm:rd (Cj (Vu 0 a++Vu 1 b)) i∈Vu 0 a++Vu 1 b:=hp.mem_iff.1 (by grind [Yo])
   grind [u2b]) (Cj (Vu 0 a++Vu 1 b)).length 0 0 0 0 false [] (Af _) (by omega) (by omega) (by omega) (by omega) (AA _)
  refine ⟨n+1,?_⟩;rw [Zx];have step:Vx q a b (.h1 (Vu 0 a++Vu 1 b) (i:Int))=.to (.h2 (Cj (Vu 0 a++Vu 1 b)) (((Vu 0 a++Vu 1 b).length :Nat):Int) 0 0 0 0 false []):=by
   grind [Vx,Zd]
  rw [step,<-hsl];exact hn
 | k+1,i,E,h,hl,he=>by rw [x3f 1 b i (by omega),<-AM] at he;obtain ⟨n,hn⟩:=j1h ha hb va vb k (i+1) (E++Vu 1 [rd b i]) (by omega) (by grind [y3v]) he;refine ⟨n+1,?_⟩;rw [Zx];simp (disch:=omega) only [Vx,Yk,Zh,Yc,Ao,Ai,Yy,Yz,Yu,Zj,Zw,Zk,Af,Ah,Ab,Aa];exact hn
theorem j1i (ha:a.length<=400) (hb:b.length<=400) (va:a.all C7=true) (vb:b.all C7=true): ∀(k i:Nat) (E:List R3),i+k=a.length->E.length=2*i->E++Vu 0 (a.drop i)=Vu 0 a-> ∃n,Zo (Vx q a b) n (.to (.h0 E (i:Int)))=.ret (Qo (Cx q.k a b))
 | 0,i,E,h,hl,he=>by
  rw [As (by omega),show Vu 0 []=[] from rfl,AE] at he;subst he;obtain ⟨n,hn⟩:=j1h q a b ha hb va vb b.length 0 (Vu 0 a) (Af _) (by omega) (by grind);refine ⟨n+1,?_⟩
  grind [Zx,Vx]
 | k+1,i,E,h,hl,he=>by rw [x3f 0 a i (by omega),<-AM] at he;obtain ⟨n,hn⟩:=j1i ha hb va vb k (i+1) (E++Vu 0 [rd a i]) (by omega) (by grind [y3v]) he;refine ⟨n+1,?_⟩;rw [Zx];simp (disch:=omega) only [Vx,Yk,Zh,Yc,Ao,Ai,Yy,Yz,Yu,Zj,Zw,Zk,Af,Ah,Ab,Aa];exact hn
theorem j7w : ∃n,Zo (Vx q a b) n (ZN q a b)=.ret (Cy (HS q.k a b) (Cx q.k a b)):=by
 unfold ZN;have o: ∀l,Tn l=true:=fun _=>rfl;simp only [Zd,o,Ab];rcases Zs (Dp a != 0) with q1 | q1
 .exact ⟨0,by simp only [HS,q1,Ab,Uv _ q1];rfl⟩
 rcases Zs (Dp b != 0) with q2 | q2
 .exact ⟨0,by simp only [HS,q1,q2,Ab,Aa,Uv _ q2];rfl⟩
 obtain ⟨a1,a2,_⟩:=(ZE a).1 (by grind);obtain ⟨b1,b2,_⟩:=(ZE b).1 (by grind);obtain ⟨n,hn⟩:=j1i q a b a1 b1 a2 b2 a.length 0 [] (Af _) rfl (by grind)
 grind [HS,Z2]
end
def ET (q:Op) (a b:List R2):List R2:=D8 (HS q.k a b) (Cx q.k a b)
def TR (q:Op) (a b:List R2):Int:=HS q.k a b
def x3w (q:Op) (a b:List R2):Bool:=true
def WI (q:Op):List B2->Option (B2×Bool)
 | [a1,a2]=>match CS R2 a1,CS R2 a2 with
  | some (L1,g1,n1),some (L2,g2,n2)=>some (.tup [.dat (ET q L1 L2).length (Zz (ET q L1 L2)),.int .i64 (TR q L1 L2)],CO R2 n1 g1&&(CO R2 n2 g2&&x3w q L1 L2))
  | _,_=>none
 | _=>none
theorem u1n (q:Op) {S:B4} (hS:Zv prog S):Zv prog (S.with (FU q) (WI q)):=by
 refine Em hS (by cases q <;> kernel_rfl) fun args v h=> ?_;unfold WI at h;split at h
 .rename_i a1 a2;split at h
  .rename_i L1 g1 n1 L2 g2 n2 e1 e2;simp only [Ad,Ac,Ae] at h;obtain ⟨rfl,ho1,ho2,_⟩:=h;obtain ⟨N,hN⟩:=j7w q L1 L2;exact ⟨_,_,(.cons (Yn e1 ho1) (.cons (Yn e2 ho2) .nil)),H7 _ _,u4j q L1 L2 N _ hN,3,JU _ _⟩
  .cases h
 .cases h
def Ub :B4:=((Ua.with (FU .u) (WI .u)).with (FU .e) (WI .e)).with (FU .d) (WI .d)
theorem Gf :Zv prog Ub:=u1n .d (u1n .e (u1n .u Dt))
inductive I7 where
 | h0 (v8:Int)
def PL (l0:List R4):I7->CB
 | .h0 v8=>⟨⟨19,0,true⟩,none,(Zg prog 192 [1,0,1,0,0] 0),none,(Zy prog 6),⟨Yj [(0,(.dat l0.length (Zz l0))),(1,(.fn 182 [])),(7,(ii (l0.length:Int))),(8,(ii v8))],Vk [] 0,0,[],true⟩,[⟨⟨9,0,true⟩,(Vm prog 181 [1,0] 2),(Zg prog 181 [1,0] 1),none,(Zy prog 6),Yj [(5,(.dat l0.length (Zz l0))),(6,(.fn 182 []))]⟩,⟨⟨23,0,true⟩,(Vm prog 157 [1,1,0,0] 1),(Zg prog 157 [1,1,0,0] 1),none,(Zy prog 9),Yj [(0,(.dat l0.length (Zz l0))),(8,(.dat l0.length (Zz l0)))]⟩],.leaf⟩
def MR :List (Option (List Nat)):=[some [0,1,7,8],some [5,6],some [0,8]]
def MS :List (Option (List Nat)):=[]
def H0 (l0:List R4):I7->Xz I7
 | .h0 v8=>(bif (decide (v8<(l0.length:Int))) then (bif ((decide (0<=v8/\v8<(l0.length:Int)))&&true) then (bif (!(Pj (rd l0 v8.toNat).a (rd l0 v8.toNat).b (rd l0 v8.toNat).c (rd l0 v8.toNat).d)) then (bif (decide (v8>=0)) then (.ret [(.int .i64 8)]) else (bif (J5 (B3 l0)) then (bif ((F5 (B3 l0)) != 0) then (.ret [(.int .i64 8)]) else (bif (Wg (B3 (Ws (B3 l0))) (B3 l0)) then (bif (!(Uw (B3 (Ws (B3 l0))) (B3 l0))) then (.ret [(.int .i64 8)]) else (.ret [(.int .i64 0)])) else .stuck)) else .stuck)) else (.to (.h0 (wrap .i64 (v8+1))))) else .stuck) else (bif (J5 (B3 l0)) then (bif ((F5 (B3 l0)) != 0) then (.ret [(.int .i64 8)]) else (bif (Wg (B3 (Ws (B3 l0))) (B3 l0)) then (bif (!(Uw (B3 (Ws (B3 l0))) (B3 l0))) then (.ret [(.int .i64 8)]) else (.ret [(.int .i64 0)])) else .stuck)) else .stuck))
def Ta (l0:List R4):Xz I7:=(bif (decide ((l0.length:Int)>400)) then (.ret [(.int .i64 4)]) else (.to (.h0 0)))
theorem v2e (l0:List R4): ∀s,Xw prog (Zy prog 157) (PL l0) (PL l0 s) (H0 l0 s)
 | .h0 v8=>(lb (fun k0=>(lo fun aE=>let c:=ww aE (tt k0 nn);(lb (fun k1=>(lb (fun k2=>(lr 23 157 [1,1,0,1,0,0] 1 9 [(2,(ii 8))] (sl Gf 53 [] (a8 [2]) a6 (CA 3 []) (tt k2 (tt k1 c))))) (fun k2=>(lo fun cG=>let a:=pp (pp (xr l0) (xw cG)) (tt k2 (tt k1 c));(lb (fun k3=>(lr 23 157 [1,1,1,0,1,1,0,0] 1 9 [(2,(ii 8))] (sl Gf 77 [] (a8 [2]) a6 (bl 8 251) (tt k3 a)))) (fun k3=>(lo fun bZ=>let d:=pp (xr l0) (xw bZ);(lb (fun k4=>(lr 23 157 [1,1,1,0,1,1,0,0] 1 9 [(2,(ii 8))] (sl Gf 77 [] (a8 [2]) a6 (bl 8 131) (tt k4 (pp (pp (xI R4 (Ws (B3 l0)).length (Zz (Ws (B3 l0)))) d) (tt k3 a)))))) (fun k4=>(lr 23 3 [1,1,1,1,0] 1 9 [(2,(ii 0))] (sl Gf 78 [] (a8 [2]) a6 (bl 8 3) (tt k4 (pp (pp (xI R4 (Ws (B3 l0)).length (Zz (Ws (B3 l0)))) d) (tt k3 a)))))))))))))) (fun k1=>(sl Gf 44 [] ⟨[],[],MR,MS⟩ a6 (bl 2 1) (tt k1 c)))))) (fun k0=>(lo fun aE=>let b:=pp (pp (xr l0) (xw aE)) (tt k0 nn);(lb (fun k1=>(lr 23 157 [1,1,1,0,1,1,0,0] 1 9 [(2,(ii 8))] (sl Gf 46 [] (a8 [2]) a6 (bl 7 124) (tt k1 b)))) (fun k1=>(lo fun bU=>let e:=pp (xr l0) (xw bU);(lb (fun k2=>(lr 23 157 [1,1,1,0,1,1,0,0] 1 9 [(2,(ii 8))] (sl Gf 46 [] (a8 [2]) a6 (bl 7 64) (tt k2 (pp (pp (xI R4 (Ws (B3 l0)).length (Zz (Ws (B3 l0)))) e) (tt k1 b)))))) (fun k2=>(lr 23 3 [1,1,1,1,0] 1 9 [(2,(ii 0))] (sl Gf 47 [] (a8 [2]) a6 (bl 7 0) (tt k2 (pp (pp (xI R4 (Ws (B3 l0)).length (Zz (Ws (B3 l0)))) e) (tt k1 b)))))))))))))
theorem w2h (l0:List R4):Xw prog (Zy prog 157) (PL l0) (Zm prog 157 [(.dat l0.length (Zz l0))] true []) (Ta l0):=(lb (fun k0=>(lr 23 157 [1,0,1,0,0] 1 9 [(2,(ii 4))] (sl Gf 16 [] (a8 [2]) a6 [true] (tt k0 nn)))) (fun k0=>(sl Gf 40 [] ⟨[],[],MR,MS⟩ a6 [false] (tt k0 nn))))
theorem u6y (l0:List R4) (n:Nat) (vs:List B2) (h:Zo (H0 l0) n (Ta l0)=.ret vs):Uj prog (Zy prog 157) (Zm prog 157 [(.dat l0.length (Zz l0))] true []) vs:=by have:=Zb (v2e l0) n _ (w2h l0);rwa [h] at this
def Fp (l:List R4):Int:=bif F5 l != 0 then 8 else bif Uw (Ws l) l then 0 else 8
def Cz (l:List R4):Int:=bif decide (400<l.length) then 4 else bif l.all Vo then Fp l else 8
def Tj (l:List R4):Bool:=true
theorem w3i (l:List R4):(Ws l).length <=400:=by grind [Ws,Mi,D8,D7]
theorem j4k (l:List R4) (hl:l.length<=400): ∀(k i:Nat),i+k=l.length->(∀s∈l.take i,Vo s=true)-> ∃n,Zo (H0 l) n (.to (.h0 (i:Int)))=.ret (bif l.all Vo then [.int .i64 (Fp l)] else [.int .i64 8])
 | 0,i,h,ht=>by
  have hv:l.all Vo=true:=At.2 fun s hs=>ht s (by grind);have w:J5 l=true:=Al hl;refine ⟨1,?_⟩;rw [Zx,hv,Ab];have w2:Wg (Ws l) l=true:=Al (by have:=w3i l;omega);unfold Fp;rcases Zs (F5 l != 0) with q | q
  .grind [H0,Zd,Zp]
  .rcases Zs (Uw (Ws l) l) with q2 | q2 <;>
   simp (disch:=omega) only [H0,Zd,w,w2,q,q2,Yh,Ay,AB,Ab,Aa,Zp]
 | k+1,i,h,ht=>by
  have hi:i<l.length:=by omega
  have hs:H0 l (.h0 (i:Int))=bif Vo (rd l i) then .to (.h0 ((i+1:Nat):Int)) else .ret [.int .i64 8]:=by have e:Pj (rd l i).a (rd l i).b (rd l i).c (rd l i).d =Vo (rd l i):=rfl;simp (disch:=omega) only [H0,e,S7,UR,w9m,Yz,Zj,Zw,Zk,Ah,Ab,Aa]
  rcases Zs (Vo (rd l i)) with q | q
  .obtain ⟨n,hn⟩:=j4k l hl k (i+1) (by omega) (fun s hs=>by
    rw [AW] at hs
    grind [Yo])
   refine ⟨n+1,?_⟩
   grind [Zx]
  .have hv:l.all Vo=false:=A3.2 fun e=>by
    grind [Yo]
   refine ⟨1,?_⟩
   grind [Zx,Zp]
theorem u6x (l:List R4): ∃n,Zo (H0 l) n (Ta l)=.ret (bif decide (400<l.length) then [.int .i64 4] else bif l.all Vo then [.int .i64 (Fp l)] else [.int .i64 8]):=by
 unfold Ta;by_cases h:400<l.length
 .refine ⟨0,?_⟩;rw [Al h,Yt (show (l.length:Int)>400 by omega)];rfl
 .obtain ⟨n,hn⟩:=j4k l (by omega) l.length 0 (Af _) (fun s hs=>by simp at hs)
  grind
theorem t0m (l:List R4) (h:Tj l=true): ∃n,Zo (H0 l) n (Ta l)=.ret [.int .i64 (Cz l)]:=by
 obtain ⟨n,hn⟩:=u6x l
 grind [Cz]
def QT :List B2->Option (B2×Bool)
 | [a0]=>match CS R4 a0 with
  | some (L0,g0,n0)=>some (.int .i64 (Cz L0),CO R4 n0 g0&&(Tj L0))
  | _=>none
 | _=>none
theorem t3i {S:B4} (hS:Zv prog S):Zv prog (S.with w8k QT):=by
 refine Qn hS (by kernel_rfl) fun args v h=> ?_;unfold QT at h;split at h
 .rename_i a0;split at h
  .rename_i L0 g0 n0 e0;simp only [Ad,Ac,Ae] at h;obtain ⟨rfl,ho0,hw⟩:=h;obtain ⟨N,hN⟩:=t0m L0 hw;exact ⟨_,_,(.cons (Yn e0 ho0) .nil),rfl,u6y L0 N _ hN,3,rfl⟩
  .cases h
 .cases h
def Uc :B4:=(Ub.with w8k QT)
theorem Qi :Zv prog Uc:=(t3i Gf)
inductive I6 where
 | h0 (v16:Int) (aD:List Int)
 | h1 (v16:Int) (aD:List Int)
 | h2 (v4:Int) (aH:List R4) (aW:List R2) (bE:Int) (bF:Int) (aF:Nat) (aK:List Int)
 | h3 (v4:Int) (v38:Int) (aH:List R4) (aW:List R2) (bE:Int) (bF:Int) (aF:Nat) (aK:List Int) (aG:Int) (bC:Int) (aA:List R2)
 | h4 (v4:Int) (v38:Int) (aH:List R4) (aW:List R2) (bE:Int) (bF:Int) (aF:Nat) (aK:List Int) (aG:Int) (bC:Int) (aA:List R2) (aJ:List R2)
 | h5 (v1:Int) (v2:Int) (v71:List R2) (v72:Int) (v73:Int) (aY:Int) (aC:List R4) (aZ:Int) (aF:Nat) (aK:List Int) (aG:List R2) (bC:List R2)
 | h6 (v2:Int) (v8:Int) (dG:Int) (dH:List R2) (aY:Int) (aC:List R4) (bD:List R2) (aZ:Int) (bT:Int) (bP:Nat) (bX:List Int) (aA:List R2) (aJ:List R2)
def Nk (q:Op) (l0:List R4) (l1:List R4):CV:=⟨⟨11,0,true⟩,(Vm prog (D2 q) [1,0] 2),(Zg prog (D2 q) [1,0] 1),none,(Zy prog 16),Yj [(6,(.dat l0.length (Zz l0))),(7,(.dat l1.length (Zz l1)))]⟩
abbrev x2d (aC:List R4) (v8:Int) (v2:Int):=(aC.set (0+(tn v8)) (R4.mk (rd aC (0+(tn v8))).a (rd aC (0+(tn v8))).b v2 (rd aC (0+(tn v8))).d))
def v8n :=(DH [(0,⟨.ready,none,49,Yj [(5,(.ptr 1 0)),(6,(.ptr 2 0)),(7,(.ptr 3 0)),(9,(.ptr 4 0))],[23],(Wc prog 84 [1,1,1,0,1,0,0]),(Wc prog 84 [1,1,1,0,1,0,1])⟩)])
abbrev Sy (aD:List Int):=(Wk (Yq aD.length (CP (Zz (Xm (Yq aD.length (CP (Zz aD))))))))
def v8m :CV:=⟨⟨49,0,true⟩,none,(.inRangeFunc 0::(Zg prog 84 [1,1,1,0,1,0] 1)),none,(Zy prog 84),Yj [(6,(.ptr 2 0)),(7,(.ptr 3 0)),(9,(.ptr 4 0))]⟩
def Nl (l0:List R4) (l1:List R4):CG:=⟨[(.dat l0.length (Zz l0)),(.dat l1.length (Zz l1))],81,none⟩
def j4j :CV:=⟨⟨49,0,true⟩,(Vm prog 84 [1,1,1,0,0] 3),(Zg prog 84 [1,1,1,0,0] 1),none,(Zy prog 84),Yj [(5,(.ptr 3 0)),(6,(.ptr 4 0)),(7,(.ptr 5 0)),(9,(.ptr 6 0)),(21,(.sl 1 0 2 (.un 1)))]⟩
abbrev x2b (aA:List R2) (l0:List R4) (v38:Int):=(aA++[(R2.mk (rd l0 (tn v38)).b (rd l0 (tn v38)).d)])
abbrev x2a (aJ:List R2) (l1:List R4) (v38:Int):=(aJ++[(R2.mk (rd l1 (tn v38)).b (rd l1 (tn v38)).d)])
def Nm (q:Op):CG:=⟨[(.fn (FU q) [])],123,none⟩
abbrev y2d (aC:List R4) (v1:Int) (v71:List R2) (v73:Int) (v2:Int):=(aC++[(R4.mk v1 (rd v71 (tn v73)).a v2 (rd v71 (tn v73)).b)])
abbrev y2c (aD:List Int) (l0:List R4) (v16:Int):=(aD++[(rd l0 (tn v16)).a,(rd l0 (tn v16)).c])
abbrev y2b (aD:List Int) (l1:List R4) (v16:Int):=(aD++[(rd l1 (tn v16)).a,(rd l1 (tn v16)).c])
def x4o :CG:=⟨[(.sl 8 0 2 (.un 1))],197,none⟩
def v8o :=(Zg prog 158 [1,0,0,1,0,0,1,0,1,0,0,1,1,0,0,1,1,0,0] 0)
def Gr (q:Op) (l0:List R4) (l1:List R4):I6->CB
 | .h0 v16 aD=>⟨⟨34,0,true⟩,none,(Zg prog 119 [1,1,0,1,0,0,1,1,0,0,1,1,0,0] 0),none,(Zy prog 9),⟨Yj [(1,(.ptr 0 0)),(3,(.ptr 2 0)),(8,(.sl 1 0 2 (.un 1))),(9,(ii 2)),(10,(ii 0)),(14,(.dat l0.length (Zz l0))),(15,(ii (l0.length:Int))),(16,(ii v16))],Vk [⟨[(.sl 1 0 2 (.un 1))],197,none⟩,(Nl l0 l1),⟨[(.sla 7 1 0 aD.length (.un 1))],125,none⟩,(Nm q),⟨[.nils],81,none⟩,⟨[(ii 0)],24,none⟩,⟨[.nils,.nils,(ii 0),(ii 0)],157,none⟩,⟨Ya aD.length (Zz aD),3,some ⟨1,aD.length,(Zz aD)⟩⟩] 0,8,[],true⟩,[j4j,(Nk q l0 l1)],.leaf⟩
 | .h1 v16 aD=>⟨⟨34,0,true⟩,none,(Zg prog 119 [1,1,0,1,0,0,1,1,0,0,1,1,0,0] 0),none,(Zy prog 9),⟨Yj [(1,(.ptr 0 0)),(3,(.ptr 2 0)),(8,(.sl 1 0 2 (.un 1))),(9,(ii 2)),(10,(ii 1)),(14,(.dat l1.length (Zz l1))),(15,(ii (l1.length:Int))),(16,(ii v16))],Vk [⟨[(.sl 1 0 2 (.un 1))],197,none⟩,(Nl l0 l1),⟨[(.sla 7 1 0 aD.length (.un 1))],125,none⟩,(Nm q),⟨[.nils],81,none⟩,⟨[(ii 0)],24,none⟩,⟨[.nils,.nils,(ii 0),(ii 0)],157,none⟩,⟨Ya aD.length (Zz aD),3,some ⟨1,aD.length,(Zz aD)⟩⟩] 0,8,[],true⟩,[j4j,(Nk q l0 l1)],.leaf⟩
 | .h2 v4 aH aW bE bF aF aK=>⟨⟨76,0,true⟩,none,(Zg prog 158 [1,0,0] 0),none,[],⟨Yj [(0,(.yld 0)),(1,(.ptr 5 0)),(2,(.ptr 7 0)),(4,(ii v4))],Ch [(1,(Nm q)),(2,⟨[.nils],81,none⟩),(3,⟨[(ii 0)],24,none⟩),(4,⟨[(.sla 9 4 0 aH.length (.un 4)),(.dat aW.length (Zz aW)),(ii bE),(ii bF)],157,none⟩),(5,⟨[(.sla 6 1 0 aF (.un 1))],125,none⟩),(6,⟨Ya aK.length (Zz aK),3,some ⟨1,aK.length,(Zz aK)⟩⟩),(7,x4o),(8,(Nl l0 l1)),(9,⟨Ya aH.length (Zz aH),116,some ⟨4,aH.length,(Zz aH)⟩⟩)],10,[],true⟩,[v8m,(Nk q l0 l1)],v8n⟩
 | .h3 v4 v38 aH aW bE bF aF aK aG bC aA=>⟨⟨76,0,true⟩,none,v8o,none,[],⟨Yj [(0,(.yld 0)),(1,(.ptr 5 0)),(2,(.ptr 7 0)),(4,(ii v4)),(5,(.ptr 9 0)),(6,(ii 0)),(29,(.sl 8 0 2 (.un 1))),(30,(ii 2)),(31,(ii 0)),(36,(.dat l0.length (Zz l0))),(37,(ii (l0.length:Int))),(38,(ii v38))],Ch [(1,(Nm q)),(2,⟨[.nils],81,none⟩),(3,⟨[(ii 0)],24,none⟩),(4,⟨[(.sla 12 4 0 aH.length (.un 4)),(.dat aW.length (Zz aW)),(ii bE),(ii bF)],157,none⟩),(5,⟨[(.sla 6 1 0 aF (.un 1))],125,none⟩),(6,⟨Ya aK.length (Zz aK),3,some ⟨1,aK.length,(Zz aK)⟩⟩),(7,x4o),(8,(Nl l0 l1)),(9,⟨[(ii aG),(ii bC),(.sl 10 0 2 (.ex 2))],162,none⟩),(10,⟨[(.sla 11 2 0 aA.length (.un 2)),.nils],155,none⟩),(11,⟨Ya aA.length (Zz aA),176,some ⟨2,aA.length,(Zz aA)⟩⟩),(12,⟨Ya aH.length (Zz aH),116,some ⟨4,aH.length,(Zz aH)⟩⟩)],13,[],true⟩,[v8m,(Nk q l0 l1)],v8n⟩
 | .h4 v4 v38 aH aW bE bF aF aK aG bC aA aJ=>⟨⟨76,0,true⟩,none,v8o,none,[],⟨Yj [(0,(.yld 0)),(1,(.ptr 5 0)),(2,(.ptr 7 0)),(4,(ii v4)),(5,(.ptr 9 0)),(6,(ii 1)),(29,(.sl 8 0 2 (.un 1))),(30,(ii 2)),(31,(ii 1)),(36,(.dat l1.length (Zz l1))),(37,(ii (l1.length:Int))),(38,(ii v38))],Ch [(1,(Nm q)),(2,⟨[.nils],81,none⟩),(3,⟨[(ii 0)],24,none⟩),(4,⟨[(.sla 13 4 0 aH.length (.un 4)),(.dat aW.length (Zz aW)),(ii bE),(ii bF)],157,none⟩),(5,⟨[(.sla 6 1 0 aF (.un 1))],125,none⟩),(6,⟨Ya aK.length (Zz aK),3,some ⟨1,aK.length,(Zz aK)⟩⟩),(7,x4o),(8,(Nl l0 l1)),(9,⟨[(ii aG),(ii bC),(.sl 10 0 2 (.ex 2))],162,none⟩),(10,⟨[(.sla 11 2 0 aA.length (.un 2)),(.sla 12 2 0 aJ.length (.un 2))],155,none⟩),(11,⟨Ya aA.length (Zz aA),176,some ⟨2,aA.length,(Zz aA)⟩⟩),(12,⟨Ya aJ.length (Zz aJ),176,some ⟨2,aJ.length,(Zz aJ)⟩⟩),(13,⟨Ya aH.length (Zz aH),116,some ⟨4,aH.length,(Zz aH)⟩⟩)],14,[],true⟩,[v8m,(Nk q l0 l1)],v8n⟩
 | .h5 v1 v2 v71 v72 v73 aY aC aZ aF aK aG bC=>⟨⟨94,0,true⟩,none,(Zg prog 120 [1,1,1,0,0] 0),none,[],⟨Yj [(0,(.ptr 0 0)),(1,(ii v1)),(2,(ii v2)),(71,(.dat v71.length (Zz v71))),(72,(ii v72)),(73,(ii v73))],Ch [(0,⟨[(.sla 10 4 0 aC.length (.un 4)),(.dat v71.length (Zz v71)),(ii aZ),(ii v2)],157,none⟩),(2,(Nm q)),(3,⟨[.nils],81,none⟩),(4,⟨[(ii 0)],24,none⟩),(5,⟨[(.sla 6 1 0 aF (.un 1))],125,none⟩),(6,⟨Ya aK.length (Zz aK),3,some ⟨1,aK.length,(Zz aK)⟩⟩),(7,x4o),(8,(Nl l0 l1)),(9,⟨[(.dat aG.length (Zz aG)),(.dat bC.length (Zz bC))],155,none⟩),(10,⟨Ya aC.length (Zz aC),116,some ⟨4,aC.length,(Zz aC)⟩⟩)],11,[],true⟩,[⟨⟨49,0,true⟩,(Vm prog 84 [1,1,1,0,1,0,1,0,1,1] 5),(Zg prog 84 [1,1,1,0,1,0,1,0,1,1] 1),(some 1),[],Yj [(9,(.ptr 0 0)),(41,(ii v1)),(43,(ii v2)),(44,(.dat v71.length (Zz v71)))]⟩,⟨⟨76,0,true⟩,(Vm prog 158 [1,0,0,1,0,0,1,1,0] 2),(Zg prog 158 [1,0,0,1,0,0,1,1,0] 1),none,[],Yj [(0,(.yld 1)),(1,(.ptr 5 0)),(2,(.ptr 7 0)),(4,(ii aY)),(72,(.yld 1)),(73,(.agg [(ii v1),(ii v2),(.sl 9 0 2 (.ex 2))]))]⟩,⟨⟨49,0,true⟩,none,(.inRangeFunc 1::(Zg prog 84 [1,1,1,0,1,0] 1)),none,(Zy prog 84),Yj [(6,(.ptr 3 0)),(7,(.ptr 4 0)),(9,(.ptr 0 0))]⟩,(Nk q l0 l1)],(DH [(1,⟨.busy,none,49,Yj [(5,(.ptr 2 0)),(6,(.ptr 3 0)),(7,(.ptr 4 0)),(9,(.ptr 0 0))],[23],(Wc prog 84 [1,1,1,0,1,0,0]),(Wc prog 84 [1,1,1,0,1,0,1])⟩)])⟩
 | .h6 v2 v8 dG dH aY aC bD aZ bT bP bX aA aJ=>⟨⟨94,0,true⟩,none,(Zg prog 120 [0,1,0,0,1,0,0] 0),none,[],⟨Yj [(0,(.ptr 0 0)),(2,(ii v2)),(8,(ii v8))],Ch [(0,⟨[(.sla 1 4 0 aC.length (.un 4)),(.dat bD.length (Zz bD)),(ii aZ),(ii bT)],157,none⟩),(1,⟨Ya aC.length (Zz aC),116,some ⟨4,aC.length,(Zz aC)⟩⟩),(3,(Nm q)),(4,⟨[.nils],81,none⟩),(5,⟨[(ii 0)],24,none⟩),(6,⟨[(.sla 7 1 0 bP (.un 1))],125,none⟩),(7,⟨Ya bX.length (Zz bX),3,some ⟨1,bX.length,(Zz bX)⟩⟩),(8,⟨[(.sl 9 0 2 (.un 1))],197,none⟩),(9,(Nl l0 l1)),(10,⟨[(.dat aA.length (Zz aA)),(.dat aJ.length (Zz aJ))],155,none⟩)],11,[],true⟩,[⟨⟨49,0,true⟩,(Vm prog 84 [1,1,1,0,1,0,1,0,1,1] 5),(Zg prog 84 [1,1,1,0,1,0,1,0,1,1] 1),(some 2),[],Yj [(9,(.ptr 0 0)),(41,(ii dG)),(43,(ii v2)),(44,(.dat dH.length (Zz dH)))]⟩,⟨⟨76,0,true⟩,(Vm prog 158 [1,0,0,1,0,0,1,1,0] 2),(Zg prog 158 [1,0,0,1,0,0,1,1,0] 1),none,[],Yj [(0,(.yld 2)),(1,(.ptr 6 0)),(2,(.ptr 8 0)),(4,(ii aY)),(72,(.yld 2)),(73,(.agg [(ii dG),(ii v2),(.sl 10 0 2 (.ex 2))]))]⟩,⟨⟨49,0,true⟩,none,(.inRangeFunc 2::(Zg prog 84 [1,1,1,0,1,0] 1)),none,(Zy prog 84),Yj [(6,(.ptr 4 0)),(7,(.ptr 5 0)),(9,(.ptr 0 0))]⟩,(Nk q l0 l1)],(DH [(2,⟨.busy,none,49,Yj [(5,(.ptr 3 0)),(6,(.ptr 4 0)),(7,(.ptr 5 0)),(9,(.ptr 0 0))],[23],(Wc prog 84 [1,1,1,0,1,0,0]),(Wc prog 84 [1,1,1,0,1,0,1])⟩)])⟩
def MN :List (Option (List Nat)):=[some [1,3,8,9,10,14,15,16],some [5,6,7,9,21],some [6,7]]
def MQ :List (Option (List Nat)):=[]
def MM :List (Option (List Nat)):=[some [1,3,8,9,10,14,15,16],some [5,6,7,9,21],some [6,7]]
def MP :List (Option (List Nat)):=[]
def t0k :List (Option (List Nat)):=[some [0,1,2,4],some [6,7,9],some [6,7]]
def t0l :List (Option (List Nat)):=[some [5,6,7,9],none,none,none,none,none,none,none,none,none]
def u6t :List (Option (List Nat)):=[some [0,1,2,4,5,6,29,30,31,36,37,38],some [6,7,9],some [6,7]]
def u6w :List (Option (List Nat)):=[some [5,6,7,9],none,none,none,none,none,none,none,none,none,none,none,none]
def u6s :List (Option (List Nat)):=[some [0,1,2,4,5,6,29,30,31,36,37,38],some [6,7,9],some [6,7]]
def u6v :List (Option (List Nat)):=[some [5,6,7,9],none,none,none,none,none,none,none,none,none,none,none,none,none]
def u6r :List (Option (List Nat)):=[some [0,1,2,71,72,73],some [9,41,43,44],some [0,1,2,4,72,73],some [6,7,9],some [6,7]]
def u6u :List (Option (List Nat)):=[none,some [5,6,7,9],none,none,none,none,none,none,none,none,none]
def ML :List (Option (List Nat)):=[some [0,2,8],some [9,41,43,44],some [0,1,2,4,72,73],some [6,7,9],some [6,7]]
def MO :List (Option (List Nat)):=[none,none,some [5,6,7,9],none,none,none,none,none,none,none,none]
def Xu (q:Op) (l0:List R4) (l1:List R4):I6->Xz I6
 | .h0 v16 aD=>(bif (decide (v16<(l0.length:Int))) then (bif ((decide (0<=v16/\v16<(l0.length:Int)))&&true) then (bif (Nat.beq 1 1&&((decide (0+aD.length=aD.length))&&decide ((aD.length+2+1)*(8+1)<=CF))) then (.to (.h0 (wrap .i64 (v16+1)) (aD++[(rd l0 v16.toNat).a,(rd l0 v16.toNat).c]))) else .stuck) else .stuck) else (.to (.h1 0 aD)))
 | .h1 v16 aD=>(bif (decide (v16<(l1.length:Int))) then (bif ((decide (0<=v16/\v16<(l1.length:Int)))&&true) then (bif (Nat.beq 1 1&&((decide (0+aD.length=aD.length))&&decide ((aD.length+2+1)*(8+1)<=CF))) then (.to (.h1 (wrap .i64 (v16+1)) (aD++[(rd l1 v16.toNat).a,(rd l1 v16.toNat).c]))) else .stuck) else .stuck) else (bif (decide (aD.length<4611686018427387904)) then (bif (decide (aD.length=aD.length)) then (.to (.h2 1 ([]:List R4) ([]:List R2) 0 0 (GN (Yq aD.length (CP (Zz (Xm (Yq aD.length (CP (Zz aD)))))))) (Wk (Yq aD.length (CP (Zz (Xm (Yq aD.length (CP (Zz aD)))))))))) else .stuck) else .stuck))
 | .h2 v4 aH aW bE bF aF aK=>(bif (decide (v4<((aF:Nat):Int))) then (bif ((decide (0<=(wrap .i64 (v4 - 1))/\(wrap .i64 (v4 - 1))<((aF:Nat):Int)))&&true) then (bif (decide ((0+(Int.toNat (wrap .i64 (v4 - 1))))<aK.length)) then (bif ((decide (0<=v4/\v4<((aF:Nat):Int)))&&true) then (bif (decide ((0+v4.toNat)<aK.length)) then (.to (.h3 v4 0 aH aW bE bF aF aK (rd aK (0+(Int.toNat (wrap .i64 (v4 - 1))))) (rd aK (0+v4.toNat)) ([]:List R2))) else .stuck) else .stuck) else .stuck) else .stuck) else (bif (decide ((aH.length:Int)>400)) then (.ret [.nils,(.int .i64 4)]) else (.ret [(.dat aH.length (Zz aH)),(.int .i64 0)])))
 | .h3 v4 v38 aH aW bE bF aF aK aG bC aA=>(bif (decide (v38<(l0.length:Int))) then (bif ((decide (0<=v38/\v38<(l0.length:Int)))&&true) then (bif (decide ((rd l0 v38.toNat).a <=aG)) then (bif (decide (aG<(rd l0 v38.toNat).c)) then (bif (Nat.beq 2 2&&((decide (0+aA.length=aA.length))&&decide ((aA.length+1+1)*(16+1)<=CF))) then (.to (.h3 v4 (wrap .i64 (v38+1)) aH aW bE bF aF aK aG bC (aA++[(R2.mk (rd l0 v38.toNat).b (rd l0 v38.toNat).d)]))) else .stuck) else (.to (.h3 v4 (wrap .i64 (v38+1)) aH aW bE bF aF aK aG bC aA))) else (.to (.h3 v4 (wrap .i64 (v38+1)) aH aW bE bF aF aK aG bC aA))) else .stuck) else (.to (.h4 v4 0 aH aW bE bF aF aK aG bC aA ([]:List R2))))
 | .h4 v4 v38 aH aW bE bF aF aK aG bC aA aJ=>(bif (decide (v38<(l1.length:Int))) then (bif ((decide (0<=v38/\v38<(l1.length:Int)))&&true) then (bif (decide ((rd l1 v38.toNat).a <=aG)) then (bif (decide (aG<(rd l1 v38.toNat).c)) then (bif (Nat.beq 2 2&&((decide (0+aJ.length=aJ.length))&&decide ((aJ.length+1+1)*(16+1)<=CF))) then (.to (.h4 v4 (wrap .i64 (v38+1)) aH aW bE bF aF aK aG bC aA (aJ++[(R2.mk (rd l1 v38.toNat).b (rd l1 v38.toNat).d)]))) else .stuck) else (.to (.h4 v4 (wrap .i64 (v38+1)) aH aW bE bF aF aK aG bC aA aJ))) else (.to (.h4 v4 (wrap .i64 (v38+1)) aH aW bE bF aF aK aG bC aA aJ))) else .stuck) else (bif ((x3w q) (B3 aA) (B3 aJ)) then (bif (((TR q) (B3 aA) (B3 aJ)) != 0) then (.ret [.nils,(.int .i64 ((TR q) (B3 aA) (B3 aJ)))]) else (bif (decide (((((ET q) (B3 aA) (B3 aJ)).length :Nat):Int)>0)) then (bif (bF == aG) then (bif (Uf (B3 aW) (B3 ((ET q) (B3 aA) (B3 aJ)))) then (bif (EW (B3 aW) (B3 ((ET q) (B3 aA) (B3 aJ)))) then (.to (.h6 bC bE aG ((ET q) (B3 aA) (B3 aJ)) v4 aH aW bE bF aF aK aA aJ)) else (.to (.h5 aG bC ((ET q) (B3 aA) (B3 aJ)) ((((ET q) (B3 aA) (B3 aJ)).length :Nat):Int) 0 v4 aH (aH.length:Int) aF aK aA aJ))) else .stuck) else (.to (.h5 aG bC ((ET q) (B3 aA) (B3 aJ)) ((((ET q) (B3 aA) (B3 aJ)).length :Nat):Int) 0 v4 aH (aH.length:Int) aF aK aA aJ))) else (.to (.h5 aG bC ((ET q) (B3 aA) (B3 aJ)) ((((ET q) (B3 aA) (B3 aJ)).length :Nat):Int) 0 v4 aH (aH.length:Int) aF aK aA aJ)))) else .stuck))
 | .h5 v1 v2 v71 v72 v73 aY aC aZ aF aK aG bC=>(bif (decide (v73<v72)) then (bif ((decide (0<=v73/\v73<(v71.length:Int)))&&true) then (bif (Nat.beq 4 4&&((decide (0+aC.length=aC.length))&&decide ((aC.length+1+1)*(32+1)<=CF))) then (.to (.h5 v1 v2 v71 v72 (wrap .i64 (v73+1)) aY (aC++[(R4.mk v1 (rd v71 v73.toNat).a v2 (rd v71 v73.toNat).b)]) aZ aF aK aG bC)) else .stuck) else .stuck) else (.to (.h2 (wrap .i64 (aY+1)) aC v71 aZ v2 aF aK)))
 | .h6 v2 v8 dG dH aY aC bD aZ bT bP bX aA aJ=>(bif (decide (v8<(aC.length:Int))) then (bif ((decide (0<=v8/\v8<(aC.length:Int)))&&true) then (bif (decide ((0+v8.toNat)<aC.length)) then (.to (.h6 v2 (wrap .i64 (v8+1)) dG dH aY (aC.set (0+v8.toNat) (R4.mk (rd aC (0+v8.toNat)).a (rd aC (0+v8.toNat)).b v2 (rd aC (0+v8.toNat)).d)) bD aZ bT bP bX aA aJ)) else .stuck) else .stuck) else (.to (.h2 (wrap .i64 (aY+1)) aC bD aZ v2 bP bX)))
def YZ (q:Op) (l0:List R4) (l1:List R4):Xz I6:=(bif (Tj (B3 l0)) then (bif ((Cz (B3 l0)) != 0) then (.ret [.nils,(.int .i64 (Cz (B3 l0)))]) else (bif (Tj (B3 l1)) then (bif ((Cz (B3 l1)) != 0) then (.ret [.nils,(.int .i64 (Cz (B3 l1)))]) else (.to (.h0 0 ([]:List Int)))) else .stuck)) else .stuck)
theorem v2d (q:Op) (l0:List R4) (l1:List R4): ∀s,Xw prog (Zy prog (D2 q)) (Gr q l0 l1) (Gr q l0 l1 s) (Xu q l0 l1 s):=by cases q <;> refine (?f: ∀q:Op,∀s,Xw prog (Zy prog (D2 q)) (Gr q l0 l1) (Gr q l0 l1 s) (Xu q l0 l1 s)) _ <;> exact fun q=>fun
 | .h0 v16 aD=>(lb (fun k0=>(lo fun o0=>(lo fun o1=>let b:=xL (aD.length+2) (y2c aD l0 v16).length;let d:=y2c aD l0 v16;(sl Qi 32 [] ⟨[0,1,2,3,4,5,6,10],[],MN,MQ⟩ ⟨[],[.keep,.keep,.cells [.len d.length],.keep,.keep,.keep,.keep,.rowed 1 d.length (Zz d)],[]⟩ [true] (pp b (pp b (pp (xS (aD.length+2) (Zt (Zz aD) 0 aD.length 1 [(ii (rd l0 (tn v16)).a),(ii (rd l0 (tn v16)).c)]) (Zz (y2c aD l0 v16))) (pp (pp (xF (Zt (Zz aD) 0 aD.length 1 [(ii (rd l0 (tn v16)).a),(ii (rd l0 (tn v16)).c)])) nn) (ww o1 (ww o0 (tt k0 nn))))))))))) (fun k0=>(sl Qi 36 [] ⟨(List.range 8),[],MM,MP⟩ a6 (bl 2 2) (pp (fl aD nn) (tt k0 nn)))))
 | .h1 v16 aD=>(lb (fun k0=>(lo fun o0=>(lo fun o1=>let e:=xL (aD.length+2) (y2b aD l1 v16).length;let g:=y2b aD l1 v16;(sl Qi 32 [] ⟨[0,1,2,3,4,5,6,10],[],MM,MP⟩ ⟨[],[.keep,.keep,.cells [.len g.length],.keep,.keep,.keep,.keep,.rowed 1 g.length (Zz g)],[]⟩ [true] (pp e (pp e (pp (xS (aD.length+2) (Zt (Zz aD) 0 aD.length 1 [(ii (rd l1 (tn v16)).a),(ii (rd l1 (tn v16)).c)]) (Zz (y2b aD l1 v16))) (pp (pp (xF (Zt (Zz aD) 0 aD.length 1 [(ii (rd l1 (tn v16)).a),(ii (rd l1 (tn v16)).c)])) nn) (ww o1 (ww o0 (tt k0 nn))))))))))) (fun k0=>(lo fun o0=>(lo fun o1=>let b:=xG (Nat.beq 1 1);let d:=xG (decide (aD.length<4611686018427387904));let f:=xG (decide (aD.length=aD.length));let h:=xG (Nat.beq 0 0);(sl Qi 46 [(116,4,Zz ([]:List R4))] ⟨[8,3,4,5,6,2,7,0,1,9],[],t0k,t0l⟩ ⟨[],(Cl 4 [.cells [.grow 9 4,.list 0 (Zz ([]:List R2)),.keep,.keep],.keep,.rowed 1 (Sy aD).length (Zz (Sy aD)),.keep,.keep,.keep]),[]⟩ (bl 2 0) (pp (xL aD.length (Sy aD).length (by first | exact N4 _ _ | exact Uu rfl)) (pp (xS aD.length (Zz (Sy aD)) (Zz (Sy aD))) (pp (fl (Sy aD) (fl ([]:List R4) nn)) (pp (pp b (pp b (pp h (pp f (pp (xG (EP (Zz (Xm (Yq aD.length (CP (Zz aD))))))) d))))) (pp (pp b (pp b (pp h (pp f (pp (xG (EP (Zz aD))) d))))) (tt k0 nn)))))))))))
 | .h2 v4 aH aW bE bF aF aK=>(lb (fun k0=>(lo fun o0=>(lo fun o1=>(lo fun o2=>(lo fun o3=>(sl Qi 48 [(176,2,Zz ([]:List R2))] ⟨[0,1,2,3,4,5,6,7,8,10,11,12,9],[],u6t,u6w⟩ ⟨[],(Cl 10 [.cells [.grow 11 2,.keep],.keep,.keep]),[]⟩ (CA 3 []) (pp (fl aK (fl ([]:List R2) (fl aH nn))) (ww o3 (ww o2 (ww o1 (ww o0 (tt k0 nn)))))))))))) (fun k0=>(lb (fun k1=>(lr 11 3 [1,1,1,1,0] 1 16 [(4,.nils),(5,(ii 4))] (sl Qi 49 [] (a8 [4,5]) a6 (bl 2 2) (tt k1 (tt k0 nn))))) (fun k1=>(lr 11 3 [1,1,1,1,0] 1 16 [(4,(.dat aH.length (Zz aH))),(5,(ii 0))] (sl Qi 54 [] ⟨[],[9],[some [4,5]],[]⟩ ⟨[(4,.frz aH.length aH.length (Zz aH) (Zz aH))],[],[]⟩ (bl 2 0) (pp (xZ (Cm 4 4 0 aH.length aH.length (Zz aH)) aH.length (Zz aH)) (pp (xL aH.length aH.length) (pp (xS aH.length (Zz aH) (Zz aH)) (pp (fl aH nn) (tt k1 (tt k0 nn))))))))))))
 | .h3 v4 v38 aH aW bE bF aF aK aG bC aA=>(lb (fun k0=>(lo fun aE=>let c:=ww aE (tt k0 nn);let f:=fl aK (fl aA (fl aH nn));let g:=List.range 13;(lb (fun k1=>(lb (fun k2=>(lo fun o0=>let a:=xL (aA.length+1) (x2b aA l0 v38).length;let e:=x2b aA l0 v38;(sl Qi 39 [] ⟨[0,1,2,3,4,5,6,7,8,9,10,15,12],[],u6t,u6w⟩ ⟨[],(Cl 10 [.cells [.len e.length,.keep],.rowed 2 e.length (Zz e),.keep]),[]⟩ (CA 7 []) (pp a (pp a (pp (xS (aA.length+1) (Zt (Zz aA) 0 aA.length 2 [(ii (rd l0 (tn v38)).b),(ii (rd l0 (tn v38)).d)]) (Zz (x2b aA l0 v38))) (pp (fl aK (pp (xF (Zt (Zz aA) 0 aA.length 2 [(ii (rd l0 (tn v38)).b),(ii (rd l0 (tn v38)).d)])) (fl aH nn))) (ww o0 (tt k2 (tt k1 c)))))))))) (fun k2=>(sl Qi 39 [] ⟨g,[],u6t,u6w⟩ a6 (CA 6 [false]) (pp f (tt k2 (tt k1 c))))))) (fun k1=>(sl Qi 39 [] ⟨g,[],u6t,u6w⟩ a6 (bl 7 1) (pp f (tt k1 c))))))) (fun k0=>(sl Qi 38 [(176,2,Zz ([]:List R2))] ⟨[0,1,2,3,4,5,6,7,8,9,10,11,13,12],[],u6s,u6v⟩ ⟨[],(Cl 10 [.cells [.keep,.grow 12 2],.keep,.keep,.keep]),[]⟩ (bl 2 2) (pp (fl aK (fl aA (fl ([]:List R2) (fl aH nn)))) (tt k0 nn)))))
 | .h4 v4 v38 aH aW bE bF aF aK aG bC aA aJ=>(lb (fun k0=>(lo fun aE=>let e:=ww aE (tt k0 nn);let f:=fl aK (fl aA (fl aJ (fl aH nn)));let l:=List.range 14;(lb (fun k1=>(lb (fun k2=>(lo fun o0=>let c:=xL (aJ.length+1) (x2a aJ l1 v38).length;let i:=x2a aJ l1 v38;(sl Qi 39 [] ⟨[0,1,2,3,4,5,6,7,8,9,10,11,16,13],[],u6s,u6v⟩ ⟨[],(Cl 10 [.cells [.keep,.len i.length],.keep,.rowed 2 i.length (Zz i),.keep]),[]⟩ (CA 7 []) (pp c (pp c (pp (xS (aJ.length+1) (Zt (Zz aJ) 0 aJ.length 2 [(ii (rd l1 (tn v38)).b),(ii (rd l1 (tn v38)).d)]) (Zz (x2a aJ l1 v38))) (pp (fl aK (fl aA (pp (xF (Zt (Zz aJ) 0 aJ.length 2 [(ii (rd l1 (tn v38)).b),(ii (rd l1 (tn v38)).d)])) (fl aH nn)))) (ww o0 (tt k2 (tt k1 e)))))))))) (fun k2=>(sl Qi 39 [] ⟨l,[],u6s,u6v⟩ a6 (CA 6 [false]) (pp f (tt k2 (tt k1 e))))))) (fun k1=>(sl Qi 39 [] ⟨l,[],u6s,u6v⟩ a6 (bl 7 1) (pp f (tt k1 e))))))) (fun k0=>let j:=fl aH (fl aK nn);(Xh (sl Qi (C':=⟨⟨49,0,true⟩,none,(Zg prog 84 [1,1,1,0,1,0,1,0,0] 0),(some 0),[],⟨Yj [(5,(.ptr 1 0)),(6,(.ptr 2 0)),(7,(.ptr 3 0)),(9,(.ptr 4 0)),(10,(.ptr 6 0))],Ch [(1,⟨[(.fn (FU q) [])],123,none⟩),(2,⟨[.nils],81,none⟩),(3,⟨[(ii 0)],24,none⟩),(4,⟨[(.sla 5 4 0 aH.length (.un 4)),(.dat aW.length (Zz aW)),(ii bE),(ii bF)],157,none⟩),(5,⟨Ya aH.length (Zz aH),116,some ⟨4,aH.length,(Zz aH)⟩⟩),(6,⟨[(ii aG),(ii bC),(.sl 7 0 2 (.ex 2))],162,none⟩),(7,⟨[(.dat aA.length (Zz aA)),(.dat aJ.length (Zz aJ))],155,none⟩),(8,⟨[(.sla 9 1 0 aF (.un 1))],125,none⟩),(9,⟨Ya aK.length (Zz aK),3,some ⟨1,aK.length,(Zz aK)⟩⟩),(10,⟨[(.sl 11 0 2 (.un 1))],197,none⟩),(11,⟨[(.dat l0.length (Zz l0)),(.dat l1.length (Zz l1))],81,none⟩)],12,[],true⟩,[⟨⟨76,0,true⟩,(Vm prog 158 [1,0,0,1,0,0,1,1,0] 2),(Zg prog 158 [1,0,0,1,0,0,1,1,0] 1),none,[],Yj [(0,(.yld 0)),(1,(.ptr 8 0)),(2,(.ptr 10 0)),(4,(ii v4)),(72,(.yld 0)),(73,(.agg [(ii aG),(ii bC),(.sl 7 0 2 (.ex 2))]))]⟩,⟨⟨49,0,true⟩,none,(.inRangeFunc 0::(Zg prog 84 [1,1,1,0,1,0] 1)),none,(Zy prog 84),Yj [(6,(.ptr 2 0)),(7,(.ptr 3 0)),(9,(.ptr 4 0))]⟩,⟨⟨11,0,true⟩,(Vm prog (D2 q) [1,0] 2),(Zg prog (D2 q) [1,0] 1),none,(Zy prog 16),Yj [(6,(.dat l0.length (Zz l0))),(7,(.dat l1.length (Zz l1)))]⟩],(DH [(0,⟨.busy,none,49,Yj [(5,(.ptr 1 0)),(6,(.ptr 2 0)),(7,(.ptr 3 0)),(9,(.ptr 4 0))],[23],(Wc prog 84 [1,1,1,0,1,0,0]),(Wc prog 84 [1,1,1,0,1,0,1])⟩)])⟩) 32 [] ⟨[0,1,2,3,4,13,14,10,5,6,7,8],[11,12],[some [5,6,7,9,10],some [0,1,2,4,72,73],some [6,7,9],some [6,7]],[some [5,6,7,9],none,none,none,none,none,none,none,none,none,none,none]⟩ ⟨[],[.keep,.keep,.keep,.keep,.keep,.keep,.keep,.cells [.frz aA.length aA.length (Zz aA) (Zz aA),.frz aJ.length aJ.length (Zz aJ) (Zz aJ)],.keep,.keep,.keep,.keep],[]⟩ (bl 2 0) (pp (xZ (Cm 2 2 0 aA.length aA.length (Zz aA)) aA.length (Zz aA)) (pp (xL aA.length aA.length) (pp (xS aA.length (Zz aA) (Zz aA)) (pp (xZ (Cm 2 2 0 aJ.length aJ.length (Zz aJ)) aJ.length (Zz aJ)) (pp (xL aJ.length aJ.length) (pp (xS aJ.length (Zz aJ) (Zz aJ)) (pp j (pp (fl aA (fl aJ nn)) (tt k0 nn)))))))))) (lo fun aE=>let a:=pp (pp (xr aA) (pp (xr aJ) (xw aE))) nn;(lb (fun k1=>(lr 11 3 [1,1,1,1,0] 1 16 [(4,.nils),(5,(ii ((TR q) (B3 aA) (B3 aJ))))] (sl Qi 26 [] (a8 [4,5]) a6 (bl 2 3) (tt k1 a)))) (fun k1=>let g:=fl aK (fl aH nn);(lb (fun k2=>let h:=tt k2 (tt k1 a);(lb (fun k3=>(lo fun bZ=>(lb (fun k4=>(sl Qi 51 [] ⟨[4,5,0,1,2,3,8,9,10,11,7],[],ML,MO⟩ a6 (bl 14 16382) (pp j (tt k4 (pp (pp (xr aW) (pp (xI R2 ((ET q) (B3 aA) (B3 aJ)).length (Zz ((ET q) (B3 aA) (B3 aJ)))) (xw bZ))) (tt k3 h)))))) (fun k4=>(sl Qi 71 [] ⟨[4,0,1,2,3,8,9,10,11,7,5],[],u6r,u6u⟩ a6 (bl 14 8190) (pp g (tt k4 (pp (pp (xr aW) (pp (xI R2 ((ET q) (B3 aA) (B3 aJ)).length (Zz ((ET q) (B3 aA) (B3 aJ)))) (xw bZ))) (tt k3 h))))))))) (fun k3=>(sl Qi 71 [] ⟨[4,0,1,2,3,8,9,10,11,7,5],[],u6r,u6u⟩ a6 (bl 14 126) (pp g (tt k3 h)))))) (fun k2=>(sl Qi 71 [] ⟨[4,0,1,2,3,8,9,10,11,7,5],[],u6r,u6u⟩ a6 (bl 14 0) (pp g (tt k2 (tt k1 a))))))))))))
 | .h5 v1 v2 v71 v72 v73 aY aC aZ aF aK aG bC=>(lb (fun k0=>(lo fun o0=>(lo fun o1=>let c:=xL (aC.length+1) (y2d aC v1 v71 v73 v2).length;let d:=y2d aC v1 v71 v73 v2;(sl Qi 23 [] ⟨[0,1,2,3,4,5,6,7,8,9,13],[],u6r,u6u⟩ ⟨[],[.cells [.len d.length,.keep,.keep,.keep],.keep,.keep,.keep,.keep,.keep,.keep,.keep,.keep,.keep,.rowed 4 d.length (Zz d)],[]⟩ [true] (pp c (pp c (pp (xS (aC.length+1) (Zt (Zz aC) 0 aC.length 4 [(ii v1),(ii (rd v71 (tn v73)).a),(ii v2),(ii (rd v71 (tn v73)).b)]) (Zz (y2d aC v1 v71 v73 v2))) (pp (fl aK (pp (xF (Zt (Zz aC) 0 aC.length 4 [(ii v1),(ii (rd v71 (tn v73)).a),(ii v2),(ii (rd v71 (tn v73)).b)])) nn)) (ww o1 (ww o0 (tt k0 nn))))))))))) (fun k0=>(sl Qi 22 [] ⟨[1,2,3,4,0,5,6,7,8,10],[],t0k,t0l⟩ a6 (bl 2 0) (pp (fl aK (fl aC nn)) (tt k0 nn)))))
 | .h6 v2 v8 dG dH aY aC bD aZ bT bP bX aA aJ=>(lb (fun k0=>(lo fun o0=>(lo fun o1=>let a:=xL aC.length (x2d aC v8 v2).length;let b:=x2d aC v8 v2;(sl Qi 33 [] ⟨(List.range 11),[],ML,MO⟩ ⟨[],[.cells [.len b.length,.keep,.keep,.keep],.rowed 4 b.length (Zz b),.keep,.keep,.keep,.keep,.keep,.keep,.keep,.keep,.keep],[]⟩ [true] (pp a (pp a (pp (xS aC.length (Xa (Zz aC) (0+(tn v8)) 2 [(ii v2)]) (Zz (x2d aC v8 v2))) (pp (pp (xF (Xa (Zz aC) (0+(tn v8)) 2 [(ii v2)])) (fl bX nn)) (ww o1 (ww o0 (tt k0 nn))))))))))) (fun k0=>(sl Qi 36 [] ⟨[2,3,4,5,0,6,7,8,9,1],[],t0k,t0l⟩ a6 (bl 2 0) (pp (fl bX (fl aC nn)) (tt k0 nn)))))
theorem w2g (q:Op) (l0:List R4) (l1:List R4):Xw prog (Zy prog (D2 q)) (Gr q l0 l1) (Zm prog (D2 q) [(.dat l0.length (Zz l0)),(.dat l1.length (Zz l1))] true []) (YZ q l0 l1):=by cases q <;> exact (lo fun bN=>(lb (fun k0=>(lr 11 3 [1,1,1,1,0] 1 16 [(4,.nils),(5,(ii (Cz (B3 l0))))] (sl Qi 65 [] (a8 [4,5]) a6 (bl 2 3) (tt k0 (tt k0 (pp (pp (xr l0) (xw bN)) nn)))))) (fun k0=>(lo fun aE=>(lb (fun k1=>(lr 11 3 [1,1,1,1,0] 1 16 [(4,.nils),(5,(ii (Cz (B3 l1))))] (sl Qi 67 [] (a8 [4,5]) a6 (bl 2 2) (tt k1 (pp (pp (xr l1) (xw aE)) (tt k0 (pp (pp (xr l0) (xw bN)) nn))))))) (fun k1=>(sl Qi 108 [(3,1,Zz ([]:List Int))] ⟨[5,4,6,0,1,2,3,7],[],MN,MQ⟩ ⟨[],[.keep,.keep,.cells [.grow 7 1],.keep,.keep,.keep,.keep,.keep],[]⟩ (bl 3 4) (pp (fl ([]:List Int) nn) (tt k1 (pp (pp (xr l1) (xw aE)) (tt k0 (pp (pp (xr l0) (xw bN)) nn))))))))))))
theorem u6q (q:Op) (l0:List R4) (l1:List R4) (n:Nat) (vs:List B2) (h:Zo (Xu q l0 l1) n (YZ q l0 l1)=.ret vs):Uj prog (Zy prog (D2 q)) (Zm prog (D2 q) [(.dat l0.length (Zz l0)),(.dat l1.length (Zz l1))] true []) vs:=by have:=Zb (v2d q l0 l1) n _ (w2g q l0 l1);rwa [h] at this
def Cv (E:Int->Int) (cs:List Int):Nat->Nat->Int
 | 0,_=>0
 | k+1,i=>bif E (rd cs i) != 0 then E (rd cs i) else Cv E cs k (i+1)
def eJ (e:Int) (n:Nat):Int:=bif e != 0 then e else D7 n
theorem w7t {α:Type} [Xc α] (L:List α):Cy (eJ 0 L.length) L=Qo L:=(Z2 L).symm
theorem UG {n:Nat} (h:D7 n=0):n<=400:=by grind [D7]
theorem x8l {α:Type} {e:Int} (L:List α) (h:(e != 0)=false):D8 e L=L:=by unfold D8;rw [h];rfl
def Cs (q:Op) (a b:List R4) (x:Int):List R2:=Cx q.k (D4.inn a x) (D4.inn b x)
def Db (q:Op) (a b:List R4) (x:Int):Int:=HS q.k (D4.inn a x) (D4.inn b x)
theorem t0n (q:Op) (a b:List R4) (x:Int) (h:(Db q a b x != 0)=false):(Cs q a b x).length <=1000:=by
 have h:Db q a b x=0:=by simpa using h
 unfold Db HS at h;cases g1:(Dp (D4.inn a x) != 0) with
 | true=>grind
 | false=>
  cases g2:(Dp (D4.inn b x) != 0) with
  | true=>grind
  | false=>rw [g1,g2,Aa,Aa] at h;exact AF (UG h) (by omega)
section
variable (q:Op) (a b:List R4) (ha:a.length<=400) (hb:b.length<=400)
include ha hb
theorem j4g (i:Nat) (out:List R4) (last:List R2) (first fin x x':Int): ∀(k j:Nat) (acc:List R2),j+k=a.length->acc.length<=j->
  ∃n,∀N,Zo (Xu q a b) (N+n) (.to (.h3 (i:Int) (j:Int) out last first fin ((D4.cuts (a++b)).length) (Wk (Xm (D4.ends (a++b)))) x x' acc))=Zo (Xu q a b) N (.to (.h4 (i:Int) 0 out last first fin ((D4.cuts (a++b)).length) (Wk (Xm (D4.ends (a++b)))) x x' (acc++D4.inn (a.drop j) x) []))
 | 0,j,acc,h,h'=>by
  have _u:=ha;have _v:=hb;refine ⟨1,fun N=> ?_⟩;rw [As (by omega),show D4.inn ([]:List R4) x=[] from rfl,AE,Zx]
  grind [Xu]
 | k+1,j,acc,h,h'=>by
  have hj:j<a.length:=by omega
  obtain ⟨n,hn⟩:=j4g i out last first fin x x' k (j+1) (acc++D4.inn [rd a j] x) (by omega) (by have:=D4.inn_length [rd a j] x;grind)
  refine ⟨n+1,fun N=> ?_⟩;have e:D4.inn (a.drop j) x=D4.inn [rd a j] x++D4.inn (a.drop (j+1)) x:=by rw [Yg hj,<-D4.inn_append];rfl
  rw [e,<-AD,Zx,<-AM,<-hn N];by_cases h1:D4.lo (rd a j)<=x
  .by_cases h2:x<D4.hi (rd a j)
   .rw [D4.inn_t _ _ h1 h2];simp only [D4] at h1 h2 ⊢;simp (disch:=omega) only [Xu,Wj,Zd,Zq,Yy,Yz,Yd,Yu,Yk,Zh,Zj,Zw,Yc,Zk,Af,Ao,Ah,Ai,Ab,Aa]
   .rw [D4.inn_f2 _ _ h2,AE];simp only [D4] at h1 h2;simp (disch:=omega) only [Xu,Wj,Yh,Zd,Zq,Yy,Yz,Yd,Yu,Yk,Zh,Zj,Zw,Yc,Zk,Af,Ao,Ah,Ai,Ab,Aa]
  .rw [D4.inn_f1 _ _ h1,AE];simp only [D4] at h1;simp (disch:=omega) only [Xu,Nx,Zd,Zq,Yy,Yz,Yd,Yu,Yk,Zh,Zj,Zw,Yc,Zk,Af,Ao,Ah,Ai,Ab,Aa]
theorem j4f (i:Nat) (out:List R4) (last:List R2) (first fin x x':Int) (o1:List R2): ∀(k j:Nat) (acc:List R2),j+k=b.length->acc.length<=j->
  ∃n,∀N,Zo (Xu q a b) (N+n) (.to (.h4 (i:Int) (j:Int) out last first fin ((D4.cuts (a++b)).length) (Wk (Xm (D4.ends (a++b)))) x x' o1 acc))=Zo (Xu q a b) N (.to (.h4 (i:Int) (b.length:Int) out last first fin ((D4.cuts (a++b)).length) (Wk (Xm (D4.ends (a++b)))) x x' o1 (acc++D4.inn (b.drop j) x)))
 | 0,j,acc,h,h'=>by have _u:=ha;have _v:=hb;refine ⟨0,fun N=> ?_⟩;rw [As (by omega),show D4.inn ([]:List R4) x=[] from rfl,AE,Bd,show j=b.length by omega]
 | k+1,j,acc,h,h'=>by
  have hj:j<b.length:=by omega
  obtain ⟨n,hn⟩:=j4f i out last first fin x x' o1 k (j+1) (acc++D4.inn [rd b j] x) (by omega) (by have:=D4.inn_length [rd b j] x;grind)
  refine ⟨n+1,fun N=> ?_⟩;have e:D4.inn (b.drop j) x=D4.inn [rd b j] x++D4.inn (b.drop (j+1)) x:=by rw [Yg hj,<-D4.inn_append];rfl
  rw [e,<-AD,Zx,<-AM,<-hn N];by_cases h1:D4.lo (rd b j)<=x
  .by_cases h2:x<D4.hi (rd b j)
   .rw [D4.inn_t _ _ h1 h2];simp only [D4] at h1 h2 ⊢;simp (disch:=omega) only [Xu,Wj,Zd,Zq,Yy,Yz,Yd,Yu,Yk,Zh,Zj,Zw,Yc,Zk,Af,Ao,Ah,Ai,Ab,Aa]
   .rw [D4.inn_f2 _ _ h2,AE];simp only [D4] at h1 h2;simp (disch:=omega) only [Xu,Wj,Yh,Zd,Zq,Yy,Yz,Yd,Yu,Yk,Zh,Zj,Zw,Yc,Zk,Af,Ao,Ah,Ai,Ab,Aa]
  .rw [D4.inn_f1 _ _ h1,AE];simp only [D4] at h1;simp (disch:=omega) only [Xu,Nx,Zd,Zq,Yy,Yz,Yd,Yu,Yk,Zh,Zj,Zw,Yc,Zk,Af,Ao,Ah,Ai,Ab,Aa]
theorem j4e (i:Nat) (hi:i<=2000) (x x':Int) (s:List R2) (first:Int) (o1 o2:List R2) (hs:s.length<=1000): ∀(k j:Nat) (out:List R4),j+k=s.length->out.length<=10000000+j->
  ∃n,∀N,Zo (Xu q a b) (N+n) (.to (.h5 x x' s (s.length:Int) (j:Int) (i:Int) out first ((D4.cuts (a++b)).length) (Wk (Xm (D4.ends (a++b)))) o1 o2))=Zo (Xu q a b) N (.to (.h2 ((i+1:Nat):Int) (out++(s.drop j).map (D4.put x x')) s first x' ((D4.cuts (a++b)).length) (Wk (Xm (D4.ends (a++b))))))
 | 0,j,out,h,ho=>by
  have _u:=ha;have _v:=hb;refine ⟨1,fun N=> ?_⟩
  grind [Zx,Xu,Zj]
 | k+1,j,out,h,ho=>by
  obtain ⟨n,hn⟩:=j4e i hi x x' s first o1 o2 hs k (j+1) (out++[D4.put x x' (rd s j)]) (by omega) (by simp;omega)
  refine ⟨n+1,fun N=> ?_⟩;have:=hn N;rw [Yg (show j<s.length by omega),AT,<-AD,Zx];simp (disch:=omega) only [Xu,Zd,Zq,Yy,Yz,Yd,Yu,Yk,Zh,Zj,Zw,Yc,Zk,Af,Ao,Ah,Ai,Ab,Aa];rw [AM] at this;exact this
theorem j4d (i:Nat) (hi:i<=2000) (x x' fin:Int) (s last:List R2) (first:Int) (o1 o2:List R2): ∀(k j:Nat) (out:List R4),j+k=out.length->out.length<=10000000->
  ∃n,∀N,Zo (Xu q a b) (N+n) (.to (.h6 x' (j:Int) x s (i:Int) out last first fin ((D4.cuts (a++b)).length) (Wk (Xm (D4.ends (a++b)))) o1 o2))=Zo (Xu q a b) N (.to (.h2 ((i+1:Nat):Int) (D4.grow out j x') last first x' ((D4.cuts (a++b)).length) (Wk (Xm (D4.ends (a++b))))))
 | 0,j,out,h,ho=>by
  have _u:=ha;have _v:=hb;refine ⟨1,fun N=> ?_⟩;rw [D4.grow_nil _ _ _ (by omega),Zx]
  grind [Xu,Zj]
 | k+1,j,out,h,ho=>by
  obtain ⟨n,hn⟩:=j4d i hi x x' fin s last first o1 o2 k (j+1) (out.set j (D4.ext x' (rd out j))) (by simp;omega) (by grind)
  refine ⟨n+1,fun N=> ?_⟩;have:=hn N;rw [D4.grow_set out j _ (by omega)] at this;rw [<-AD,Zx];simp (disch:=omega) only [Xu,Zd,Zq,Yy,Yz,Yd,Yu,Yk,Zh,Zj,Zw,Yc,Zk,Af,Ao,Ah,Ai,Ab,Aa];exact this
theorem v8l : ∀(k i:Nat) (s:Sw R4 R2),k=(D4.cuts (a++b)).length - 1 - i->i<=(D4.cuts (a++b)).length ->s.out.length<=i*1000->s.last.length<=1000->s.first<=s.out.length->
  ∃n,Zo (Xu q a b) n (.to (.h2 ((i+1:Nat):Int) s.out s.last (s.first:Int) s.fin ((D4.cuts (a++b)).length) (Wk (Xm (D4.ends (a++b))))))=.ret (Cy (eJ (Cv (Db q a b) (D4.cuts (a++b)) k i) (D4.goS (Cs q a b) (D4.cuts (a++b)) k i s).out.length) (D4.goS (Cs q a b) (D4.cuts (a++b)) k i s).out)
 | 0,i,s,h,hi,ho,hla,hf=>by
  have _u:=ha;have _v:=hb;have hc:=D4.cuts_length (a++b);refine ⟨1,?_⟩;rw [Zx,show D4.goS (Cs q a b) (D4.cuts (a++b)) 0 i s=s from rfl,show Cv (Db q a b) (D4.cuts (a++b)) 0 i=0 from rfl,w7t]
  grind [Qo,Xu,Zp]
 | k +1,i,s,h,hi,ho,hla,hf=>by
  have hc:=D4.cuts_length (a++b);rw [AP] at hc;have hi1:i+1<(D4.cuts (a++b)).length :=by omega
  have hpl:(Wk (Xm (D4.ends (a++b)))).length =2*(a.length+b.length):=by rw [Ui,Uz,D4.ends_length,AP]
  have r0:rd (Wk (Xm (D4.ends (a++b)))) i=rd (D4.cuts (a++b)) i:=GC _ _ (by show i<(D4.cuts (a++b)).length;omega);have r1:rd (Wk (Xm (D4.ends (a++b)))) (i+1)=rd (D4.cuts (a++b)) (i+1):=GC _ _ (by show i+1<(D4.cuts (a++b)).length;omega);have hbig:i*1000<=2000*1000:=AC _ (by omega);have hgo:D4.goS (Cs q a b) (D4.cuts (a++b)) (k+1) i s=D4.goS (Cs q a b) (D4.cuts (a++b)) k (i+1) (D4.oneS (Cs q a b (rd (D4.cuts (a++b)) i)) (rd (D4.cuts (a++b)) i) (rd (D4.cuts (a++b)) (i+1)) s):=rfl;have hfe: ∀x,x=rd (D4.cuts (a++b)) i->(Db q a b x != 0)=false->Cv (Db q a b) (D4.cuts (a++b)) (k+1) i=Cv (Db q a b) (D4.cuts (a++b)) k (i+1):=fun x hx z=>by
   show (bif Db q a b (rd (D4.cuts (a++b)) i) != 0 then _ else _)=_
   grind
  revert hgo hfe r0;generalize hx:rd (D4.cuts (a++b)) i=x;generalize hx':rd (D4.cuts (a++b)) (i+1)=x' at r1;intro r0 hgo hfe;obtain ⟨n3,h3⟩:=j4g q a b ha hb (i+1) s.out s.last (s.first:Int) s.fin x x' a.length 0 [] (Af _) (Aq _);simp only [AS,Bc,Du] at h3;obtain ⟨n4,h4⟩:=j4f q a b ha hb (i+1) s.out s.last (s.first:Int) s.fin x x' (D4.inn a x) b.length 0 [] (Af _) (Aq _);simp only [AS,Bc,Du] at h4;have st0: ∀N,Zo (Xu q a b) (N+n4+n3+1) (.to (.h2 ((i+1:Nat):Int) s.out s.last (s.first:Int) s.fin ((D4.cuts (a++b)).length) (Wk (Xm (D4.ends (a++b))))))=Zo (Xu q a b) N (.to (.h4 ((i+1:Nat):Int) (b.length:Int) s.out s.last (s.first:Int) s.fin ((D4.cuts (a++b)).length) (Wk (Xm (D4.ends (a++b)))) x x' (D4.inn a x) (D4.inn b x))):=fun N=>by
   rw [<-h4 N,<-h3 (N+n4),Zx];have e1:wrap .i64 (((i+1:Nat):Int) - 1)=(i:Int):=by rw [Yx];exact Zj (by omega)
   simp (disch:=omega) only [Xu,e1,r0,r1,Zd,Zq,Yy,Yz,Yd,Yu,Yk,Zh,Zj,Zw,Yc,Zk,Af,Ao,Ah,Ai,Ab,Aa]
  have w1:x3w q (D4.inn a x) (D4.inn b x)=true:=rfl;have f1:Df (Zz (D4.inn a x))=true:=Xn _;have f2:Df (Zz (D4.inn b x))=true:=Xn _;rcases Zs (Db q a b x != 0) with z | z
  .have z':(TR q (D4.inn a x) (D4.inn b x) != 0)=true:=z;refine ⟨1+n4+n3+1,?_⟩;rw [st0 1,Zx];have e:Cv (Db q a b) (D4.cuts (a++b)) (k+1) i=Db q a b x:=by show (bif Db q a b (rd (D4.cuts (a++b)) i) != 0 then Db q a b (rd (D4.cuts (a++b)) i) else _)=_;grind
   simp (disch:=omega) only [Xu,Yh,z',w1,f1,f2,Zd,Zq,Yy,Yz,Yd,Yu,Yk,Zh,Zj,Zw,Yc,Zk,Af,Ao,Ah,Ai,Ab,Aa,Zp];rw [e,show eJ (Db q a b x) _=Db q a b x by unfold eJ;rw [z];rfl,Uv _ z];rfl
  have z':(TR q (D4.inn a x) (D4.inn b x) != 0)=false:=z;have v:ET q (D4.inn a x) (D4.inn b x)=Cs q a b x:=x8l _ z;have hsl:=t0n q a b x z;have w2:Uf s.last (Cs q a b x)=true:=Al (by omega);rw [hgo,hfe x rfl z];have ol:(D4.oneS (Cs q a b x) x x' s).out.length <=s.out.length+(Cs q a b x).length :=by
   grind [CJ.oneS,CJ.grow_length]
  rcases Zs (decide (0<(Cs q a b x).length)&&((s.fin == x)&&D4.same s.last (Cs q a b x))) with g | g
  .obtain ⟨n6,h6⟩:=j4d q a b ha hb (i+1) (by omega) x x' s.fin (Cs q a b x) s.last (s.first:Int) (D4.inn a x) (D4.inn b x) (s.out.length - s.first) s.first s.out (by omega) (by omega)
   have e:D4.oneS (Cs q a b x) x x' s=⟨D4.grow s.out s.first x',s.last,s.first,x'⟩:=by unfold CJ.oneS;rw [g];rfl
   obtain ⟨n0,h0⟩:=v8l k (i+1) (D4.oneS (Cs q a b x) x x' s) (by omega) (by omega) (by omega) (by grind) (by grind [CJ.grow_length]);refine ⟨n0+n6+1+n4+n3+1,?_⟩;rw [st0 (n0+n6+1),Zx];simp only [Ae,Ar] at g;obtain ⟨g1,g2,g3⟩:=g;have g3':EW s.last (Cs q a b x)=true:=g3;simp (disch:=omega) only [Xu,Yh,Yt,z',v,g2,g3',w1,f1,f2,w2,Zd,Zq,Yy,Yz,Yd,Yu,Yk,Zh,Zj,Zw,Yc,Zk,Af,Ao,Ah,Ai,Ab,Aa]
   grind
  .obtain ⟨n5,h5⟩:=j4e q a b ha hb (i+1) (by omega) x x' (Cs q a b x) (s.out.length:Int) (D4.inn a x) (D4.inn b x) hsl (Cs q a b x).length 0 s.out (Af _) (by omega);simp only [AS,Du] at h5;have e:D4.oneS (Cs q a b x) x x' s=⟨s.out++(Cs q a b x).map (D4.put x x'),Cs q a b x,s.out.length,x'⟩:=by unfold CJ.oneS;rw [g];rfl
   obtain ⟨n0,h0⟩:=v8l k (i+1) (D4.oneS (Cs q a b x) x x' s) (by omega) (by omega) (by omega) (by grind) (by rw [e];simp);have hg:Zo (Xu q a b) 1 (.to (.h4 ((i+1:Nat):Int) (b.length:Int) s.out s.last (s.first:Int) s.fin ((D4.cuts (a++b)).length) (Wk (Xm (D4.ends (a++b)))) x x' (D4.inn a x) (D4.inn b x)))=.to (.h5 x x' (Cs q a b x) ((Cs q a b x).length :Int) 0 ((i+1:Nat):Int) s.out (s.out.length:Int) ((D4.cuts (a++b)).length) (Wk (Xm (D4.ends (a++b)))) (D4.inn a x) (D4.inn b x)):=by
    rw [show (1:Nat)=0+1 from rfl,Zx];have e3:D4.same s.last (Cs q a b x)=EW s.last (Cs q a b x):=rfl;rw [e3] at g;by_cases g1:0<(Cs q a b x).length
    .rw [Al g1,Ai] at g;rcases Zs (s.fin == x) with g2 | g2
     .rw [g2,Ai] at g;simp (disch:=omega) only [Xu,Yh,Yt,z',v,g2,g,w1,f1,f2,w2,Zd,Zq,Yy,Yz,Yd,Yu,Yk,Zh,Zj,Zw,Yc,Zk,Af,Ao,Ah,Ai,Ab,Aa];rfl
     .simp (disch:=omega) only [Xu,Yh,Yt,z',v,g2,w1,f1,f2,w2,Zd,Zq,Yy,Yz,Yd,Yu,Yk,Zh,Zj,Zw,Yc,Zk,Af,Ao,Ah,Ai,Ab,Aa];rfl
    .simp (disch:=omega) only [Xu,Yh,Wu,z',v,w1,f1,f2,w2,Zd,Zq,Yy,Yz,Yd,Yu,Yk,Zh,Zj,Zw,Yc,Zk,Af,Ao,Ah,Ai,Ab,Aa];rfl
   refine ⟨n0+n5+1+n4+n3+1,?_⟩;simp_all [Tg]
theorem j4h : ∀(k i:Nat) (acc:List Int),i+k=b.length->acc=D4.ends (a++b.take i)-> ∃n,Zo (Xu q a b) n (.to (.h1 (i:Int) acc))=.ret (Cy (eJ (Cv (Db q a b) (D4.cuts (a++b)) ((D4.cuts (a++b)).length - 1) 0) (D4.goS (Cs q a b) (D4.cuts (a++b)) ((D4.cuts (a++b)).length - 1) 0 ⟨[],[],0,0⟩).out.length) (D4.goS (Cs q a b) (D4.cuts (a++b)) ((D4.cuts (a++b)).length - 1) 0 ⟨[],[],0,0⟩).out)
 | 0,i,acc,h,h'=>by
  have _u:=ha;have _v:=hb;have e:acc=D4.ends (a++b):=by grind
  subst e;have hle:=D4.ends_length (a++b);rw [AP] at hle;obtain ⟨n,hn⟩:=v8l q a b ha hb ((D4.cuts (a++b)).length - 1) 0 ⟨[],[],0,0⟩ (by omega) (AA _) (AA _) (AA _) (AA _);refine ⟨n+1,?_⟩;rw [Zx];simp (disch:=omega) only [Xu,Jo,N8,NH,Yh,Yu,Yk,Ao,Ab,Aa];exact hn
 | k+1,i,acc,h,h'=>by
  have hle:acc.length<=2*(400+i):=by rw [h',D4.ends_length];grind
  obtain ⟨n,hn⟩:=j4h k (i+1) (acc++D4.ends [rd b i]) (by omega) (by
   rw [h',AW]
   grind [Yo,CJ.ends])
  refine ⟨n+1,?_⟩;rw [Zx];simp (disch:=omega) only [Xu,Zd,Zq,Yy,Yz,Yd,Yu,Yk,Zh,Zj,Zw,Yc,Zk,Af,Ao,Ah,Ai,Ab,Aa];exact hn
theorem j4i : ∀(k i:Nat) (acc:List Int),i+k=a.length->acc=D4.ends (a.take i)-> ∃n,Zo (Xu q a b) n (.to (.h0 (i:Int) acc))=.ret (Cy (eJ (Cv (Db q a b) (D4.cuts (a++b)) ((D4.cuts (a++b)).length - 1) 0) (D4.goS (Cs q a b) (D4.cuts (a++b)) ((D4.cuts (a++b)).length - 1) 0 ⟨[],[],0,0⟩).out.length) (D4.goS (Cs q a b) (D4.cuts (a++b)) ((D4.cuts (a++b)).length - 1) 0 ⟨[],[],0,0⟩).out)
 | 0,i,acc,h,h'=>by
  have _u:=ha;have _v:=hb;obtain ⟨n,hn⟩:=j4h q a b ha hb b.length 0 acc (Af _) (by grind);refine ⟨n+1,?_⟩
  grind [Zx,Xu]
 | k+1,i,acc,h,h'=>by
  have hle:acc.length<=2*(400+i):=by rw [h',D4.ends_length];grind
  obtain ⟨n,hn⟩:=j4i k (i+1) (acc++D4.ends [rd a i]) (by omega) (by
   rw [h',AW]
   grind [Yo,CJ.ends])
  refine ⟨n+1,?_⟩;rw [Zx];simp (disch:=omega) only [Xu,Zd,Zq,Yy,Yz,Yd,Yu,Yk,Zh,Zj,Zw,Yc,Zk,Af,Ao,Ah,Ai,Ab,Aa];exact hn
end
def Dr (q:Op) (a b:List R4):Int:=bif Cz a != 0 then Cz a else bif Cz b != 0 then Cz b else eJ (Cv (Db q a b) (D4.cuts (a++b)) ((D4.cuts (a++b)).length - 1) 0) (DI q.k a b).length
def Wi (q:Op) (a b:List R4):List R4:=D8 (Dr q a b) (DI q.k a b)
def Qq (q:Op) (a b:List R4):Int:=Dr q a b
def Ke (q:Op) (a b:List R4):Bool:=true
theorem w7s {l:List R4} (h:(Cz l != 0)=false):l.length<=400:=by grind [Cz]
theorem PM (q:Op) (a b:List R4) (h:Ke q a b=true): ∃n,Zo (Xu q a b) n (YZ q a b)=.ret (Cy (Dr q a b) (DI q.k a b)):=by
 unfold YZ;have o: ∀l,Tj l=true:=fun _=>rfl;simp only [Zd,o,Ab];rcases Zs (Cz a != 0) with q1 | q1
 .exact ⟨0,by simp only [Dr,q1,Ab,Uv _ q1];rfl⟩
 rcases Zs (Cz b != 0) with q2 | q2
 .exact ⟨0,by simp only [Dr,q1,q2,Ab,Aa,Uv _ q2];rfl⟩
 obtain ⟨n,hn⟩:=j4i q a b (w7s q1) (w7s q2) a.length 0 [] (Af _) rfl;refine ⟨n,?_⟩;simp only [Dr,q1,q2,Aa];exact hn
def WK (q:Op):List B2->Option (B2×Bool)
 | [a0,a1]=>match CS R4 a0,CS R4 a1 with
  | some (L0,g0,n0),some (L1,g1,n1)=>some (.tup [.dat (Wi q L0 L1).length (Zz (Wi q L0 L1)),.int .i64 (Qq q L0 L1)],CO R4 n0 g0&&(CO R4 n1 g1&&(Ke q L0 L1)))
  | _,_=>none
 | _=>none
theorem u1x (q:Op) {S:B4} (hS:Zv prog S):Zv prog (S.with (D2 q) (WK q)):=by
 refine Em hS (by cases q <;> kernel_rfl) fun args v h=> ?_;unfold WK at h;split at h
 .rename_i a0 a1;split at h
  .rename_i L0 g0 n0 L1 g1 n1 e0 e1;simp only [Ad,Ac,Ae] at h;obtain ⟨rfl,ho0,ho1,hw⟩:=h;obtain ⟨N,hN⟩:=PM q L0 L1 hw;exact ⟨_,_,(.cons (Yn e0 ho0) (.cons (Yn e1 ho1) .nil)),H7 _ _,u6q q L0 L1 N _ hN,3,JU _ _⟩
  .cases h
 .cases h
def Ud :B4:=((Uc.with (D2 .u) (WK .u)).with (D2 .e) (WK .e)).with (D2 .d) (WK .d)
theorem Vp :Zv prog Ud:=u1x .d (u1x .e (u1x .u Qi))
inductive ID where
 | h0 (v16:Int) (aD:List Int)
 | h1 (v16:Int) (aD:List Int)
 | h2 (v4:Int) (aH:List R6) (aW:List R4) (bE:Int) (bF:Int) (aF:Nat) (aK:List Int)
 | h3 (v4:Int) (v38:Int) (aH:List R6) (aW:List R4) (bE:Int) (bF:Int) (aF:Nat) (aK:List Int) (aG:Int) (bC:Int) (aA:List R4)
 | h4 (v4:Int) (v38:Int) (aH:List R6) (aW:List R4) (bE:Int) (bF:Int) (aF:Nat) (aK:List Int) (aG:Int) (bC:Int) (aA:List R4) (aJ:List R4)
 | h5 (v1:Int) (v2:Int) (v72:List R4) (v73:Int) (v74:Int) (aY:Int) (aC:List R6) (aZ:Int) (aF:Nat) (aK:List Int) (aG:List R4) (bC:List R4)
 | h6 (v2:Int) (v8:Int) (cB:Int) (bR:List R4) (aY:Int) (aC:List R6) (bD:List R4) (aZ:Int) (bT:Int) (bP:Nat) (bX:List Int) (aA:List R4) (aJ:List R4)
def No (q:Op) (l0:List R6) (l1:List R6):CV:=⟨⟨12,0,true⟩,(Vm prog (FV q) [1,0] 3),(Zg prog (FV q) [1,0] 1),none,(Zy prog 16),Yj [(6,(.dat l0.length (Zz l0))),(7,(.dat l1.length (Zz l1))),(8,(.agg [(.fn (D2 q) [])]))]⟩
abbrev x1j (aC:List R6) (v8:Int) (v2:Int):=(aC.set (0+(tn v8)) (R6.mk (rd aC (0+(tn v8))).a (rd aC (0+(tn v8))).b (rd aC (0+(tn v8))).c (rd aC (0+(tn v8))).d (rd aC (0+(tn v8))).e v2))
def w7b (q:Op):CV:=⟨⟨27,0,true⟩,(Vm prog 66 [1,1,1,0] 4),(Zg prog 66 [1,1,1,0] 1),none,(Zy prog 10),Yj [(20,(.agg [(.fn (D2 q) [])])),(23,(.sl 8 0 2 (.un 1)))]⟩
def v6x :=(DH [(0,⟨.ready,none,65,Yj [(2,(.ptr 1 0)),(4,(.ptr 2 0)),(5,(.ptr 3 0)),(6,(.ptr 4 0))],[15],(Wc prog 93 [1,1,0,1,0,0]),(Wc prog 93 [1,1,0,1,0,1])⟩)])
abbrev TD (aD:List Int):=(Wk (Yq aD.length (CP (Zz (Xm (Yq aD.length (CP (Zz aD))))))))
def v6w :CV:=⟨⟨65,0,true⟩,none,(.inRangeFunc 0::(Zg prog 93 [1,1,0,1,0] 1)),none,(Zy prog 93),Yj [(4,(.ptr 2 0)),(5,(.ptr 3 0)),(6,(.ptr 4 0))]⟩
abbrev x1h (aA:List R4) (l0:List R6) (v38:Int):=(aA++[(R4.mk (rd l0 (tn v38)).a (rd l0 (tn v38)).b (rd l0 (tn v38)).d (rd l0 (tn v38)).e)])
abbrev x1g (aJ:List R4) (l1:List R6) (v38:Int):=(aJ++[(R4.mk (rd l1 (tn v38)).a (rd l1 (tn v38)).b (rd l1 (tn v38)).d (rd l1 (tn v38)).e)])
abbrev x1f (aC:List R6) (v72:List R4) (v74:Int) (v1:Int) (v2:Int):=(aC++[(R6.mk (rd v72 (tn v74)).a (rd v72 (tn v74)).b v1 (rd v72 (tn v74)).c (rd v72 (tn v74)).d v2)])
def Np (l0:List R6) (l1:List R6):CG:=⟨[(.dat l0.length (Zz l0)),(.dat l1.length (Zz l1))],32,none⟩
def v7a :CV:=⟨⟨65,0,true⟩,(Vm prog 93 [1,1,0,0] 1),(Zg prog 93 [1,1,0,0] 1),none,(Zy prog 93),Yj [(2,(.ptr 3 0)),(4,(.ptr 4 0)),(5,(.ptr 5 0)),(6,(.ptr 6 0)),(13,(.sl 1 0 2 (.un 1)))]⟩
def v6z (q:Op):CV:=⟨⟨27,0,true⟩,(Vm prog 66 [1,1,1,0] 4),(Zg prog 66 [1,1,1,0] 1),none,(Zy prog 10),Yj [(20,(.agg [(.fn (D2 q) [])])),(23,(.sl 1 0 2 (.un 1)))]⟩
def NX (q:Op):CG:=⟨[(.fn (D2 q) [])],101,none⟩
abbrev y1x (aD:List Int) (l0:List R6) (v16:Int):=(aD++[(rd l0 (tn v16)).c,(rd l0 (tn v16)).f])
abbrev y1w (aD:List Int) (l1:List R6) (v16:Int):=(aD++[(rd l1 (tn v16)).c,(rd l1 (tn v16)).f])
def x3x :CG:=⟨[(.sl 8 0 2 (.un 1))],177,none⟩
def v6y :=(Zg prog 162 [1,0,0,1,0,0,1,0,1,0,0,1,1,0,0,1,1,0,0] 0)
def Gn (q:Op) (l0:List R6) (l1:List R6):ID->CB
 | .h0 v16 aD=>⟨⟨36,0,true⟩,none,(Zg prog 135 [1,1,0,1,0,0,1,1,0,0,1,1,0,0] 0),none,(Zy prog 9),⟨Yj [(1,(.ptr 0 0)),(3,(.ptr 2 0)),(8,(.sl 1 0 2 (.un 1))),(9,(ii 2)),(10,(ii 0)),(14,(.dat l0.length (Zz l0))),(15,(ii (l0.length:Int))),(16,(ii v16))],Vk [⟨[(.sl 1 0 2 (.un 1))],177,none⟩,(Np l0 l1),⟨[(.sla 7 1 0 aD.length (.un 1))],125,none⟩,(NX q),⟨[.nils],33,none⟩,⟨[(ii 0)],24,none⟩,⟨[.nils,.nils,(ii 0),(ii 0)],179,none⟩,⟨Ya aD.length (Zz aD),3,some ⟨1,aD.length,(Zz aD)⟩⟩] 0,8,[],true⟩,[v7a,(v6z q),(No q l0 l1)],.leaf⟩
 | .h1 v16 aD=>⟨⟨36,0,true⟩,none,(Zg prog 135 [1,1,0,1,0,0,1,1,0,0,1,1,0,0] 0),none,(Zy prog 9),⟨Yj [(1,(.ptr 0 0)),(3,(.ptr 2 0)),(8,(.sl 1 0 2 (.un 1))),(9,(ii 2)),(10,(ii 1)),(14,(.dat l1.length (Zz l1))),(15,(ii (l1.length:Int))),(16,(ii v16))],Vk [⟨[(.sl 1 0 2 (.un 1))],177,none⟩,(Np l0 l1),⟨[(.sla 7 1 0 aD.length (.un 1))],125,none⟩,(NX q),⟨[.nils],33,none⟩,⟨[(ii 0)],24,none⟩,⟨[.nils,.nils,(ii 0),(ii 0)],179,none⟩,⟨Ya aD.length (Zz aD),3,some ⟨1,aD.length,(Zz aD)⟩⟩] 0,8,[],true⟩,[v7a,(v6z q),(No q l0 l1)],.leaf⟩
 | .h2 v4 aH aW bE bF aF aK=>⟨⟨86,0,true⟩,none,(Zg prog 162 [1,0,0] 0),none,[],⟨Yj [(0,(.yld 0)),(1,(.ptr 5 0)),(2,(.ptr 7 0)),(4,(ii v4))],Ch [(1,(NX q)),(2,⟨[.nils],33,none⟩),(3,⟨[(ii 0)],24,none⟩),(4,⟨[(.sla 9 6 0 aH.length (.un 6)),(.dat aW.length (Zz aW)),(ii bE),(ii bF)],179,none⟩),(5,⟨[(.sla 6 1 0 aF (.un 1))],125,none⟩),(6,⟨Ya aK.length (Zz aK),3,some ⟨1,aK.length,(Zz aK)⟩⟩),(7,x3x),(8,(Np l0 l1)),(9,⟨Ya aH.length (Zz aH),57,some ⟨6,aH.length,(Zz aH)⟩⟩)],10,[],true⟩,[v6w,(w7b q),(No q l0 l1)],v6x⟩
 | .h3 v4 v38 aH aW bE bF aF aK aG bC aA=>⟨⟨86,0,true⟩,none,v6y,none,[],⟨Yj [(0,(.yld 0)),(1,(.ptr 5 0)),(2,(.ptr 7 0)),(4,(ii v4)),(5,(.ptr 9 0)),(6,(ii 0)),(29,(.sl 8 0 2 (.un 1))),(30,(ii 2)),(31,(ii 0)),(36,(.dat l0.length (Zz l0))),(37,(ii (l0.length:Int))),(38,(ii v38))],Ch [(1,(NX q)),(2,⟨[.nils],33,none⟩),(3,⟨[(ii 0)],24,none⟩),(4,⟨[(.sla 12 6 0 aH.length (.un 6)),(.dat aW.length (Zz aW)),(ii bE),(ii bF)],179,none⟩),(5,⟨[(.sla 6 1 0 aF (.un 1))],125,none⟩),(6,⟨Ya aK.length (Zz aK),3,some ⟨1,aK.length,(Zz aK)⟩⟩),(7,x3x),(8,(Np l0 l1)),(9,⟨[(ii aG),(ii bC),(.sl 10 0 2 (.ex 2))],184,none⟩),(10,⟨[(.sla 11 4 0 aA.length (.un 4)),.nils],80,none⟩),(11,⟨Ya aA.length (Zz aA),116,some ⟨4,aA.length,(Zz aA)⟩⟩),(12,⟨Ya aH.length (Zz aH),57,some ⟨6,aH.length,(Zz aH)⟩⟩)],13,[],true⟩,[v6w,(w7b q),(No q l0 l1)],v6x⟩
 | .h4 v4 v38 aH aW bE bF aF aK aG bC aA aJ=>⟨⟨86,0,true⟩,none,v6y,none,[],⟨Yj [(0,(.yld 0)),(1,(.ptr 5 0)),(2,(.ptr 7 0)),(4,(ii v4)),(5,(.ptr 9 0)),(6,(ii 1)),(29,(.sl 8 0 2 (.un 1))),(30,(ii 2)),(31,(ii 1)),(36,(.dat l1.length (Zz l1))),(37,(ii (l1.length:Int))),(38,(ii v38))],Ch [(1,(NX q)),(2,⟨[.nils],33,none⟩),(3,⟨[(ii 0)],24,none⟩),(4,⟨[(.sla 13 6 0 aH.length (.un 6)),(.dat aW.length (Zz aW)),(ii bE),(ii bF)],179,none⟩),(5,⟨[(.sla 6 1 0 aF (.un 1))],125,none⟩),(6,⟨Ya aK.length (Zz aK),3,some ⟨1,aK.length,(Zz aK)⟩⟩),(7,x3x),(8,(Np l0 l1)),(9,⟨[(ii aG),(ii bC),(.sl 10 0 2 (.ex 2))],184,none⟩),(10,⟨[(.sla 11 4 0 aA.length (.un 4)),(.sla 12 4 0 aJ.length (.un 4))],80,none⟩),(11,⟨Ya aA.length (Zz aA),116,some ⟨4,aA.length,(Zz aA)⟩⟩),(12,⟨Ya aJ.length (Zz aJ),116,some ⟨4,aJ.length,(Zz aJ)⟩⟩),(13,⟨Ya aH.length (Zz aH),57,some ⟨6,aH.length,(Zz aH)⟩⟩)],14,[],true⟩,[v6w,(w7b q),(No q l0 l1)],v6x⟩
 | .h5 v1 v2 v72 v73 v74 aY aC aZ aF aK aG bC=>⟨⟨101,0,true⟩,none,(Zg prog 136 [1,1,1,0,0] 0),none,[],⟨Yj [(0,(.ptr 0 0)),(1,(ii v1)),(2,(ii v2)),(72,(.dat v72.length (Zz v72))),(73,(ii v73)),(74,(ii v74))],Ch [(0,⟨[(.sla 10 6 0 aC.length (.un 6)),(.dat v72.length (Zz v72)),(ii aZ),(ii v2)],179,none⟩),(2,(NX q)),(3,⟨[.nils],33,none⟩),(4,⟨[(ii 0)],24,none⟩),(5,⟨[(.sla 6 1 0 aF (.un 1))],125,none⟩),(6,⟨Ya aK.length (Zz aK),3,some ⟨1,aK.length,(Zz aK)⟩⟩),(7,x3x),(8,(Np l0 l1)),(9,⟨[(.dat aG.length (Zz aG)),(.dat bC.length (Zz bC))],80,none⟩),(10,⟨Ya aC.length (Zz aC),57,some ⟨6,aC.length,(Zz aC)⟩⟩)],11,[],true⟩,[⟨⟨65,0,true⟩,(Vm prog 93 [1,1,0,1,0,1,0,1,1,1] 5),(Zg prog 93 [1,1,0,1,0,1,0,1,1,1] 1),(some 1),[],Yj [(6,(.ptr 0 0)),(54,(ii v1)),(56,(ii v2)),(57,(.dat v72.length (Zz v72)))]⟩,⟨⟨86,0,true⟩,(Vm prog 162 [1,0,0,1,0,0,1,1,0] 2),(Zg prog 162 [1,0,0,1,0,0,1,1,0] 1),none,[],Yj [(0,(.yld 1)),(1,(.ptr 5 0)),(2,(.ptr 7 0)),(4,(ii aY)),(82,(.yld 1)),(83,(.agg [(ii v1),(ii v2),(.sl 9 0 2 (.ex 2))]))]⟩,⟨⟨65,0,true⟩,none,(.inRangeFunc 1::(Zg prog 93 [1,1,0,1,0] 1)),none,(Zy prog 93),Yj [(4,(.ptr 3 0)),(5,(.ptr 4 0)),(6,(.ptr 0 0))]⟩,(w7b q),(No q l0 l1)],(DH [(1,⟨.busy,none,65,Yj [(2,(.ptr 2 0)),(4,(.ptr 3 0)),(5,(.ptr 4 0)),(6,(.ptr 0 0))],[15],(Wc prog 93 [1,1,0,1,0,0]),(Wc prog 93 [1,1,0,1,0,1])⟩)])⟩
 | .h6 v2 v8 cB bR aY aC bD aZ bT bP bX aA aJ=>⟨⟨101,0,true⟩,none,(Zg prog 136 [0,1,0,0,1,0,0] 0),none,[],⟨Yj [(0,(.ptr 0 0)),(2,(ii v2)),(8,(ii v8))],Ch [(0,⟨[(.sla 1 6 0 aC.length (.un 6)),(.dat bD.length (Zz bD)),(ii aZ),(ii bT)],179,none⟩),(1,⟨Ya aC.length (Zz aC),57,some ⟨6,aC.length,(Zz aC)⟩⟩),(3,(NX q)),(4,⟨[.nils],33,none⟩),(5,⟨[(ii 0)],24,none⟩),(6,⟨[(.sla 7 1 0 bP (.un 1))],125,none⟩),(7,⟨Ya bX.length (Zz bX),3,some ⟨1,bX.length,(Zz bX)⟩⟩),(8,⟨[(.sl 9 0 2 (.un 1))],177,none⟩),(9,(Np l0 l1)),(10,⟨[(.dat aA.length (Zz aA)),(.dat aJ.length (Zz aJ))],80,none⟩)],11,[],true⟩,[⟨⟨65,0,true⟩,(Vm prog 93 [1,1,0,1,0,1,0,1,1,1] 5),(Zg prog 93 [1,1,0,1,0,1,0,1,1,1] 1),(some 2),[],Yj [(6,(.ptr 0 0)),(54,(ii cB)),(56,(ii v2)),(57,(.dat bR.length (Zz bR)))]⟩,⟨⟨86,0,true⟩,(Vm prog 162 [1,0,0,1,0,0,1,1,0] 2),(Zg prog 162 [1,0,0,1,0,0,1,1,0] 1),none,[],Yj [(0,(.yld 2)),(1,(.ptr 6 0)),(2,(.ptr 8 0)),(4,(ii aY)),(82,(.yld 2)),(83,(.agg [(ii cB),(ii v2),(.sl 10 0 2 (.ex 2))]))]⟩,⟨⟨65,0,true⟩,none,(.inRangeFunc 2::(Zg prog 93 [1,1,0,1,0] 1)),none,(Zy prog 93),Yj [(4,(.ptr 4 0)),(5,(.ptr 5 0)),(6,(.ptr 0 0))]⟩,⟨⟨27,0,true⟩,(Vm prog 66 [1,1,1,0] 4),(Zg prog 66 [1,1,1,0] 1),none,(Zy prog 10),Yj [(20,(.agg [(.fn (D2 q) [])])),(23,(.sl 9 0 2 (.un 1)))]⟩,(No q l0 l1)],(DH [(2,⟨.busy,none,65,Yj [(2,(.ptr 3 0)),(4,(.ptr 4 0)),(5,(.ptr 5 0)),(6,(.ptr 0 0))],[15],(Wc prog 93 [1,1,0,1,0,0]),(Wc prog 93 [1,1,0,1,0,1])⟩)])⟩
def LK :List (Option (List Nat)):=[some [1,3,8,9,10,14,15,16],some [2,4,5,6,13],some [20,23],some [6,7,8]]
def LN :List (Option (List Nat)):=[]
def LJ :List (Option (List Nat)):=[some [1,3,8,9,10,14,15,16],some [2,4,5,6,13],some [20,23],some [6,7,8]]
def LM :List (Option (List Nat)):=[]
def j8h :List (Option (List Nat)):=[some [0,1,2,4],some [4,5,6],some [20,23],some [6,7,8]]
def j8i :List (Option (List Nat)):=[some [2,4,5,6],none,none,none,none,none,none,none,none,none]
def u4u :List (Option (List Nat)):=[some [0,1,2,4,5,6,29,30,31,36,37,38],some [4,5,6],some [20,23],some [6,7,8]]
def u4x :List (Option (List Nat)):=[some [2,4,5,6],none,none,none,none,none,none,none,none,none,none,none,none]
def u4t :List (Option (List Nat)):=[some [0,1,2,4,5,6,29,30,31,36,37,38],some [4,5,6],some [20,23],some [6,7,8]]
def u4w :List (Option (List Nat)):=[some [2,4,5,6],none,none,none,none,none,none,none,none,none,none,none,none,none]
def u4s :List (Option (List Nat)):=[some [0,1,2,72,73,74],some [6,54,56,57],some [0,1,2,4,82,83],some [4,5,6],some [20,23],some [6,7,8]]
def u4v :List (Option (List Nat)):=[none,some [2,4,5,6],none,none,none,none,none,none,none,none,none]
def LI :List (Option (List Nat)):=[some [0,2,8],some [6,54,56,57],some [0,1,2,4,82,83],some [4,5,6],some [20,23],some [6,7,8]]
def LL :List (Option (List Nat)):=[none,none,some [2,4,5,6],none,none,none,none,none,none,none,none]
def Ys (q:Op) (l0:List R6) (l1:List R6):ID->Xz ID
 | .h0 v16 aD=>(bif (decide (v16<(l0.length:Int))) then (bif ((decide (0<=v16/\v16<(l0.length:Int)))&&true) then (bif (Nat.beq 1 1&&((decide (0+aD.length=aD.length))&&decide ((aD.length+2+1)*(8+1)<=CF))) then (.to (.h0 (wrap .i64 (v16+1)) (aD++[(rd l0 v16.toNat).c,(rd l0 v16.toNat).f]))) else .stuck) else .stuck) else (.to (.h1 0 aD)))
 | .h1 v16 aD=>(bif (decide (v16<(l1.length:Int))) then (bif ((decide (0<=v16/\v16<(l1.length:Int)))&&true) then (bif (Nat.beq 1 1&&((decide (0+aD.length=aD.length))&&decide ((aD.length+2+1)*(8+1)<=CF))) then (.to (.h1 (wrap .i64 (v16+1)) (aD++[(rd l1 v16.toNat).c,(rd l1 v16.toNat).f]))) else .stuck) else .stuck) else (bif (decide (aD.length<4611686018427387904)) then (bif (decide (aD.length=aD.length)) then (.to (.h2 1 ([]:List R6) ([]:List R4) 0 0 (GN (Yq aD.length (CP (Zz (Xm (Yq aD.length (CP (Zz aD)))))))) (Wk (Yq aD.length (CP (Zz (Xm (Yq aD.length (CP (Zz aD)))))))))) else .stuck) else .stuck))
 | .h2 v4 aH aW bE bF aF aK=>(bif (decide (v4<((aF:Nat):Int))) then (bif ((decide (0<=(wrap .i64 (v4 - 1))/\(wrap .i64 (v4 - 1))<((aF:Nat):Int)))&&true) then (bif (decide ((0+(Int.toNat (wrap .i64 (v4 - 1))))<aK.length)) then (bif ((decide (0<=v4/\v4<((aF:Nat):Int)))&&true) then (bif (decide ((0+v4.toNat)<aK.length)) then (.to (.h3 v4 0 aH aW bE bF aF aK (rd aK (0+(Int.toNat (wrap .i64 (v4 - 1))))) (rd aK (0+v4.toNat)) ([]:List R4))) else .stuck) else .stuck) else .stuck) else .stuck) else (bif (decide ((aH.length:Int)>400)) then (.ret [.nils,(.int .i64 4)]) else (.ret [(.dat aH.length (Zz aH)),(.int .i64 0)])))
 | .h3 v4 v38 aH aW bE bF aF aK aG bC aA=>(bif (decide (v38<(l0.length:Int))) then (bif ((decide (0<=v38/\v38<(l0.length:Int)))&&true) then (bif (decide ((rd l0 v38.toNat).c <=aG)) then (bif (decide (aG<(rd l0 v38.toNat).f)) then (bif (Nat.beq 4 4&&((decide (0+aA.length=aA.length))&&decide ((aA.length+1+1)*(32+1)<=CF))) then (.to (.h3 v4 (wrap .i64 (v38+1)) aH aW bE bF aF aK aG bC (aA++[(R4.mk (rd l0 v38.toNat).a (rd l0 v38.toNat).b (rd l0 v38.toNat).d (rd l0 v38.toNat).e)]))) else .stuck) else (.to (.h3 v4 (wrap .i64 (v38+1)) aH aW bE bF aF aK aG bC aA))) else (.to (.h3 v4 (wrap .i64 (v38+1)) aH aW bE bF aF aK aG bC aA))) else .stuck) else (.to (.h4 v4 0 aH aW bE bF aF aK aG bC aA ([]:List R4))))
 | .h4 v4 v38 aH aW bE bF aF aK aG bC aA aJ=>(bif (decide (v38<(l1.length:Int))) then (bif ((decide (0<=v38/\v38<(l1.length:Int)))&&true) then (bif (decide ((rd l1 v38.toNat).c <=aG)) then (bif (decide (aG<(rd l1 v38.toNat).f)) then (bif (Nat.beq 4 4&&((decide (0+aJ.length=aJ.length))&&decide ((aJ.length+1+1)*(32+1)<=CF))) then (.to (.h4 v4 (wrap .i64 (v38+1)) aH aW bE bF aF aK aG bC aA (aJ++[(R4.mk (rd l1 v38.toNat).a (rd l1 v38.toNat).b (rd l1 v38.toNat).d (rd l1 v38.toNat).e)]))) else .stuck) else (.to (.h4 v4 (wrap .i64 (v38+1)) aH aW bE bF aF aK aG bC aA aJ))) else (.to (.h4 v4 (wrap .i64 (v38+1)) aH aW bE bF aF aK aG bC aA aJ))) else .stuck) else (bif (Us (B3 aA)) then (bif ((Xk (B3 aA)) == 0) then (bif (Us (B3 aJ)) then (bif ((Xk (B3 aJ)) == 0) then (bif ((Ke q) (B3 (Za (B3 aA))) (B3 (Za (B3 aJ)))) then (bif (((Qq q) (B3 (Za (B3 aA))) (B3 (Za (B3 aJ)))) != 0) then (.ret [.nils,(.int .i64 ((Qq q) (B3 (Za (B3 aA))) (B3 (Za (B3 aJ)))))]) else (bif (decide (((((Wi q) (B3 (Za (B3 aA))) (B3 (Za (B3 aJ)))).length :Nat):Int)>0)) then (bif (bF == aG) then (bif (Wg (B3 aW) (B3 ((Wi q) (B3 (Za (B3 aA))) (B3 (Za (B3 aJ)))))) then (bif (Uw (B3 aW) (B3 ((Wi q) (B3 (Za (B3 aA))) (B3 (Za (B3 aJ)))))) then (.to (.h6 bC bE aG ((Wi q) (B3 (Za (B3 aA))) (B3 (Za (B3 aJ)))) v4 aH aW bE bF aF aK aA aJ)) else (.to (.h5 aG bC ((Wi q) (B3 (Za (B3 aA))) (B3 (Za (B3 aJ)))) ((((Wi q) (B3 (Za (B3 aA))) (B3 (Za (B3 aJ)))).length :Nat):Int) 0 v4 aH (aH.length:Int) aF aK aA aJ))) else .stuck) else (.to (.h5 aG bC ((Wi q) (B3 (Za (B3 aA))) (B3 (Za (B3 aJ)))) ((((Wi q) (B3 (Za (B3 aA))) (B3 (Za (B3 aJ)))).length :Nat):Int) 0 v4 aH (aH.length:Int) aF aK aA aJ))) else (.to (.h5 aG bC ((Wi q) (B3 (Za (B3 aA))) (B3 (Za (B3 aJ)))) ((((Wi q) (B3 (Za (B3 aA))) (B3 (Za (B3 aJ)))).length :Nat):Int) 0 v4 aH (aH.length:Int) aF aK aA aJ)))) else .stuck) else (.ret [.nils,(.int .i64 (Xk (B3 aJ)))])) else .stuck) else (.ret [.nils,(.int .i64 (Xk (B3 aA)))])) else .stuck))
 | .h5 v1 v2 v72 v73 v74 aY aC aZ aF aK aG bC=>(bif (decide (v74<v73)) then (bif ((decide (0<=v74/\v74<(v72.length:Int)))&&true) then (bif (Nat.beq 6 6&&((decide (0+aC.length=aC.length))&&decide ((aC.length+1+1)*(48+1)<=CF))) then (.to (.h5 v1 v2 v72 v73 (wrap .i64 (v74+1)) aY (aC++[(R6.mk (rd v72 v74.toNat).a (rd v72 v74.toNat).b v1 (rd v72 v74.toNat).c (rd v72 v74.toNat).d v2)]) aZ aF aK aG bC)) else .stuck) else .stuck) else (.to (.h2 (wrap .i64 (aY+1)) aC v72 aZ v2 aF aK)))
 | .h6 v2 v8 cB bR aY aC bD aZ bT bP bX aA aJ=>(bif (decide (v8<(aC.length:Int))) then (bif ((decide (0<=v8/\v8<(aC.length:Int)))&&true) then (bif (decide ((0+v8.toNat)<aC.length)) then (.to (.h6 v2 (wrap .i64 (v8+1)) cB bR aY (aC.set (0+v8.toNat) (R6.mk (rd aC (0+v8.toNat)).a (rd aC (0+v8.toNat)).b (rd aC (0+v8.toNat)).c (rd aC (0+v8.toNat)).d (rd aC (0+v8.toNat)).e v2)) bD aZ bT bP bX aA aJ)) else .stuck) else .stuck) else (.to (.h2 (wrap .i64 (aY+1)) aC bD aZ v2 bP bX)))
def ZK (q:Op) (l0:List R6) (l1:List R6):Xz ID:=(bif (We (B3 l0)) then (bif ((Zf (B3 l0)) != 0) then (.ret [.nils,(.int .i64 (Zf (B3 l0)))]) else (bif (We (B3 l1)) then (bif ((Zf (B3 l1)) != 0) then (.ret [.nils,(.int .i64 (Zf (B3 l1)))]) else (.to (.h0 0 ([]:List Int)))) else .stuck)) else .stuck)
theorem v0y (q:Op) (l0:List R6) (l1:List R6): ∀s,Xw prog (Zy prog (FV q)) (Gn q l0 l1) (Gn q l0 l1 s) (Ys q l0 l1 s):=by cases q <;> refine (?f: ∀q:Op,∀s,Xw prog (Zy prog (FV q)) (Gn q l0 l1) (Gn q l0 l1 s) (Ys q l0 l1 s)) _ <;> exact fun q=>fun
 | .h0 v16 aD=>(lb (fun k0=>(lo fun o0=>(lo fun o1=>let a:=xL (aD.length+2) (y1x aD l0 v16).length;let b:=y1x aD l0 v16;(sl Vp 34 [] ⟨[0,1,2,3,4,5,6,10],[],LK,LN⟩ ⟨[],[.keep,.keep,.cells [.len b.length],.keep,.keep,.keep,.keep,.rowed 1 b.length (Zz b)],[]⟩ [true] (pp a (pp a (pp (xS (aD.length+2) (Zt (Zz aD) 0 aD.length 1 [(ii (rd l0 (tn v16)).c),(ii (rd l0 (tn v16)).f)]) (Zz (y1x aD l0 v16))) (pp (pp (xF (Zt (Zz aD) 0 aD.length 1 [(ii (rd l0 (tn v16)).c),(ii (rd l0 (tn v16)).f)])) nn) (ww o1 (ww o0 (tt k0 nn))))))))))) (fun k0=>(sl Vp 36 [] ⟨(List.range 8),[],LJ,LM⟩ a6 (bl 2 2) (pp (fl aD nn) (tt k0 nn)))))
 | .h1 v16 aD=>(lb (fun k0=>(lo fun o0=>(lo fun o1=>let d:=xL (aD.length+2) (y1w aD l1 v16).length;let g:=y1w aD l1 v16;(sl Vp 34 [] ⟨[0,1,2,3,4,5,6,10],[],LJ,LM⟩ ⟨[],[.keep,.keep,.cells [.len g.length],.keep,.keep,.keep,.keep,.rowed 1 g.length (Zz g)],[]⟩ [true] (pp d (pp d (pp (xS (aD.length+2) (Zt (Zz aD) 0 aD.length 1 [(ii (rd l1 (tn v16)).c),(ii (rd l1 (tn v16)).f)]) (Zz (y1w aD l1 v16))) (pp (pp (xF (Zt (Zz aD) 0 aD.length 1 [(ii (rd l1 (tn v16)).c),(ii (rd l1 (tn v16)).f)])) nn) (ww o1 (ww o0 (tt k0 nn))))))))))) (fun k0=>(lo fun o0=>(lo fun o1=>let a:=xG (Nat.beq 1 1);let b:=xG (decide (aD.length<4611686018427387904));let e:=xG (decide (aD.length=aD.length));let h:=xG (Nat.beq 0 0);(sl Vp 46 [(57,6,Zz ([]:List R6))] ⟨[8,3,4,5,6,2,7,0,1,9],[],j8h,j8i⟩ ⟨[],(Cl 4 [.cells [.grow 9 6,.list 0 (Zz ([]:List R4)),.keep,.keep],.keep,.rowed 1 (TD aD).length (Zz (TD aD)),.keep,.keep,.keep]),[]⟩ (bl 2 0) (pp (xL aD.length (TD aD).length (by first | exact N4 _ _ | exact Uu rfl)) (pp (xS aD.length (Zz (TD aD)) (Zz (TD aD))) (pp (fl (TD aD) (fl ([]:List R6) nn)) (pp (pp a (pp a (pp h (pp e (pp (xG (EP (Zz (Xm (Yq aD.length (CP (Zz aD))))))) b))))) (pp (pp a (pp a (pp h (pp e (pp (xG (EP (Zz aD))) b))))) (tt k0 nn)))))))))))
 | .h2 v4 aH aW bE bF aF aK=>(lb (fun k0=>(lo fun o0=>(lo fun o1=>(lo fun o2=>(lo fun o3=>(sl Vp 48 [(116,4,Zz ([]:List R4))] ⟨[0,1,2,3,4,5,6,7,8,10,11,12,9],[],u4u,u4x⟩ ⟨[],(Cl 10 [.cells [.grow 11 4,.keep],.keep,.keep]),[]⟩ (CA 3 []) (pp (fl aK (fl ([]:List R4) (fl aH nn))) (ww o3 (ww o2 (ww o1 (ww o0 (tt k0 nn)))))))))))) (fun k0=>(lb (fun k1=>(lr 12 3 [1,1,1,1,0] 1 16 [(4,.nils),(5,(ii 4))] (sl Vp 39 [] (a8 [4,5]) a6 (bl 2 2) (tt k1 (tt k0 nn))))) (fun k1=>(lr 12 3 [1,1,1,1,0] 1 16 [(4,(.dat aH.length (Zz aH))),(5,(ii 0))] (sl Vp 42 [] ⟨[],[9],[some [4,5]],[]⟩ ⟨[(4,.frz aH.length aH.length (Zz aH) (Zz aH))],[],[]⟩ (bl 2 0) (pp (xZ (Cm 6 6 0 aH.length aH.length (Zz aH)) aH.length (Zz aH)) (pp (xL aH.length aH.length) (pp (xS aH.length (Zz aH) (Zz aH)) (pp (fl aH nn) (tt k1 (tt k0 nn))))))))))))
 | .h3 v4 v38 aH aW bE bF aF aK aG bC aA=>(lb (fun k0=>(lo fun aE=>let f:=ww aE (tt k0 nn);let h:=fl aK (fl aA (fl aH nn));let i:=List.range 13;(lb (fun k1=>(lb (fun k2=>(lo fun o0=>let c:=xL (aA.length+1) (x1h aA l0 v38).length;let g:=x1h aA l0 v38;(sl Vp 41 [] ⟨[0,1,2,3,4,5,6,7,8,9,10,15,12],[],u4u,u4x⟩ ⟨[],(Cl 10 [.cells [.len g.length,.keep],.rowed 4 g.length (Zz g),.keep]),[]⟩ (CA 8 []) (pp c (pp c (pp (xS (aA.length+1) (Zt (Zz aA) 0 aA.length 4 [(ii (rd l0 (tn v38)).a),(ii (rd l0 (tn v38)).b),(ii (rd l0 (tn v38)).d),(ii (rd l0 (tn v38)).e)]) (Zz (x1h aA l0 v38))) (pp (fl aK (pp (xF (Zt (Zz aA) 0 aA.length 4 [(ii (rd l0 (tn v38)).a),(ii (rd l0 (tn v38)).b),(ii (rd l0 (tn v38)).d),(ii (rd l0 (tn v38)).e)])) (fl aH nn))) (ww o0 (tt k2 (tt k1 f)))))))))) (fun k2=>(sl Vp 41 [] ⟨i,[],u4u,u4x⟩ a6 (CA 7 [false]) (pp h (tt k2 (tt k1 f))))))) (fun k1=>(sl Vp 41 [] ⟨i,[],u4u,u4x⟩ a6 (bl 8 1) (pp h (tt k1 f))))))) (fun k0=>(sl Vp 38 [(116,4,Zz ([]:List R4))] ⟨[0,1,2,3,4,5,6,7,8,9,10,11,13,12],[],u4t,u4w⟩ ⟨[],(Cl 10 [.cells [.keep,.grow 12 4],.keep,.keep,.keep]),[]⟩ (bl 2 2) (pp (fl aK (fl aA (fl ([]:List R4) (fl aH nn)))) (tt k0 nn)))))
 | .h4 v4 v38 aH aW bE bF aF aK aG bC aA aJ=>(lb (fun k0=>(lo fun aE=>let m:=ww aE (tt k0 nn);let n:=fl aK (fl aA (fl aJ (fl aH nn)));let F:=List.range 14;(lb (fun k1=>(lb (fun k2=>(lo fun o0=>let i:=xL (aJ.length+1) (x1g aJ l1 v38).length;let s:=x1g aJ l1 v38;(sl Vp 41 [] ⟨[0,1,2,3,4,5,6,7,8,9,10,11,16,13],[],u4t,u4w⟩ ⟨[],(Cl 10 [.cells [.keep,.len s.length],.keep,.rowed 4 s.length (Zz s),.keep]),[]⟩ (CA 8 []) (pp i (pp i (pp (xS (aJ.length+1) (Zt (Zz aJ) 0 aJ.length 4 [(ii (rd l1 (tn v38)).a),(ii (rd l1 (tn v38)).b),(ii (rd l1 (tn v38)).d),(ii (rd l1 (tn v38)).e)]) (Zz (x1g aJ l1 v38))) (pp (fl aK (fl aA (pp (xF (Zt (Zz aJ) 0 aJ.length 4 [(ii (rd l1 (tn v38)).a),(ii (rd l1 (tn v38)).b),(ii (rd l1 (tn v38)).d),(ii (rd l1 (tn v38)).e)])) (fl aH nn)))) (ww o0 (tt k2 (tt k1 m)))))))))) (fun k2=>(sl Vp 41 [] ⟨F,[],u4t,u4w⟩ a6 (CA 7 [false]) (pp n (tt k2 (tt k1 m))))))) (fun k1=>(sl Vp 41 [] ⟨F,[],u4t,u4w⟩ a6 (bl 8 1) (pp n (tt k1 m))))))) (fun k0=>let c:=DH [(0,⟨.busy,none,65,Yj [(2,(.ptr 1 0)),(4,(.ptr 2 0)),(5,(.ptr 3 0)),(6,(.ptr 4 0))],[15],(Wc prog 93 [1,1,0,1,0,0]),(Wc prog 93 [1,1,0,1,0,1])⟩)];let g:=xZ (Cm 4 4 0 aA.length aA.length (Zz aA)) aA.length (Zz aA);let j:=Vm prog 162 [1,0,0,1,0,0,1,1,0] 2;let l:=Zg prog 162 [1,0,0,1,0,0,1,1,0] 1;let p:=xS aA.length (Zz aA) (Zz aA);let v:=Zg prog 93 [1,1,0,1,0] 1;let w:=Vm prog (FV q) [1,0] 3;let y:=Zg prog (FV q) [1,0] 1;let z:=Vm prog 66 [1,1,1,0] 4;let A:=Zg prog 66 [1,1,1,0] 1;let B:=xL aA.length aA.length;let G:=Zy prog 93;let H:=Zy prog 10;let I:=Zy prog 16;(Xh (sl Vp (C':=⟨⟨65,0,true⟩,(Vm prog 93 [1,1,0,1,0,1,0,0] 4),(Zg prog 93 [1,1,0,1,0,1,0,0] 1),(some 0),[],⟨Yj [(2,(.ptr 1 0)),(4,(.ptr 2 0)),(5,(.ptr 3 0)),(6,(.ptr 4 0)),(7,(.ptr 6 0)),(20,(.dat aA.length (Zz aA)))],Ch [(1,⟨[(.fn (D2 q) [])],101,none⟩),(2,⟨[.nils],33,none⟩),(3,⟨[(ii 0)],24,none⟩),(4,⟨[(.sla 5 6 0 aH.length (.un 6)),(.dat aW.length (Zz aW)),(ii bE),(ii bF)],179,none⟩),(5,⟨Ya aH.length (Zz aH),57,some ⟨6,aH.length,(Zz aH)⟩⟩),(6,⟨[(ii aG),(ii bC),(.sl 7 0 2 (.ex 2))],184,none⟩),(7,⟨[(.dat aA.length (Zz aA)),(.sla 8 4 0 aJ.length (.un 4))],80,none⟩),(8,⟨Ya aJ.length (Zz aJ),116,some ⟨4,aJ.length,(Zz aJ)⟩⟩),(9,⟨[(.sla 10 1 0 aF (.un 1))],125,none⟩),(10,⟨Ya aK.length (Zz aK),3,some ⟨1,aK.length,(Zz aK)⟩⟩),(11,⟨[(.sl 12 0 2 (.un 1))],177,none⟩),(12,⟨[(.dat l0.length (Zz l0)),(.dat l1.length (Zz l1))],32,none⟩)],13,[],true⟩,[⟨⟨86,0,true⟩,j,l,none,[],Yj [(0,(.yld 0)),(1,(.ptr 9 0)),(2,(.ptr 11 0)),(4,(ii v4)),(82,(.yld 0)),(83,(.agg [(ii aG),(ii bC),(.sl 7 0 2 (.ex 2))]))]⟩,⟨⟨65,0,true⟩,none,(.inRangeFunc 0::v),none,G,Yj [(4,(.ptr 2 0)),(5,(.ptr 3 0)),(6,(.ptr 4 0))]⟩,⟨⟨27,0,true⟩,z,A,none,H,Yj [(20,(.agg [(.fn (D2 q) [])])),(23,(.sl 12 0 2 (.un 1)))]⟩,⟨⟨12,0,true⟩,w,y,none,I,Yj [(6,(.dat l0.length (Zz l0))),(7,(.dat l1.length (Zz l1))),(8,(.agg [(.fn (D2 q) [])]))]⟩],c⟩) 37 [] ⟨[0,1,2,3,4,13,14,10,12,5,6,7,8],[11],[some [2,4,5,6,7,20],some [0,1,2,4,82,83],some [4,5,6],some [20,23],some [6,7,8]],[some [2,4,5,6],none,none,none,none,none,none,none,none,none,none,none,none]⟩ ⟨[(20,.frz aA.length aA.length (Zz aA) (Zz aA))],[.keep,.keep,.keep,.keep,.keep,.keep,.keep,.cells [.frz aA.length aA.length (Zz aA) (Zz aA),.keep],.keep,.keep,.keep,.keep,.keep],[]⟩ (bl 2 0) (pp g (pp B (pp p (pp g (pp B (pp p (pp (fl aH (fl aJ (fl aK nn))) (pp (fl aA nn) (tt k0 nn)))))))))) (lo fun aE=>let t:=pp (pp (xr aA) (xw aE)) nn;(lb (fun k1=>let h:=xZ (Cm 4 4 0 aJ.length aJ.length (Zz aJ)) aJ.length (Zz aJ);let r:=xS aJ.length (Zz aJ) (Zz aJ);let C:=Za (B3 aA);let D:=xL aJ.length aJ.length;let E:=fl aH (fl aK nn);(Xh (sl Vp (C':=⟨⟨65,0,true⟩,(Vm prog 93 [1,1,0,1,0,1,0,1,0,1,0,0,1,1,0,0,1,1,0,1,0] 1),(Zg prog 93 [1,1,0,1,0,1,0,1,0,1,0,0,1,1,0,0,1,1,0,1,0] 1),(some 0),[],⟨Yj [(2,(.ptr 1 0)),(4,(.ptr 2 0)),(5,(.ptr 3 0)),(6,(.ptr 4 0)),(7,(.ptr 6 0)),(8,(.dat C.length (Zz C))),(26,(.sl 7 1 1 (.ex 1))),(27,(ii 1)),(28,(ii 0)),(35,(.dat aJ.length (Zz aJ)))],Ch [(1,⟨[(.fn (D2 q) [])],101,none⟩),(2,⟨[.nils],33,none⟩),(3,⟨[(ii 0)],24,none⟩),(4,⟨[(.sla 5 6 0 aH.length (.un 6)),(.dat aW.length (Zz aW)),(ii bE),(ii bF)],179,none⟩),(5,⟨Ya aH.length (Zz aH),57,some ⟨6,aH.length,(Zz aH)⟩⟩),(6,⟨[(ii aG),(ii bC),(.sl 7 0 2 (.ex 2))],184,none⟩),(7,⟨[(.dat aA.length (Zz aA)),(.dat aJ.length (Zz aJ))],80,none⟩),(8,⟨[(.sla 9 1 0 aF (.un 1))],125,none⟩),(9,⟨Ya aK.length (Zz aK),3,some ⟨1,aK.length,(Zz aK)⟩⟩),(10,⟨[(.sl 11 0 2 (.un 1))],177,none⟩),(11,⟨[(.dat l0.length (Zz l0)),(.dat l1.length (Zz l1))],32,none⟩)],12,[],true⟩,[⟨⟨86,0,true⟩,j,l,none,[],Yj [(0,(.yld 0)),(1,(.ptr 8 0)),(2,(.ptr 10 0)),(4,(ii v4)),(82,(.yld 0)),(83,(.agg [(ii aG),(ii bC),(.sl 7 0 2 (.ex 2))]))]⟩,⟨⟨65,0,true⟩,none,(.inRangeFunc 0::v),none,G,Yj [(4,(.ptr 2 0)),(5,(.ptr 3 0)),(6,(.ptr 4 0))]⟩,⟨⟨27,0,true⟩,z,A,none,H,Yj [(20,(.agg [(.fn (D2 q) [])])),(23,(.sl 11 0 2 (.un 1)))]⟩,⟨⟨12,0,true⟩,w,y,none,I,Yj [(6,(.dat l0.length (Zz l0))),(7,(.dat l1.length (Zz l1))),(8,(.agg [(.fn (D2 q) [])]))]⟩],c⟩) 46 [] ⟨[0,1,2,3,4,5,6,7,9,10,11,12],[8],[some [2,4,5,6,7,8,26,27,28,35],some [0,1,2,4,82,83],some [4,5,6],some [20,23],some [6,7,8]],[some [2,4,5,6],none,none,none,none,none,none,none,none,none,none,none]⟩ ⟨[(35,.frz aJ.length aJ.length (Zz aJ) (Zz aJ))],[.keep,.keep,.keep,.keep,.keep,.keep,.keep,.cells [.keep,.frz aJ.length aJ.length (Zz aJ) (Zz aJ)],.keep,.keep,.keep,.keep],[]⟩ (bl 2 3) (pp h (pp D (pp r (pp h (pp D (pp r (pp E (pp (fl aJ nn) (tt k1 t)))))))))) (lo fun bU=>let u:=pp (pp (xr aJ) (xw bU)) nn;(lb (fun k2=>(lo fun cG=>let f:=tt k2 u;(lb (fun k3=>(lr 12 3 [1,1,1,1,0] 1 16 [(4,.nils),(5,(ii ((Qq q) (B3 C) (B3 (Za (B3 aJ))))))] (sl Vp 69 [] (a8 [4,5]) a6 (bl 4 13) (tt k3 (pp (pp (xI R4 (Za (B3 aA)).length (Zz (Za (B3 aA)))) (pp (xI R4 (Za (B3 aJ)).length (Zz (Za (B3 aJ)))) (xw cG))) f))))) (fun k3=>let o:=fl aK (fl aH nn);(lb (fun k4=>(lb (fun k5=>(lo fun dM=>(lb (fun k6=>(sl Vp 88 [] ⟨[4,5,0,1,2,3,8,9,10,11,7],[],LI,LL⟩ a6 (bl 16 65529) (pp E (tt k6 (pp (pp (xr aW) (pp (xI R4 ((Wi q) (B3 (Za (B3 aA))) (B3 (Za (B3 aJ)))).length (Zz ((Wi q) (B3 (Za (B3 aA))) (B3 (Za (B3 aJ)))))) (xw dM))) (tt k5 (tt k4 (tt k3 (pp (pp (xI R4 (Za (B3 aA)).length (Zz (Za (B3 aA)))) (pp (xI R4 (Za (B3 aJ)).length (Zz (Za (B3 aJ)))) (xw cG))) f))))))))) (fun k6=>(sl Vp 108 [] ⟨[4,0,1,2,3,8,9,10,11,7,5],[],u4s,u4v⟩ a6 (bl 16 32761) (pp o (tt k6 (pp (pp (xr aW) (pp (xI R4 ((Wi q) (B3 (Za (B3 aA))) (B3 (Za (B3 aJ)))).length (Zz ((Wi q) (B3 (Za (B3 aA))) (B3 (Za (B3 aJ)))))) (xw dM))) (tt k5 (tt k4 (tt k3 (pp (pp (xI R4 (Za (B3 aA)).length (Zz (Za (B3 aA)))) (pp (xI R4 (Za (B3 aJ)).length (Zz (Za (B3 aJ)))) (xw cG))) f)))))))))))) (fun k5=>(sl Vp 108 [] ⟨[4,0,1,2,3,8,9,10,11,7,5],[],u4s,u4v⟩ a6 (bl 16 505) (pp o (tt k5 (tt k4 (tt k3 (pp (pp (xI R4 (Za (B3 aA)).length (Zz (Za (B3 aA)))) (pp (xI R4 (Za (B3 aJ)).length (Zz (Za (B3 aJ)))) (xw cG))) f))))))))) (fun k4=>(sl Vp 108 [] ⟨[4,0,1,2,3,8,9,10,11,7,5],[],u4s,u4v⟩ a6 (bl 16 1) (pp o (tt k4 (tt k3 (pp (pp (xI R4 (Za (B3 aA)).length (Zz (Za (B3 aA)))) (pp (xI R4 (Za (B3 aJ)).length (Zz (Za (B3 aJ)))) (xw cG))) f))))))))))) (fun k2=>(lr 12 3 [1,1,1,1,0] 1 16 [(4,.nils),(5,(ii (Xk (B3 aJ))))] (sl Vp 58 [] (a8 [4,5]) a6 (bl 4 12) (yt (TI k2) (tt k2 u))))))))) (fun k1=>(lr 12 3 [1,1,1,1,0] 1 16 [(4,.nils),(5,(ii (Xk (B3 aA))))] (sl Vp 84 [] (a8 [4,5]) a6 (bl 5 25) (yt (TI k1) (tt k1 t))))))))))
 | .h5 v1 v2 v72 v73 v74 aY aC aZ aF aK aG bC=>(lb (fun k0=>(lo fun o0=>(lo fun o1=>let e:=xL (aC.length+1) (x1f aC v72 v74 v1 v2).length;let f:=x1f aC v72 v74 v1 v2;(sl Vp 23 [] ⟨[0,1,2,3,4,5,6,7,8,9,13],[],u4s,u4v⟩ ⟨[],[.cells [.len f.length,.keep,.keep,.keep],.keep,.keep,.keep,.keep,.keep,.keep,.keep,.keep,.keep,.rowed 6 f.length (Zz f)],[]⟩ [true] (pp e (pp e (pp (xS (aC.length+1) (Zt (Zz aC) 0 aC.length 6 [(ii (rd v72 (tn v74)).a),(ii (rd v72 (tn v74)).b),(ii v1),(ii (rd v72 (tn v74)).c),(ii (rd v72 (tn v74)).d),(ii v2)]) (Zz (x1f aC v72 v74 v1 v2))) (pp (fl aK (pp (xF (Zt (Zz aC) 0 aC.length 6 [(ii (rd v72 (tn v74)).a),(ii (rd v72 (tn v74)).b),(ii v1),(ii (rd v72 (tn v74)).c),(ii (rd v72 (tn v74)).d),(ii v2)])) nn)) (ww o1 (ww o0 (tt k0 nn))))))))))) (fun k0=>(sl Vp 22 [] ⟨[1,2,3,4,0,5,6,7,8,10],[],j8h,j8i⟩ a6 (bl 2 0) (pp (fl aK (fl aC nn)) (tt k0 nn)))))
 | .h6 v2 v8 cB bR aY aC bD aZ bT bP bX aA aJ=>(lb (fun k0=>(lo fun o0=>(lo fun o1=>let a:=xL aC.length (x1j aC v8 v2).length;let b:=x1j aC v8 v2;(sl Vp 34 [] ⟨(List.range 11),[],LI,LL⟩ ⟨[],[.cells [.len b.length,.keep,.keep,.keep],.rowed 6 b.length (Zz b),.keep,.keep,.keep,.keep,.keep,.keep,.keep,.keep,.keep],[]⟩ [true] (pp a (pp a (pp (xS aC.length (Xa (Zz aC) (0+(tn v8)) 5 [(ii v2)]) (Zz (x1j aC v8 v2))) (pp (pp (xF (Xa (Zz aC) (0+(tn v8)) 5 [(ii v2)])) (fl bX nn)) (ww o1 (ww o0 (tt k0 nn))))))))))) (fun k0=>(sl Vp 36 [] ⟨[2,3,4,5,0,6,7,8,9,1],[],j8h,j8i⟩ a6 (bl 2 0) (pp (fl bX (fl aC nn)) (tt k0 nn)))))
theorem w0r (q:Op) (l0:List R6) (l1:List R6):Xw prog (Zy prog (FV q)) (Gn q l0 l1) (Zm prog (FV q) [(.dat l0.length (Zz l0)),(.dat l1.length (Zz l1))] true []) (ZK q l0 l1):=by cases q <;> exact (lo fun bN=>(lb (fun k0=>(lr 12 3 [1,1,1,1,0] 1 16 [(4,.nils),(5,(ii (Zf (B3 l0))))] (sl Vp 42 [] (a8 [4,5]) a6 [true] (tt k0 (pp (pp (xr l0) (xw bN)) nn))))) (fun k0=>(lo fun aE=>(lb (fun k1=>(lr 12 3 [1,1,1,1,0] 1 16 [(4,.nils),(5,(ii (Zf (B3 l1))))] (sl Vp 56 [] (a8 [4,5]) a6 (bl 2 2) (tt k1 (pp (pp (xr l1) (xw aE)) (tt k0 (pp (pp (xr l0) (xw bN)) nn))))))) (fun k1=>(sl Vp 108 [(3,1,Zz ([]:List Int))] ⟨[6,1,7,2,3,4,5,8],[],LK,LN⟩ ⟨[],[.keep,.keep,.cells [.grow 7 1],.keep,.keep,.keep,.keep,.keep],[]⟩ (bl 3 4) (pp (fl ([]:List Int) nn) (tt k1 (pp (pp (xr l1) (xw aE)) (tt k0 (pp (pp (xr l0) (xw bN)) nn))))))))))))
theorem u4r (q:Op) (l0:List R6) (l1:List R6) (n:Nat) (vs:List B2) (h:Zo (Ys q l0 l1) n (ZK q l0 l1)=.ret vs):Uj prog (Zy prog (FV q)) (Zm prog (FV q) [(.dat l0.length (Zz l0)),(.dat l1.length (Zz l1))] true []) vs:=by have:=Zb (v0y q l0 l1) n _ (w0r q l0 l1);rwa [h] at this
theorem y2a (l:List R4):(Xk l == 0)= !(Xk l != 0):=by grind
def C9 (q:Op) (a b:List R6) (x:Int):List R4:=DI q.k (Za (D6.inn a x)) (Za (D6.inn b x))
def Ck (q:Op) (a b:List R6) (x:Int):Int:=bif Xk (D6.inn a x) != 0 then Xk (D6.inn a x) else bif Xk (D6.inn b x) != 0 then Xk (D6.inn b x) else Dr q (Za (D6.inn a x)) (Za (D6.inn b x))
theorem x4r {q:Op} {a b:List R4} (h:Dr q a b=0):Cz a=0/\Cz b=0/\(DI q.k a b).length <=400:=by
 unfold Dr at h;cases g1:(Cz a != 0) with
 | true=>grind
 | false=>
  cases g2:(Cz b != 0) with
  | true=>grind
  | false=>
   rw [g1,g2,Aa,Aa] at h;unfold eJ at h;refine ⟨by grind,by grind,?_⟩;revert h;generalize Cv (Db q a b) _ _ _=e;intro h;cases g3:(e != 0) with
   | true=>grind
   | false=>simp_all [UG]
theorem x3z {q:Op} {a b:List R6} {x:Int} (h:Ck q a b x=0):Xk (D6.inn a x)=0/\Xk (D6.inn b x)=0/\Dr q (Za (D6.inn a x)) (Za (D6.inn b x))=0:=by grind [Ck]
theorem j8k (q:Op) (a b:List R6) (x:Int) (h:(Ck q a b x != 0)=false):(C9 q a b x).length <=1000:=
 AF (x4r (x3z (by simpa using h)).2.2).2.2 (by omega)
section
variable (q:Op) (a b:List R6) (ha:a.length<=400) (hb:b.length<=400)
include ha hb
theorem j1x (i:Nat) (out:List R6) (last:List R4) (first fin x x':Int): ∀(k j:Nat) (acc:List R4),j+k=a.length->acc.length<=j->
  ∃n,∀N,Zo (Ys q a b) (N+n) (.to (.h3 (i:Int) (j:Int) out last first fin ((D6.cuts (a++b)).length) (Wk (Xm (D6.ends (a++b)))) x x' acc))=Zo (Ys q a b) N (.to (.h4 (i:Int) 0 out last first fin ((D6.cuts (a++b)).length) (Wk (Xm (D6.ends (a++b)))) x x' (acc++D6.inn (a.drop j) x) []))
 | 0,j,acc,h,h'=>by
  have _u:=ha;have _v:=hb;refine ⟨1,fun N=> ?_⟩;rw [As (by omega),show D6.inn ([]:List R6) x=[] from rfl,AE,Zx]
  grind [Ys]
 | k+1,j,acc,h,h'=>by
  have hj:j<a.length:=by omega
  obtain ⟨n,hn⟩:=j1x i out last first fin x x' k (j+1) (acc++D6.inn [rd a j] x) (by omega) (by have:=D6.inn_length [rd a j] x;grind)
  refine ⟨n+1,fun N=> ?_⟩;have e:D6.inn (a.drop j) x=D6.inn [rd a j] x++D6.inn (a.drop (j+1)) x:=by rw [Yg hj,<-D6.inn_append];rfl
  rw [e,<-AD,Zx,<-AM,<-hn N];by_cases h1:D6.lo (rd a j)<=x
  .by_cases h2:x<D6.hi (rd a j)
   .rw [D6.inn_t _ _ h1 h2];simp only [D6] at h1 h2 ⊢;simp (disch:=omega) only [Ys,Wj,Zd,Zq,Yy,Yz,Yd,Yu,Yk,Zh,Zj,Zw,Yc,Zk,Af,Ao,Ah,Ai,Ab,Aa]
   .rw [D6.inn_f2 _ _ h2,AE];simp only [D6] at h1 h2;simp (disch:=omega) only [Ys,Wj,Yh,Zd,Zq,Yy,Yz,Yd,Yu,Yk,Zh,Zj,Zw,Yc,Zk,Af,Ao,Ah,Ai,Ab,Aa]
  .rw [D6.inn_f1 _ _ h1,AE];simp only [D6] at h1;simp (disch:=omega) only [Ys,Nx,Zd,Zq,Yy,Yz,Yd,Yu,Yk,Zh,Zj,Zw,Yc,Zk,Af,Ao,Ah,Ai,Ab,Aa]
theorem j1w (i:Nat) (out:List R6) (last:List R4) (first fin x x':Int) (o1:List R4): ∀(k j:Nat) (acc:List R4),j+k=b.length->acc.length<=j->
  ∃n,∀N,Zo (Ys q a b) (N+n) (.to (.h4 (i:Int) (j:Int) out last first fin ((D6.cuts (a++b)).length) (Wk (Xm (D6.ends (a++b)))) x x' o1 acc))=Zo (Ys q a b) N (.to (.h4 (i:Int) (b.length:Int) out last first fin ((D6.cuts (a++b)).length) (Wk (Xm (D6.ends (a++b)))) x x' o1 (acc++D6.inn (b.drop j) x)))
 | 0,j,acc,h,h'=>by have _u:=ha;have _v:=hb;refine ⟨0,fun N=> ?_⟩;rw [As (by omega),show D6.inn ([]:List R6) x=[] from rfl,AE,Bd,show j=b.length by omega]
 | k+1,j,acc,h,h'=>by
  have hj:j<b.length:=by omega
  obtain ⟨n,hn⟩:=j1w i out last first fin x x' o1 k (j+1) (acc++D6.inn [rd b j] x) (by omega) (by have:=D6.inn_length [rd b j] x;grind)
  refine ⟨n+1,fun N=> ?_⟩;have e:D6.inn (b.drop j) x=D6.inn [rd b j] x++D6.inn (b.drop (j+1)) x:=by rw [Yg hj,<-D6.inn_append];rfl
  rw [e,<-AD,Zx,<-AM,<-hn N];by_cases h1:D6.lo (rd b j)<=x
  .by_cases h2:x<D6.hi (rd b j)
   .rw [D6.inn_t _ _ h1 h2];simp only [D6] at h1 h2 ⊢;simp (disch:=omega) only [Ys,Wj,Zd,Zq,Yy,Yz,Yd,Yu,Yk,Zh,Zj,Zw,Yc,Zk,Af,Ao,Ah,Ai,Ab,Aa]
   .rw [D6.inn_f2 _ _ h2,AE];simp only [D6] at h1 h2;simp (disch:=omega) only [Ys,Wj,Yh,Zd,Zq,Yy,Yz,Yd,Yu,Yk,Zh,Zj,Zw,Yc,Zk,Af,Ao,Ah,Ai,Ab,Aa]
  .rw [D6.inn_f1 _ _ h1,AE];simp only [D6] at h1;simp (disch:=omega) only [Ys,Nx,Zd,Zq,Yy,Yz,Yd,Yu,Yk,Zh,Zj,Zw,Yc,Zk,Af,Ao,Ah,Ai,Ab,Aa]
theorem j1v (i:Nat) (hi:i<=2000) (x x':Int) (s:List R4) (first:Int) (o1 o2:List R4) (hs:s.length<=1000): ∀(k j:Nat) (out:List R6),j+k=s.length->out.length<=10000000+j->
  ∃n,∀N,Zo (Ys q a b) (N+n) (.to (.h5 x x' s (s.length:Int) (j:Int) (i:Int) out first ((D6.cuts (a++b)).length) (Wk (Xm (D6.ends (a++b)))) o1 o2))=Zo (Ys q a b) N (.to (.h2 ((i+1:Nat):Int) (out++(s.drop j).map (D6.put x x')) s first x' ((D6.cuts (a++b)).length) (Wk (Xm (D6.ends (a++b))))))
 | 0,j,out,h,ho=>by
  have _u:=ha;have _v:=hb;refine ⟨1,fun N=> ?_⟩
  grind [Zx,Ys,Zj]
 | k+1,j,out,h,ho=>by
  obtain ⟨n,hn⟩:=j1v i hi x x' s first o1 o2 hs k (j+1) (out++[D6.put x x' (rd s j)]) (by omega) (by simp;omega)
  refine ⟨n+1,fun N=> ?_⟩;have:=hn N;rw [Yg (show j<s.length by omega),AT,<-AD,Zx];simp (disch:=omega) only [Ys,Zd,Zq,Yy,Yz,Yd,Yu,Yk,Zh,Zj,Zw,Yc,Zk,Af,Ao,Ah,Ai,Ab,Aa];rw [AM] at this;exact this
theorem j1u (i:Nat) (hi:i<=2000) (x x' fin:Int) (s last:List R4) (first:Int) (o1 o2:List R4): ∀(k j:Nat) (out:List R6),j+k=out.length->out.length<=10000000->
  ∃n,∀N,Zo (Ys q a b) (N+n) (.to (.h6 x' (j:Int) x s (i:Int) out last first fin ((D6.cuts (a++b)).length) (Wk (Xm (D6.ends (a++b)))) o1 o2))=Zo (Ys q a b) N (.to (.h2 ((i+1:Nat):Int) (D6.grow out j x') last first x' ((D6.cuts (a++b)).length) (Wk (Xm (D6.ends (a++b))))))
 | 0,j,out,h,ho=>by
  have _u:=ha;have _v:=hb;refine ⟨1,fun N=> ?_⟩;rw [D6.grow_nil _ _ _ (by omega),Zx]
  grind [Ys,Zj]
 | k+1,j,out,h,ho=>by
  obtain ⟨n,hn⟩:=j1u i hi x x' fin s last first o1 o2 k (j+1) (out.set j (D6.ext x' (rd out j))) (by simp;omega) (by grind)
  refine ⟨n+1,fun N=> ?_⟩;have:=hn N;rw [D6.grow_set out j _ (by omega)] at this;rw [<-AD,Zx];simp (disch:=omega) only [Ys,Zd,Zq,Yy,Yz,Yd,Yu,Yk,Zh,Zj,Zw,Yc,Zk,Af,Ao,Ah,Ai,Ab,Aa];exact this
theorem v6v : ∀(k i:Nat) (s:Sw R6 R4),k=(D6.cuts (a++b)).length - 1 - i->i<=(D6.cuts (a++b)).length ->s.out.length<=i*1000->s.last.length<=1000->s.first<=s.out.length->
  ∃n,Zo (Ys q a b) n (.to (.h2 ((i+1:Nat):Int) s.out s.last (s.first:Int) s.fin ((D6.cuts (a++b)).length) (Wk (Xm (D6.ends (a++b))))))=.ret (Cy (eJ (Cv (Ck q a b) (D6.cuts (a++b)) k i) (D6.goS (C9 q a b) (D6.cuts (a++b)) k i s).out.length) (D6.goS (C9 q a b) (D6.cuts (a++b)) k i s).out)
 | 0,i,s,h,hi,ho,hla,hf=>by
  have _u:=ha;have _v:=hb;have hc:=D6.cuts_length (a++b);refine ⟨1,?_⟩;rw [Zx,show D6.goS (C9 q a b) (D6.cuts (a++b)) 0 i s=s from rfl,show Cv (Ck q a b) (D6.cuts (a++b)) 0 i=0 from rfl,w7t]
  grind [Qo,Ys,Zp]
 | k +1,i,s,h,hi,ho,hla,hf=>by
  have hc:=D6.cuts_length (a++b);rw [AP] at hc;have hi1:i+1<(D6.cuts (a++b)).length :=by omega
  have hpl:(Wk (Xm (D6.ends (a++b)))).length =2*(a.length+b.length):=by rw [Ui,Uz,D6.ends_length,AP]
  have r0:rd (Wk (Xm (D6.ends (a++b)))) i=rd (D6.cuts (a++b)) i:=GC _ _ (by show i<(D6.cuts (a++b)).length;omega);have r1:rd (Wk (Xm (D6.ends (a++b)))) (i+1)=rd (D6.cuts (a++b)) (i+1):=GC _ _ (by show i+1<(D6.cuts (a++b)).length;omega);have hbig:i*1000<=2000*1000:=AC _ (by omega);have hgo:D6.goS (C9 q a b) (D6.cuts (a++b)) (k+1) i s=D6.goS (C9 q a b) (D6.cuts (a++b)) k (i+1) (D6.oneS (C9 q a b (rd (D6.cuts (a++b)) i)) (rd (D6.cuts (a++b)) i) (rd (D6.cuts (a++b)) (i+1)) s):=rfl;have hfe: ∀x,x=rd (D6.cuts (a++b)) i->(Ck q a b x != 0)=false->Cv (Ck q a b) (D6.cuts (a++b)) (k+1) i=Cv (Ck q a b) (D6.cuts (a++b)) k (i+1):=fun x hx z=>by
   show (bif Ck q a b (rd (D6.cuts (a++b)) i) != 0 then _ else _)=_
   grind
  revert hgo hfe r0;generalize hx:rd (D6.cuts (a++b)) i=x;generalize hx':rd (D6.cuts (a++b)) (i+1)=x' at r1;intro r0 hgo hfe;obtain ⟨n3,h3⟩:=j1x q a b ha hb (i+1) s.out s.last (s.first:Int) s.fin x x' a.length 0 [] (Af _) (Aq _);simp only [AS,Bc,Du] at h3;obtain ⟨n4,h4⟩:=j1w q a b ha hb (i+1) s.out s.last (s.first:Int) s.fin x x' (D6.inn a x) b.length 0 [] (Af _) (Aq _);simp only [AS,Bc,Du] at h4;have st0: ∀N,Zo (Ys q a b) (N+n4+n3+1) (.to (.h2 ((i+1:Nat):Int) s.out s.last (s.first:Int) s.fin ((D6.cuts (a++b)).length) (Wk (Xm (D6.ends (a++b))))))=Zo (Ys q a b) N (.to (.h4 ((i+1:Nat):Int) (b.length:Int) s.out s.last (s.first:Int) s.fin ((D6.cuts (a++b)).length) (Wk (Xm (D6.ends (a++b)))) x x' (D6.inn a x) (D6.inn b x))):=fun N=>by
   rw [<-h4 N,<-h3 (N+n4),Zx];have e1:wrap .i64 (((i+1:Nat):Int) - 1)=(i:Int):=by rw [Yx];exact Zj (by omega)
   simp (disch:=omega) only [Ys,e1,r0,r1,Zd,Zq,Yy,Yz,Yd,Yu,Yk,Zh,Zj,Zw,Yc,Zk,Af,Ao,Ah,Ai,Ab,Aa]
  have w1:Us (D6.inn a x)=true:=rfl;have w3:Us (D6.inn b x)=true:=rfl;have w4:Ke q (Za (D6.inn a x)) (Za (D6.inn b x))=true:=rfl;rcases Zs (Ck q a b x != 0) with z | z
  .refine ⟨1+n4+n3+1,?_⟩;rw [st0 1,Zx];have e:Cv (Ck q a b) (D6.cuts (a++b)) (k+1) i=Ck q a b x:=by show (bif Ck q a b (rd (D6.cuts (a++b)) i) != 0 then Ck q a b (rd (D6.cuts (a++b)) i) else _)=_;grind
   rw [e,show eJ (Ck q a b x) _=Ck q a b x by unfold eJ;rw [z];rfl,Uv _ z];unfold Ck at z ⊢;rcases Zs (Xk (D6.inn a x) != 0) with y1 | y1
   .simp (disch:=omega) only [Ys,Yh,y2a,y1,Ay,w1,w3,w4,Zd,Zq,Yy,Yz,Yd,Yu,Yk,Zh,Zj,Zw,Yc,Zk,Af,Ao,Ah,Ai,Ab,Aa,Zp]
   .rcases Zs (Xk (D6.inn b x) != 0) with y2 | y2
    .simp (disch:=omega) only [Ys,Yh,y2a,y1,y2,Ay,AB,w1,w3,w4,Zd,Zq,Yy,Yz,Yd,Yu,Yk,Zh,Zj,Zw,Yc,Zk,Af,Ao,Ah,Ai,Ab,Aa,Zp]
    .rw [y1,y2,Aa,Aa] at z;have z':(Qq q (Za (D6.inn a x)) (Za (D6.inn b x)) != 0)=true:=z;simp (disch:=omega) only [Ys,Yh,y2a,y1,y2,z',AB,w1,w3,w4,Zd,Zq,Yy,Yz,Yd,Yu,Yk,Zh,Zj,Zw,Yc,Zk,Af,Ao,Ah,Ai,Ab,Aa,Zp];rfl
  obtain ⟨y1,y2,y3⟩:=x3z (show Ck q a b x=0 by simpa using z);have y1:(Xk (D6.inn a x) == 0)=true:=by rw [y1];rfl
  have y2:(Xk (D6.inn b x) == 0)=true:=by rw [y2];rfl
  have z':(Qq q (Za (D6.inn a x)) (Za (D6.inn b x)) != 0)=false:=by show (Dr q _ _ != 0)=false;rw [y3];rfl
  have v:Wi q (Za (D6.inn a x)) (Za (D6.inn b x))=C9 q a b x:=x8l _ z';have hsl:=j8k q a b x z;have w2:Wg s.last (C9 q a b x)=true:=Al (by omega);rw [hgo,hfe x rfl z];have ol:(D6.oneS (C9 q a b x) x x' s).out.length <=s.out.length+(C9 q a b x).length :=by
   grind [CJ.oneS,CJ.grow_length]
  rcases Zs (decide (0<(C9 q a b x).length)&&((s.fin == x)&&D6.same s.last (C9 q a b x))) with g | g
  .obtain ⟨n6,h6⟩:=j1u q a b ha hb (i+1) (by omega) x x' s.fin (C9 q a b x) s.last (s.first:Int) (D6.inn a x) (D6.inn b x) (s.out.length - s.first) s.first s.out (by omega) (by omega)
   have e:D6.oneS (C9 q a b x) x x' s=⟨D6.grow s.out s.first x',s.last,s.first,x'⟩:=by unfold CJ.oneS;rw [g];rfl
   obtain ⟨n0,h0⟩:=v6v k (i+1) (D6.oneS (C9 q a b x) x x' s) (by omega) (by omega) (by omega) (by grind) (by grind [CJ.grow_length]);refine ⟨n0+n6+1+n4+n3+1,?_⟩;rw [st0 (n0+n6+1),Zx];simp only [Ae,Ar] at g;obtain ⟨g1,g2,g3⟩:=g;have g3':Uw s.last (C9 q a b x)=true:=g3;simp (disch:=omega) only [Ys,Yh,Yt,y1,y2,z',v,g2,g3',w1,w3,w4,w2,Zd,Zq,Yy,Yz,Yd,Yu,Yk,Zh,Zj,Zw,Yc,Zk,Af,Ao,Ah,Ai,Ab,Aa]
   grind
  .obtain ⟨n5,h5⟩:=j1v q a b ha hb (i+1) (by omega) x x' (C9 q a b x) (s.out.length:Int) (D6.inn a x) (D6.inn b x) hsl (C9 q a b x).length 0 s.out (Af _) (by omega);simp only [AS,Du] at h5;have e:D6.oneS (C9 q a b x) x x' s=⟨s.out++(C9 q a b x).map (D6.put x x'),C9 q a b x,s.out.length,x'⟩:=by unfold CJ.oneS;rw [g];rfl
   obtain ⟨n0,h0⟩:=v6v k (i+1) (D6.oneS (C9 q a b x) x x' s) (by omega) (by omega) (by omega) (by grind) (by rw [e];simp);have hg:Zo (Ys q a b) 1 (.to (.h4 ((i+1:Nat):Int) (b.length:Int) s.out s.last (s.first:Int) s.fin ((D6.cuts (a++b)).length) (Wk (Xm (D6.ends (a++b)))) x x' (D6.inn a x) (D6.inn b x)))=.to (.h5 x x' (C9 q a b x) ((C9 q a b x).length :Int) 0 ((i+1:Nat):Int) s.out (s.out.length:Int) ((D6.cuts (a++b)).length) (Wk (Xm (D6.ends (a++b)))) (D6.inn a x) (D6.inn b x)):=by
    rw [show (1:Nat)=0+1 from rfl,Zx];have e3:D6.same s.last (C9 q a b x)=Uw s.last (C9 q a b x):=rfl;rw [e3] at g;by_cases g1:0<(C9 q a b x).length
    .rw [Al g1,Ai] at g;rcases Zs (s.fin == x) with g2 | g2
     .rw [g2,Ai] at g;simp (disch:=omega) only [Ys,Yh,Yt,y1,y2,z',v,g2,g,w1,w3,w4,w2,Zd,Zq,Yy,Yz,Yd,Yu,Yk,Zh,Zj,Zw,Yc,Zk,Af,Ao,Ah,Ai,Ab,Aa];rfl
     .simp (disch:=omega) only [Ys,Yh,Yt,y1,y2,z',v,g2,w1,w3,w4,w2,Zd,Zq,Yy,Yz,Yd,Yu,Yk,Zh,Zj,Zw,Yc,Zk,Af,Ao,Ah,Ai,Ab,Aa];rfl
    .simp (disch:=omega) only [Ys,Yh,Wu,y1,y2,z',v,w1,w3,w4,w2,Zd,Zq,Yy,Yz,Yd,Yu,Yk,Zh,Zj,Zw,Yc,Zk,Af,Ao,Ah,Ai,Ab,Aa];rfl
   refine ⟨n0+n5+1+n4+n3+1,?_⟩;simp_all [Tg]
theorem j1y : ∀(k i:Nat) (acc:List Int),i+k=b.length->acc=D6.ends (a++b.take i)-> ∃n,Zo (Ys q a b) n (.to (.h1 (i:Int) acc))=.ret (Cy (eJ (Cv (Ck q a b) (D6.cuts (a++b)) ((D6.cuts (a++b)).length - 1) 0) (D6.goS (C9 q a b) (D6.cuts (a++b)) ((D6.cuts (a++b)).length - 1) 0 ⟨[],[],0,0⟩).out.length) (D6.goS (C9 q a b) (D6.cuts (a++b)) ((D6.cuts (a++b)).length - 1) 0 ⟨[],[],0,0⟩).out)
 | 0,i,acc,h,h'=>by
  have _u:=ha;have _v:=hb;have e:acc=D6.ends (a++b):=by grind
  subst e;have hle:=D6.ends_length (a++b);rw [AP] at hle;obtain ⟨n,hn⟩:=v6v q a b ha hb ((D6.cuts (a++b)).length - 1) 0 ⟨[],[],0,0⟩ (by omega) (AA _) (AA _) (AA _) (AA _);refine ⟨n+1,?_⟩;rw [Zx];simp (disch:=omega) only [Ys,Jo,N8,NH,Yh,Yu,Yk,Ao,Ab,Aa];exact hn
 | k+1,i,acc,h,h'=>by
  have hle:acc.length<=2*(400+i):=by rw [h',D6.ends_length];grind
  obtain ⟨n,hn⟩:=j1y k (i+1) (acc++D6.ends [rd b i]) (by omega) (by
   rw [h',AW]
   grind [Yo,CJ.ends])
  refine ⟨n+1,?_⟩;rw [Zx];simp (disch:=omega) only [Ys,Zd,Zq,Yy,Yz,Yd,Yu,Yk,Zh,Zj,Zw,Yc,Zk,Af,Ao,Ah,Ai,Ab,Aa];exact hn
theorem j1z : ∀(k i:Nat) (acc:List Int),i+k=a.length->acc=D6.ends (a.take i)-> ∃n,Zo (Ys q a b) n (.to (.h0 (i:Int) acc))=.ret (Cy (eJ (Cv (Ck q a b) (D6.cuts (a++b)) ((D6.cuts (a++b)).length - 1) 0) (D6.goS (C9 q a b) (D6.cuts (a++b)) ((D6.cuts (a++b)).length - 1) 0 ⟨[],[],0,0⟩).out.length) (D6.goS (C9 q a b) (D6.cuts (a++b)) ((D6.cuts (a++b)).length - 1) 0 ⟨[],[],0,0⟩).out)
 | 0,i,acc,h,h'=>by
  have _u:=ha;have _v:=hb;obtain ⟨n,hn⟩:=j1y q a b ha hb b.length 0 acc (Af _) (by grind);refine ⟨n+1,?_⟩
  grind [Zx,Ys]
 | k+1,i,acc,h,h'=>by
  have hle:acc.length<=2*(400+i):=by rw [h',D6.ends_length];grind
  obtain ⟨n,hn⟩:=j1z k (i+1) (acc++D6.ends [rd a i]) (by omega) (by
   rw [h',AW]
   grind [Yo,CJ.ends])
  refine ⟨n+1,?_⟩;rw [Zx];simp (disch:=omega) only [Ys,Zd,Zq,Yy,Yz,Yd,Yu,Yk,Zh,Zj,Zw,Yc,Zk,Af,Ao,Ah,Ai,Ab,Aa];exact hn
end
def Dq (q:Op) (a b:List R6):List R6:=(D6.goS (C9 q a b) (D6.cuts (a++b)) ((D6.cuts (a++b)).length - 1) 0 ⟨[],[],0,0⟩).out
def Da (q:Op) (a b:List R6):Int:=bif Zf a != 0 then Zf a else bif Zf b != 0 then Zf b else eJ (Cv (Ck q a b) (D6.cuts (a++b)) ((D6.cuts (a++b)).length - 1) 0) (Dq q a b).length
def Qu (q:Op) (a b:List R6):List R6:=D8 (Da q a b) (Dq q a b)
def Dn (q:Op) (a b:List R6):Int:=Da q a b
def SN (q:Op) (a b:List R6):Bool:=true
theorem Tr {l:List R6} (h:(Zf l != 0)=false):l.length<=400:=by grind [Zf]
theorem Ob (q:Op) (a b:List R6) (h:SN q a b=true): ∃n,Zo (Ys q a b) n (ZK q a b)=.ret (Cy (Da q a b) (Dq q a b)):=by
 unfold ZK;have o: ∀l,We l=true:=fun _=>rfl;simp only [Zd,o,Ab];rcases Zs (Zf a != 0) with q1 | q1
 .exact ⟨0,by simp only [Da,q1,Ab,Uv _ q1];rfl⟩
 rcases Zs (Zf b != 0) with q2 | q2
 .exact ⟨0,by simp only [Da,q1,q2,Ab,Aa,Uv _ q2];rfl⟩
 obtain ⟨n,hn⟩:=j1z q a b (Tr q1) (Tr q2) a.length 0 [] (Af _) rfl;refine ⟨n,?_⟩;simp only [Da,q1,q2,Aa];exact hn
def WJ (q:Op):List B2->Option (B2×Bool)
 | [a0,a1]=>match CS R6 a0,CS R6 a1 with
  | some (L0,g0,n0),some (L1,g1,n1)=>some (.tup [.dat (Qu q L0 L1).length (Zz (Qu q L0 L1)),.int .i64 (Dn q L0 L1)],CO R6 n0 g0&&(CO R6 n1 g1&&(SN q L0 L1)))
  | _,_=>none
 | _=>none
theorem u1o (q:Op) {S:B4} (hS:Zv prog S):Zv prog (S.with (FV q) (WJ q)):=by
 refine Em hS (by cases q <;> kernel_rfl) fun args v h=> ?_;unfold WJ at h;split at h
 .rename_i a0 a1;split at h
  .rename_i L0 g0 n0 L1 g1 n1 e0 e1;simp only [Ad,Ac,Ae] at h;obtain ⟨rfl,ho0,ho1,hw⟩:=h;obtain ⟨N,hN⟩:=Ob q L0 L1 hw;exact ⟨_,_,(.cons (Yn e0 ho0) (.cons (Yn e1 ho1) .nil)),H7 _ _,u4r q L0 L1 N _ hN,3,JU _ _⟩
  .cases h
 .cases h
structure R7 where
 (a b c d e f g:Int)
instance : Xc R7 where
 w:=7
 d:=⟨0,0,0,0,0,0,0⟩
 cells x:=[.int .u8 x.a,.int .i64 x.b,.int .i64 x.c,.int .i64 x.d,.int .i64 x.e,.int .i64 x.f,.int .i64 x.g]
 of l:=⟨DC (l.getD 0 .undef),DC (l.getD 1 .undef),DC (l.getD 2 .undef),DC (l.getD 3 .undef),DC (l.getD 4 .undef),DC (l.getD 5 .undef),DC (l.getD 6 .undef)⟩
 len _:=rfl
 pos:=by decide
 flat _:=rfl
 sc _:=rfl
 back _:=rfl
inductive Ax where
 | x | y | z
def Ax.lo (q:Ax) (r:R6):Int:=match q with
 | .x =>r.a
 | .y =>r.b
 | .z =>r.c
def Ax.hi (q:Ax) (r:R6):Int:=match q with
 | .x =>r.d
 | .y =>r.e
 | .z =>r.f
def Ax.rc (q:Ax) (r:R6):R4:=match q with
 | .x =>⟨r.b,r.c,r.e,r.f⟩
 | .y =>⟨r.a,r.c,r.d,r.f⟩
 | .z =>⟨r.a,r.b,r.d,r.e⟩
def Ax.ix (q:Ax):Int:=match q with
 | .x =>0
 | .y =>1
 | .z =>2
def qd (q:Ax) (s:Bool) (p:Int) (t:R4):R7:=match q,s with
 | .x,true=>⟨0,p,t.a,t.b,p,t.c,t.d⟩
 | .x,false=>⟨1,p,t.a,t.b,p,t.c,t.d⟩
 | .y,true=>⟨2,t.a,p,t.b,t.c,p,t.d⟩
 | .y,false=>⟨3,t.a,p,t.b,t.c,p,t.d⟩
 | .z,true=>⟨4,t.a,t.b,p,t.c,t.d,p⟩
 | .z,false=>⟨5,t.a,t.b,p,t.c,t.d,p⟩
def Cf (q:Ax) (L:List R6) (p:Int):List R4:=(L.filter fun r=>decide (q.lo r<=p)&&decide (p<q.hi r)).map q.rc
structure Pa where
 (a b c d e f:Int)
 s:List R6
instance : Xc Pa where
 w:=7
 d:=⟨0,0,0,0,0,0,[]⟩
 cells x:=[.int .i64 x.a,.int .i64 x.b,.int .i64 x.c,.int .i64 x.d,.int .i64 x.e,.int .i64 x.f,.dat x.s.length (Zz x.s)]
 of l:=⟨DC (l.getD 0 .undef),DC (l.getD 1 .undef),DC (l.getD 2 .undef),DC (l.getD 3 .undef),DC (l.getD 4 .undef),DC (l.getD 5 .undef),match l.getD 6 .undef with
  | .dat n g=>Cn R6 n g
  | _=>[]⟩
 len _:=rfl
 pos:=by decide
 flat _:=rfl
 sc _:=rfl
 back x:=by show Pa.mk x.a x.b x.c x.d x.e x.f (Cn R6 x.s.length (Zz x.s))=x;rw [Zq]
abbrev j5o :Nat:=81
abbrev M3 :Nat:=82
abbrev M7 :Nat:=80
abbrev w8i :Nat:=54
abbrev j5f :Nat:=56
abbrev M1 :Nat:=47
abbrev Ty :Nat:=20
abbrev v9u :Nat:=44
abbrev v9z :Nat:=14
abbrev M0 :Nat:=16
abbrev MY :Nat:=18
abbrev V2 :Nat:=60
abbrev V5 :Nat:=61
abbrev P1 :Nat:=30
abbrev V4 :Nat:=21
abbrev V3 :Nat:=9
abbrev u0b :Nat:=29
abbrev u0a :Nat:=23
abbrev w3b :Nat:=26
abbrev w8o :Nat:=64
abbrev w8m :Nat:=37
def Va :B4:=((Ud.with (FV .u) (WJ .u)).with (FV .e) (WJ .e)).with (FV .d) (WJ .d)
theorem Xv :Zv prog Va:=u1o .d (u1o .e (u1o .u Vp))
-- start: index into an array (choices [false, false, false])
inductive JM where
def Rk (aI:Int) (aP:Int) (aQ:Int) (aR:Int):JM->CB
 :=nofun
def w6b (aI:Int) (aP:Int) (aQ:Int) (aR:Int):JM->Xz JM
 :=nofun
def Xl (aI:Int) (aP:Int) (aQ:Int) (aR:Int):Xz JM:=(bif (decide (aI=Int.ofNat 0)) then (.ret [(.int .i64 aP)]) else (bif (decide (aI=Int.ofNat 1)) then (.ret [(.int .i64 aQ)]) else (bif (decide (aI=Int.ofNat 2)) then (.ret [(.int .i64 aR)]) else .stuck)))
theorem v4r (aI:Int) (aP:Int) (aQ:Int) (aR:Int): ∀s,Xw prog (Zy prog 81) (Rk aI aP aQ aR) (Rk aI aP aQ aR s) (w6b aI aP aQ aR s)
 :=nofun
theorem w6c (aI:Int) (aP:Int) (aQ:Int) (aR:Int):Xw prog (Zy prog 81) (Rk aI aP aQ aR) (Zm prog 81 [(.agg [(.int .i64 aI)]),(.agg [(.int .i64 aP),(.int .i64 aQ),(.int .i64 aR)])] true []) (Xl aI aP aQ aR):=(lb (fun k0=>(lr 15 3 [1,1,1,1,0] 1 6 [(4,(ii aP))] (sl Xv 20 [] (a8 [4]) a6 [false] (ww k0 nn)))) (fun k0=>(lb (fun k1=>(lr 15 3 [1,1,1,1,0] 1 6 [(4,(ii aQ))] (sl Xv 20 [] (a8 [4]) a6 (bl 2 1) (ww k1 nn)))) (fun k1=>(lb (fun k2=>(lr 15 3 [1,1,1,1,0] 1 6 [(4,(ii aR))] (sl Xv 20 [] (a8 [4]) a6 (bl 3 3) (ww k2 nn)))) (fun k2=>trivial))))))
theorem j0j (aI:Int) (aP:Int) (aQ:Int) (aR:Int) (n:Nat) (vs:List B2) (h:Zo (w6b aI aP aQ aR) n (Xl aI aP aQ aR)=.ret vs):Uj prog (Zy prog 81) (Zm prog 81 [(.agg [(.int .i64 aI)]),(.agg [(.int .i64 aP),(.int .i64 aQ),(.int .i64 aR)])] true []) vs:=by have:=Zb (v4r aI aP aQ aR) n _ (w6c aI aP aQ aR);rwa [h] at this
-- start: index into an array (choices [false, false, false, false])
inductive Is where
def Pt (aI:Int) (aP:Int) (aQ:Int) (aR:Int):Is->CB
 :=nofun
def w4n (aI:Int) (aP:Int) (aQ:Int) (aR:Int):Is->Xz Is
 :=nofun
def YK (aI:Int) (aP:Int) (aQ:Int) (aR:Int):Xz Is:=(bif (aI == 0) then (.ret [(.int .i64 aQ),(.int .i64 aR)]) else (bif (decide (aI=Int.ofNat 0)) then (.ret [(.int .i64 aP),(.int .i64 0)]) else (bif (decide (aI=Int.ofNat 1)) then (.ret [(.int .i64 aP),(.int .i64 aR)]) else (bif (decide (aI=Int.ofNat 2)) then (.ret [(.int .i64 aP),(.int .i64 aQ)]) else .stuck))))
theorem v3p (aI:Int) (aP:Int) (aQ:Int) (aR:Int): ∀s,Xw prog (Zy prog 82) (Pt aI aP aQ aR) (Pt aI aP aQ aR s) (w4n aI aP aQ aR s)
 :=nofun
theorem w4o (aI:Int) (aP:Int) (aQ:Int) (aR:Int):Xw prog (Zy prog 82) (Pt aI aP aQ aR) (Zm prog 82 [(.agg [(.int .i64 aI)]),(.agg [(.int .i64 aP),(.int .i64 aQ),(.int .i64 aR)])] true []) (YK aI aP aQ aR):=(lb (fun k0=>(lr 23 82 [1,0,1,0,0] 1 16 [(4,(ii aQ)),(5,(ii aR))] (sl Xv 17 [] (a8 [4,5]) a6 [true] (tt k0 nn)))) (fun k0=>(lb (fun k1=>(lr 23 3 [1,1,1,1,0] 1 16 [(4,(ii aP)),(5,(ii 0))] (sl Xv 18 [] (a8 [4,5]) a6 (bl 2 0) (ww k1 (tt k0 nn))))) (fun k1=>(lb (fun k2=>(lr 23 3 [1,1,1,1,0] 1 16 [(4,(ii aP)),(5,(ii aR))] (sl Xv 18 [] (a8 [4,5]) a6 (bl 3 2) (ww k2 (tt k0 nn))))) (fun k2=>(lb (fun k3=>(lr 23 3 [1,1,1,1,0] 1 16 [(4,(ii aP)),(5,(ii aQ))] (sl Xv 18 [] (a8 [4,5]) a6 (bl 4 6) (ww k3 (tt k0 nn))))) (fun k3=>trivial))))))))
theorem u8z (aI:Int) (aP:Int) (aQ:Int) (aR:Int) (n:Nat) (vs:List B2) (h:Zo (w4n aI aP aQ aR) n (YK aI aP aQ aR)=.ret vs):Uj prog (Zy prog 82) (Zm prog 82 [(.agg [(.int .i64 aI)]),(.agg [(.int .i64 aP),(.int .i64 aQ),(.int .i64 aR)])] true []) vs:=by have:=Zb (v3p aI aP aQ aR) n _ (w4o aI aP aQ aR);rwa [h] at this
-- start: index into an array (choices [false, false, false])
inductive JL where
def Rf (aI:Int) (x1:Int) (x2:Int) (x3:Int):JL->CB
 :=nofun
def w5x (aI:Int) (x1:Int) (x2:Int) (x3:Int):JL->Xz JL
 :=nofun
def YB (aI:Int) (x1:Int) (x2:Int) (x3:Int):Xz JL:=(bif (decide (aI=Int.ofNat 0)) then (.ret [(.agg [(.int .i64 x1),(.int .i64 x2),(.int .i64 x3)])]) else (bif (decide (aI=Int.ofNat 1)) then (.ret [(.agg [(.int .i64 x2),(.int .i64 x1),(.int .i64 x3)])]) else (bif (decide (aI=Int.ofNat 2)) then (.ret [(.agg [(.int .i64 x2),(.int .i64 x3),(.int .i64 x1)])]) else .stuck)))
theorem v4q (aI:Int) (x1:Int) (x2:Int) (x3:Int): ∀s,Xw prog (Zy prog 80) (Rf aI x1 x2 x3) (Rf aI x1 x2 x3 s) (w5x aI x1 x2 x3 s)
 :=nofun
theorem w5y (aI:Int) (x1:Int) (x2:Int) (x3:Int):Xw prog (Zy prog 80) (Rf aI x1 x2 x3) (Zm prog 80 [(.agg [(.int .i64 aI)]),(.int .i64 x1),(.int .i64 x2),(.int .i64 x3)] true []) (YB aI x1 x2 x3):=let a:=Zg prog 3 [1,1,1,1,0] 1;let b:=Zy prog 80;(lb (fun k0=>(Un ⟨⟨25,0,true⟩,none,a,none,b,⟨Yj [(8,(.ptr 0 0))],Vk [⟨[(ii x1),(ii x2),(ii x3)],50,none⟩] 0,1,[],true⟩,[],.leaf⟩ (sl Xv 25 [] ⟨[1],[],[some [8]],[]⟩ a6 [false] (ww k0 nn)) rfl (by kernel_rfl))) (fun k0=>(lb (fun k1=>(Un ⟨⟨25,0,true⟩,none,a,none,b,⟨Yj [(8,(.ptr 0 0))],Vk [⟨[(ii x2),(ii x1),(ii x3)],50,none⟩] 0,1,[],true⟩,[],.leaf⟩ (sl Xv 25 [] ⟨[1],[],[some [8]],[]⟩ a6 (bl 2 1) (ww k1 nn)) rfl (by kernel_rfl))) (fun k1=>(lb (fun k2=>(Un ⟨⟨25,0,true⟩,none,a,none,b,⟨Yj [(8,(.ptr 0 0))],Vk [⟨[(ii x2),(ii x3),(ii x1)],50,none⟩] 0,1,[],true⟩,[],.leaf⟩ (sl Xv 25 [] ⟨[1],[],[some [8]],[]⟩ a6 (bl 3 3) (ww k2 nn)) rfl (by kernel_rfl))) (fun k2=>trivial))))))
theorem j0f (aI:Int) (x1:Int) (x2:Int) (x3:Int) (n:Nat) (vs:List B2) (h:Zo (w5x aI x1 x2 x3) n (YB aI x1 x2 x3)=.ret vs):Uj prog (Zy prog 80) (Zm prog 80 [(.agg [(.int .i64 aI)]),(.int .i64 x1),(.int .i64 x2),(.int .i64 x3)] true []) vs:=by have:=Zb (v4q aI x1 x2 x3) n _ (w5y aI x1 x2 x3);rwa [h] at this
inductive Im where
def Pm (aI:Int) (aL:Int) (aM:Int) (aS:Int) (aV:Int) (aU:Int) (aP:Int) (aQ:Int) (aR:Int) (bJ:Int) (bK:Int) (bL:Int):Im->CB
 :=nofun
def w4a (aI:Int) (aL:Int) (aM:Int) (aS:Int) (aV:Int) (aU:Int) (aP:Int) (aQ:Int) (aR:Int) (bJ:Int) (bK:Int) (bL:Int):Im->Xz Im
 :=nofun
def YP (aI:Int) (aL:Int) (aM:Int) (aS:Int) (aV:Int) (aU:Int) (aP:Int) (aQ:Int) (aR:Int) (bJ:Int) (bK:Int) (bL:Int):Xz Im:=(bif (decide (aI>=aP)) then (bif (decide (aL>=aQ)) then (bif (decide (aM>=aR)) then (bif (decide (aS<=bJ)) then (bif (decide (aV<=bK)) then (.ret [(.bool (decide (aU<=bL)))]) else (.ret [(.bool false)])) else (.ret [(.bool false)])) else (.ret [(.bool false)])) else (.ret [(.bool false)])) else (.ret [(.bool false)]))
theorem v3k (aI:Int) (aL:Int) (aM:Int) (aS:Int) (aV:Int) (aU:Int) (aP:Int) (aQ:Int) (aR:Int) (bJ:Int) (bK:Int) (bL:Int): ∀s,Xw prog (Zy prog 54) (Pm aI aL aM aS aV aU aP aQ aR bJ bK bL) (Pm aI aL aM aS aV aU aP aQ aR bJ bK bL s) (w4a aI aL aM aS aV aU aP aQ aR bJ bK bL s)
 :=nofun
theorem w4b (aI:Int) (aL:Int) (aM:Int) (aS:Int) (aV:Int) (aU:Int) (aP:Int) (aQ:Int) (aR:Int) (bJ:Int) (bK:Int) (bL:Int):Xw prog (Zy prog 54) (Pm aI aL aM aS aV aU aP aQ aR bJ bK bL) (Zm prog 54 [(.agg [(.int .i64 aI),(.int .i64 aL),(.int .i64 aM),(.int .i64 aS),(.int .i64 aV),(.int .i64 aU)]),(.agg [(.int .i64 aP),(.int .i64 aQ),(.int .i64 aR),(.int .i64 bJ),(.int .i64 bK),(.int .i64 bL)])] true []) (YP aI aL aM aS aV aU aP aQ aR bJ bK bL):=(lb (fun k0=>(lb (fun k1=>let a:=tt k1 (tt k0 nn);(lb (fun k2=>(lb (fun k3=>let b:=tt k3 (tt k2 a);(lb (fun k4=>(lr 57 3 [1,1,1,1,0] 1 6 [(4,(.bool (decide (aU<=bL))))] (sl Xv 62 [] (a8 [4]) a6 (CA 35 []) (tt k4 b)))) (fun k4=>(lr 57 3 [1,1,1,1,0] 1 6 [(4,(.bool false))] (sl Xv 62 [] (a8 [4]) a6 (CA 28 (bl 7 0)) (tt k4 b)))))) (fun k3=>(lr 57 3 [1,1,1,1,0] 1 6 [(4,(.bool false))] (sl Xv 62 [] (a8 [4]) a6 (CA 21 (bl 14 0)) (tt k3 (tt k2 a))))))) (fun k2=>(lr 57 3 [1,1,1,1,0] 1 6 [(4,(.bool false))] (sl Xv 62 [] (a8 [4]) a6 (CA 14 (bl 21 0)) (tt k2 a)))))) (fun k1=>(lr 57 3 [1,1,1,1,0] 1 6 [(4,(.bool false))] (sl Xv 62 [] (a8 [4]) a6 (CA 7 (bl 28 0)) (tt k1 (tt k0 nn))))))) (fun k0=>(lr 57 3 [1,1,1,1,0] 1 6 [(4,(.bool false))] (sl Xv 62 [] (a8 [4]) a6 (bl 35 0) (tt k0 nn)))))
theorem u8v (aI:Int) (aL:Int) (aM:Int) (aS:Int) (aV:Int) (aU:Int) (aP:Int) (aQ:Int) (aR:Int) (bJ:Int) (bK:Int) (bL:Int) (n:Nat) (vs:List B2) (h:Zo (w4a aI aL aM aS aV aU aP aQ aR bJ bK bL) n (YP aI aL aM aS aV aU aP aQ aR bJ bK bL)=.ret vs):Uj prog (Zy prog 54) (Zm prog 54 [(.agg [(.int .i64 aI),(.int .i64 aL),(.int .i64 aM),(.int .i64 aS),(.int .i64 aV),(.int .i64 aU)]),(.agg [(.int .i64 aP),(.int .i64 aQ),(.int .i64 aR),(.int .i64 bJ),(.int .i64 bK),(.int .i64 bL)])] true []) vs:=by have:=Zb (v3k aI aL aM aS aV aU aP aQ aR bJ bK bL) n _ (w4b aI aL aM aS aV aU aP aQ aR bJ bK bL);rwa [h] at this
inductive Ie where
def P2 (aI:Int) (aL:Int) (aM:Int) (aS:Int) (aV:Int) (aU:Int) (aP:Int) (aQ:Int) (aR:Int) (bJ:Int) (bK:Int) (bL:Int):Ie->CB
 :=nofun
def w3c (aI:Int) (aL:Int) (aM:Int) (aS:Int) (aV:Int) (aU:Int) (aP:Int) (aQ:Int) (aR:Int) (bJ:Int) (bK:Int) (bL:Int):Ie->Xz Ie
 :=nofun
def YW (aI:Int) (aL:Int) (aM:Int) (aS:Int) (aV:Int) (aU:Int) (aP:Int) (aQ:Int) (aR:Int) (bJ:Int) (bK:Int) (bL:Int):Xz Ie:=(bif (decide (aI<bJ)) then (bif (decide (aP<aS)) then (bif (decide (aL<bK)) then (bif (decide (aQ<aV)) then (bif (decide (aM<bL)) then (.ret [(.bool (decide (aR<aU)))]) else (.ret [(.bool false)])) else (.ret [(.bool false)])) else (.ret [(.bool false)])) else (.ret [(.bool false)])) else (.ret [(.bool false)]))
theorem v2t (aI:Int) (aL:Int) (aM:Int) (aS:Int) (aV:Int) (aU:Int) (aP:Int) (aQ:Int) (aR:Int) (bJ:Int) (bK:Int) (bL:Int): ∀s,Xw prog (Zy prog 56) (P2 aI aL aM aS aV aU aP aQ aR bJ bK bL) (P2 aI aL aM aS aV aU aP aQ aR bJ bK bL s) (w3c aI aL aM aS aV aU aP aQ aR bJ bK bL s)
 :=nofun
theorem w3d (aI:Int) (aL:Int) (aM:Int) (aS:Int) (aV:Int) (aU:Int) (aP:Int) (aQ:Int) (aR:Int) (bJ:Int) (bK:Int) (bL:Int):Xw prog (Zy prog 56) (P2 aI aL aM aS aV aU aP aQ aR bJ bK bL) (Zm prog 56 [(.agg [(.int .i64 aI),(.int .i64 aL),(.int .i64 aM),(.int .i64 aS),(.int .i64 aV),(.int .i64 aU)]),(.agg [(.int .i64 aP),(.int .i64 aQ),(.int .i64 aR),(.int .i64 bJ),(.int .i64 bK),(.int .i64 bL)])] true []) (YW aI aL aM aS aV aU aP aQ aR bJ bK bL):=(lb (fun k0=>(lb (fun k1=>let a:=tt k1 (tt k0 nn);(lb (fun k2=>(lb (fun k3=>let b:=tt k3 (tt k2 a);(lb (fun k4=>(lr 57 3 [1,1,1,1,0] 1 6 [(4,(.bool (decide (aR<aU))))] (sl Xv 62 [] (a8 [4]) a6 (CA 35 []) (tt k4 b)))) (fun k4=>(lr 57 3 [1,1,1,1,0] 1 6 [(4,(.bool false))] (sl Xv 62 [] (a8 [4]) a6 (CA 28 (bl 7 0)) (tt k4 b)))))) (fun k3=>(lr 57 3 [1,1,1,1,0] 1 6 [(4,(.bool false))] (sl Xv 62 [] (a8 [4]) a6 (CA 21 (bl 14 0)) (tt k3 (tt k2 a))))))) (fun k2=>(lr 57 3 [1,1,1,1,0] 1 6 [(4,(.bool false))] (sl Xv 62 [] (a8 [4]) a6 (CA 14 (bl 21 0)) (tt k2 a)))))) (fun k1=>(lr 57 3 [1,1,1,1,0] 1 6 [(4,(.bool false))] (sl Xv 62 [] (a8 [4]) a6 (CA 7 (bl 28 0)) (tt k1 (tt k0 nn))))))) (fun k0=>(lr 57 3 [1,1,1,1,0] 1 6 [(4,(.bool false))] (sl Xv 62 [] (a8 [4]) a6 (bl 35 0) (tt k0 nn)))))
theorem u7y (aI:Int) (aL:Int) (aM:Int) (aS:Int) (aV:Int) (aU:Int) (aP:Int) (aQ:Int) (aR:Int) (bJ:Int) (bK:Int) (bL:Int) (n:Nat) (vs:List B2) (h:Zo (w3c aI aL aM aS aV aU aP aQ aR bJ bK bL) n (YW aI aL aM aS aV aU aP aQ aR bJ bK bL)=.ret vs):Uj prog (Zy prog 56) (Zm prog 56 [(.agg [(.int .i64 aI),(.int .i64 aL),(.int .i64 aM),(.int .i64 aS),(.int .i64 aV),(.int .i64 aU)]),(.agg [(.int .i64 aP),(.int .i64 aQ),(.int .i64 aR),(.int .i64 bJ),(.int .i64 bK),(.int .i64 bL)])] true []) vs:=by have:=Zb (v2t aI aL aM aS aV aU aP aQ aR bJ bK bL) n _ (w3d aI aL aM aS aV aU aP aQ aR bJ bK bL);rwa [h] at this
def Es (a:Int):Bool:=decide (a=Int.ofNat 0)||(decide (a=Int.ofNat 1)||decide (a=Int.ofNat 2))
def DO (a x y z:Int):Int:=bif decide (a=Int.ofNat 0) then x else bif decide (a=Int.ofNat 1) then y else z
def Jv (a _ _ _:Int):Bool:=Es a
theorem t5k (a x y z:Int) (h:Jv a x y z=true): ∃N,Zo (w6b a x y z) N (Xl a x y z)=.ret [.int .i64 (DO a x y z)]:=⟨0,by
 revert h;unfold Jv Es Xl DO;cases decide (a=Int.ofNat 0) <;> cases decide (a=Int.ofNat 1) <;> cases decide (a=Int.ofNat 2) <;> intro h <;> first | rfl | cases h⟩
def F0 (a x y _z:Int):Int:=bif decide (a=Int.ofNat 0) then y else x
def F2 (a _x y z:Int):Int:=bif decide (a=Int.ofNat 0) then z else bif decide (a=Int.ofNat 1) then z else y
def SP (a _ _ _:Int):Bool:=Es a
theorem t2h (a x y z:Int) (h:SP a x y z=true): ∃N,Zo (w4n a x y z) N (YK a x y z)=.ret [.int .i64 (F0 a x y z),.int .i64 (F2 a x y z)]:=⟨0,by
 revert h;have e:(a == 0)=decide (a=Int.ofNat 0):=rfl;unfold SP Es YK F0 F2;rw [e];cases decide (a=Int.ofNat 0) <;> cases decide (a=Int.ofNat 1) <;> cases decide (a=Int.ofNat 2) <;> intro h <;> first | rfl | cases h⟩
def Cb (a p x y:Int):R3:=bif decide (a=Int.ofNat 0) then ⟨p,x,y⟩ else bif decide (a=Int.ofNat 1) then ⟨x,p,y⟩ else ⟨x,y,p⟩
def Qg (a _ _ _:Int):Bool:=Es a
theorem t5i (a p x y:Int) (h:Qg a p x y=true): ∃N,Zo (w5x a p x y) N (YB a p x y)=.ret [.agg [.int .i64 (Cb a p x y).a,.int .i64 (Cb a p x y).b,.int .i64 (Cb a p x y).c]]:=⟨0,by
 revert h;unfold Qg Es YB Cb;cases decide (a=Int.ofNat 0) <;> cases decide (a=Int.ofNat 1) <;> cases decide (a=Int.ofNat 2) <;> intro h <;> first | rfl | cases h⟩
def RL :List B2->Option (B2×Bool)
 | [.agg [.int .i64 aI],.agg [.int .i64 aP,.int .i64 aQ,.int .i64 aR]]=>some (.int .i64 (DO aI aP aQ aR),Jv aI aP aQ aR)
 | _=>none
theorem t4i {S:B4} (hS:Zv prog S):Zv prog (S.with j5o RL):=by
 refine Qn hS (by kernel_rfl) fun args v h=> ?_;unfold RL at h;split at h
 .rename_i aI aP aQ aR;simp only [Ad,Ac,Ae] at h;obtain ⟨rfl,hw⟩:=h;obtain ⟨N,hN⟩:=t5k aI aP aQ aR hw;exact ⟨_,_,(.cons (.refl _) (.cons (.refl _) .nil)),rfl,j0j aI aP aQ aR N _ hN,3,rfl⟩
 .cases h
def Q9 :List B2->Option (B2×Bool)
 | [.agg [.int .i64 aI],.agg [.int .i64 aP,.int .i64 aQ,.int .i64 aR]]=>some (.tup [.int .i64 (F0 aI aP aQ aR),.int .i64 (F2 aI aP aQ aR)],SP aI aP aQ aR)
 | _=>none
theorem t3y {S:B4} (hS:Zv prog S):Zv prog (S.with M3 Q9):=by
 refine Qn hS (by kernel_rfl) fun args v h=> ?_;unfold Q9 at h;split at h
 .rename_i aI aP aQ aR;simp only [Ad,Ac,Ae] at h;obtain ⟨rfl,hw⟩:=h;obtain ⟨N,hN⟩:=t2h aI aP aQ aR hw;exact ⟨_,_,(.cons (.refl _) (.cons (.refl _) .nil)),rfl,u8z aI aP aQ aR N _ hN,3,rfl⟩
 .cases h
def RJ :List B2->Option (B2×Bool)
 | [.agg [.int .i64 a],.int .i64 p,.int .i64 x,.int .i64 y]=>some (.agg [.int .i64 (Cb a p x y).a,.int .i64 (Cb a p x y).b,.int .i64 (Cb a p x y).c],Qg a p x y)
 | _=>none
theorem t4h {S:B4} (hS:Zv prog S):Zv prog (S.with M7 RJ):=by
 refine Qn hS (by kernel_rfl) fun args v h=> ?_;unfold RJ at h;split at h
 .rename_i a p x y;simp only [Ad,Ac] at h;obtain ⟨rfl,hw⟩:=h;obtain ⟨N,hN⟩:=t5i a p x y hw;exact ⟨_,_,(.cons (.refl _) (.cons (.refl _) (.cons (.refl _) (.cons (.refl _) .nil)))),rfl,j0f a p x y N _ hN,3,rfl⟩
 .cases h
def Mh (a b c d e f a2 b2 c2 d2 e2 f2:Int):Bool:=decide (a>=a2)&&(decide (b>=b2)&&(decide (c>=c2)&&(decide (d<=d2)&&(decide (e<=e2)&&decide (f<=f2)))))
theorem t2c (a b c d e f a2 b2 c2 d2 e2 f2:Int): ∃N,Zo (w4a a b c d e f a2 b2 c2 d2 e2 f2) N (YP a b c d e f a2 b2 c2 d2 e2 f2)=.ret [.bool (Mh a b c d e f a2 b2 c2 d2 e2 f2)]:=⟨0,by
 unfold YP Mh;cases decide (a>=a2) <;> cases decide (b>=b2) <;> cases decide (c>=c2) <;> cases decide (d<=d2) <;> cases decide (e<=e2) <;> cases decide (f<=f2) <;> rfl⟩
def Mj (a b c d e f a2 b2 c2 d2 e2 f2:Int):Bool:=decide (a<d2)&&(decide (a2<d)&&(decide (b<e2)&&(decide (b2<e)&&(decide (c<f2)&&decide (c2<f)))))
theorem t1m (a b c d e f a2 b2 c2 d2 e2 f2:Int): ∃N,Zo (w3c a b c d e f a2 b2 c2 d2 e2 f2) N (YW a b c d e f a2 b2 c2 d2 e2 f2)=.ret [.bool (Mj a b c d e f a2 b2 c2 d2 e2 f2)]:=⟨0,by
 unfold YW Mj;cases decide (a<d2) <;> cases decide (a2<d) <;> cases decide (b<e2) <;> cases decide (b2<e) <;> cases decide (c<f2) <;> cases decide (c2<f) <;> rfl⟩
def Q7 :List B2->Option (B2×Bool)
 | [.agg [.int .i64 aI,.int .i64 aL,.int .i64 aM,.int .i64 aS,.int .i64 aV,.int .i64 aU],.agg [.int .i64 aP,.int .i64 aQ,.int .i64 aR,.int .i64 bJ,.int .i64 bK,.int .i64 bL]]=>some (.bool (Mh aI aL aM aS aV aU aP aQ aR bJ bK bL),true)
 | _=>none
theorem t3v {S:B4} (hS:Zv prog S):Zv prog (S.with w8i Q7):=by
 refine Qn hS (by kernel_rfl) fun args v h=> ?_;unfold Q7 at h;split at h
 .rename_i aI aL aM aS aV aU aP aQ aR bJ bK bL;simp only [Ad,Ac,Bh] at h;subst h;obtain ⟨N,hN⟩:=t2c aI aL aM aS aV aU aP aQ aR bJ bK bL;exact ⟨_,_,(.cons (.refl _) (.cons (.refl _) .nil)),rfl,u8v aI aL aM aS aV aU aP aQ aR bJ bK bL N _ hN,3,rfl⟩
 .cases h
def QZ :List B2->Option (B2×Bool)
 | [.agg [.int .i64 aI,.int .i64 aL,.int .i64 aM,.int .i64 aS,.int .i64 aV,.int .i64 aU],.agg [.int .i64 aP,.int .i64 aQ,.int .i64 aR,.int .i64 bJ,.int .i64 bK,.int .i64 bL]]=>some (.bool (Mj aI aL aM aS aV aU aP aQ aR bJ bK bL),true)
 | _=>none
theorem t3p {S:B4} (hS:Zv prog S):Zv prog (S.with j5f QZ):=by
 refine Qn hS (by kernel_rfl) fun args v h=> ?_;unfold QZ at h;split at h
 .rename_i aI aL aM aS aV aU aP aQ aR bJ bK bL;simp only [Ad,Ac,Bh] at h;subst h;obtain ⟨N,hN⟩:=t1m aI aL aM aS aV aU aP aQ aR bJ bK bL;exact ⟨_,_,(.cons (.refl _) (.cons (.refl _) .nil)),rfl,u7y aI aL aM aS aV aU aP aQ aR bJ bK bL N _ hN,3,rfl⟩
 .cases h
def Vb :B4:=(((((Va.with j5o RL).with M3 Q9).with M7 RJ).with w8i Q7).with j5f QZ)
theorem Qh :Zv prog Vb:=(t3p (t3v (t4h (t3y (t4i Xv)))))
inductive IJ where
 | h0 (v8:List R4) (v17:Int)
abbrev x1p (v8:List R4) (aI:Int) (l1:List R6) (v17:Int):=(v8++[(R4.mk (F0 aI (rd l1 (tn v17)).a (rd l1 (tn v17)).b (rd l1 (tn v17)).c) (F2 aI (rd l1 (tn v17)).a (rd l1 (tn v17)).b (rd l1 (tn v17)).c) (F0 aI (rd l1 (tn v17)).d (rd l1 (tn v17)).e (rd l1 (tn v17)).f) (F2 aI (rd l1 (tn v17)).d (rd l1 (tn v17)).e (rd l1 (tn v17)).f))])
abbrev j2q (v8:List R4) (aI:Int) (l1:List R6) (v17:Int):=(Zt (Zz v8) 0 v8.length 4 [(ii (F0 aI (rd l1 (tn v17)).a (rd l1 (tn v17)).b (rd l1 (tn v17)).c)),(ii (F2 aI (rd l1 (tn v17)).a (rd l1 (tn v17)).b (rd l1 (tn v17)).c)),(ii (F0 aI (rd l1 (tn v17)).d (rd l1 (tn v17)).e (rd l1 (tn v17)).f)),(ii (F2 aI (rd l1 (tn v17)).d (rd l1 (tn v17)).e (rd l1 (tn v17)).f))])
def Om (aI:Int) (l1:List R6) (x2:Int):IJ->CB
 | .h0 v8 v17=>⟨⟨62,0,true⟩,none,(Zg prog 47 [1,1,0,1,0,0] 0),none,(Zy prog 10),⟨Yj [(2,(ii x2)),(3,(.ptr 0 0)),(8,(.sla 1 4 0 v8.length (.un 4))),(15,(.dat l1.length (Zz l1))),(16,(ii (l1.length:Int))),(17,(ii v17))],Vk [⟨[(ii aI)],79,none⟩,⟨Ya v8.length (Zz v8),116,some ⟨4,v8.length,(Zz v8)⟩⟩] 0,2,[],true⟩,[],.leaf⟩
def u5i :List (Option (List Nat)):=[some [2,3,8,15,16,17]]
def u5j :List (Option (List Nat)):=[]
def JY (aI:Int) (l1:List R6) (x2:Int):IJ->Xz IJ
 | .h0 v8 v17=>(bif (decide (v17<(l1.length:Int))) then (bif ((decide (0<=v17/\v17<(l1.length:Int)))&&true) then (bif (Jv aI (rd l1 v17.toNat).a (rd l1 v17.toNat).b (rd l1 v17.toNat).c) then (bif (decide ((DO aI (rd l1 v17.toNat).a (rd l1 v17.toNat).b (rd l1 v17.toNat).c)<=x2)) then (bif (Jv aI (rd l1 v17.toNat).d (rd l1 v17.toNat).e (rd l1 v17.toNat).f) then (bif (decide (x2<(DO aI (rd l1 v17.toNat).d (rd l1 v17.toNat).e (rd l1 v17.toNat).f))) then (bif (SP aI (rd l1 v17.toNat).a (rd l1 v17.toNat).b (rd l1 v17.toNat).c) then (bif (SP aI (rd l1 v17.toNat).d (rd l1 v17.toNat).e (rd l1 v17.toNat).f) then (bif (Nat.beq 4 4&&((decide (0+v8.length=v8.length))&&decide ((v8.length+1+1)*(32+1)<=CF))) then (.to (.h0 (v8++[(R4.mk (F0 aI (rd l1 v17.toNat).a (rd l1 v17.toNat).b (rd l1 v17.toNat).c) (F2 aI (rd l1 v17.toNat).a (rd l1 v17.toNat).b (rd l1 v17.toNat).c) (F0 aI (rd l1 v17.toNat).d (rd l1 v17.toNat).e (rd l1 v17.toNat).f) (F2 aI (rd l1 v17.toNat).d (rd l1 v17.toNat).e (rd l1 v17.toNat).f))]) (wrap .i64 (v17+1)))) else .stuck) else .stuck) else .stuck) else (.to (.h0 v8 (wrap .i64 (v17+1))))) else .stuck) else (.to (.h0 v8 (wrap .i64 (v17+1))))) else .stuck) else .stuck) else (bif (Us (B3 v8)) then (.ret [(.dat (Za (B3 v8)).length (Zz (Za (B3 v8)))),(.int .i64 (Xk (B3 v8)))]) else .stuck))
def x4c (aI:Int) (l1:List R6) (x2:Int):Xz IJ:=(.to (.h0 ([]:List R4) 0))
theorem v1e (aI:Int) (l1:List R6) (x2:Int): ∀s,Xw prog (Zy prog 47) (Om aI l1 x2) (Om aI l1 x2 s) (JY aI l1 x2 s)
 | .h0 v8 v17=>(lb (fun k0=>(lo fun aE=>(lo fun bI=>let a:=ww bI (ww aE (tt k0 nn));(lb (fun k1=>(lo fun bU=>let d:=ww bU (tt k1 a);(lb (fun k2=>(lo fun o0=>(lo fun o1=>(lo fun o2=>let b:=xL (v8.length+1) (x1p v8 aI l1 v17).length;let c:=x1p v8 aI l1 v17;(sl Qh 75 [] ⟨[0,4],[],u5i,u5j⟩ ⟨[(8,.len c.length)],[.keep,.rowed 4 c.length (Zz c)],[]⟩ (CA 8 []) (pp b (pp b (pp (xS (v8.length+1) (j2q v8 aI l1 v17) (Zz (x1p v8 aI l1 v17))) (pp (pp (xF (j2q v8 aI l1 v17)) nn) (ww o2 (ww o1 (ww o0 (tt k2 d))))))))))))) (fun k2=>(sl Qh 41 [] ⟨[0,1],[],u5i,u5j⟩ a6 (CA 7 [false]) (pp (fl v8 nn) (tt k2 d))))))) (fun k1=>(sl Qh 41 [] ⟨[0,1],[],u5i,u5j⟩ a6 (bl 8 1) (pp (fl v8 nn) (tt k1 a)))))))) (fun k0=>(Xh (sl Qh (C':=⟨⟨62,0,true⟩,(Vm prog 47 [1,1,1,0] 1),(Zg prog 47 [1,1,1,0] 1),none,(Zy prog 10),⟨Yj [(58,(.dat v8.length (Zz v8)))],Vk [] 0,0,[],true⟩,[],.leaf⟩) 10 [] ⟨[],[1],[some [58]],[]⟩ ⟨[(58,.frz v8.length v8.length (Zz v8) (Zz v8))],[],[]⟩ [false] (pp (xZ (Cm 4 4 0 v8.length v8.length (Zz v8)) v8.length (Zz v8)) (pp (xL v8.length v8.length) (pp (xS v8.length (Zz v8) (Zz v8)) (pp (fl v8 nn) (tt k0 nn)))))) (lo fun o0=>let e:=Za (B3 v8);(lr 62 3 [1,1,1,1,0] 1 10 [(6,(.dat e.length (Zz e))),(7,(ii (Xk (B3 v8))))] (sl Qh 6 [] (a8 [6,7]) a6 [] (pp (pp (xr v8) (xw o0)) nn)))))))
theorem w0z (aI:Int) (l1:List R6) (x2:Int):Xw prog (Zy prog 47) (Om aI l1 x2) (Zm prog 47 [(.agg [(.int .i64 aI)]),(.dat l1.length (Zz l1)),(.int .i64 x2)] true []) (x4c aI l1 x2):=(sl Qh 19 [(116,4,Zz ([]:List R4))] ⟨[0,1],[],u5i,u5j⟩ ⟨[(8,.grow 1 4)],[],[]⟩ [] (pp (fl ([]:List R4) nn) nn))
theorem u5h (aI:Int) (l1:List R6) (x2:Int) (n:Nat) (vs:List B2) (h:Zo (JY aI l1 x2) n (x4c aI l1 x2)=.ret vs):Uj prog (Zy prog 47) (Zm prog 47 [(.agg [(.int .i64 aI)]),(.dat l1.length (Zz l1)),(.int .i64 x2)] true []) vs:=by have:=Zb (v1e aI l1 x2) n _ (w0z aI l1 x2);rwa [h] at this
inductive Hv where
 | h0 (v4:List R6) (v10:Int)
def OY (l0:List Pa):Hv->CB
 | .h0 v4 v10=>⟨⟨26,0,true⟩,none,(Zg prog 44 [1,1,0,1,0,0] 0),none,(Zy prog 14),⟨Yj [(4,(.dat v4.length (Zz v4))),(8,(.dat l0.length (Zz l0))),(9,(ii (l0.length:Int))),(10,(ii v10))],Vk [] 0,0,[],true⟩,[],.leaf⟩
def KS :List (Option (List Nat)):=[some [4,8,9,10]]
def KT :List (Option (List Nat)):=[]
def NZ (l0:List Pa):Hv->Xz Hv
 | .h0 v4 v10=>(bif (decide (v10<(l0.length:Int))) then (bif ((decide (0<=v10/\v10<(l0.length:Int)))&&true) then (bif (SN .u (B3 v4) (B3 (rd l0 v10.toNat).s)) then (bif ((Dn .u (B3 v4) (B3 (rd l0 v10.toNat).s)) != 0) then (.ret [.nils,(.int .i64 (Dn .u (B3 v4) (B3 (rd l0 v10.toNat).s)))]) else (.to (.h0 (Qu .u (B3 v4) (B3 (rd l0 v10.toNat).s)) (wrap .i64 (v10+1))))) else .stuck) else .stuck) else (.ret [(.dat v4.length (Zz v4)),(.int .i64 0)]))
def x3q (l0:List Pa):Xz Hv:=(.to (.h0 ([]:List R6) 0))
theorem v0f (l0:List Pa): ∀s,Xw prog (Zy prog 44) (OY l0) (OY l0 s) (NZ l0 s)
 | .h0 v4 v10=>(lb (fun k0=>(lo fun aE=>(lo fun bI=>let a:=ww aE (tt k0 nn);(lb (fun k1=>(lr 26 44 [1,1,0,1,0,0,1,1,0,0,1,1,1,1,0,0] 1 14 [(2,.nils),(3,(ii (Dn .u (B3 v4) (B3 (rd l0 (tn v10)).s))))] (sl Qh 44 [] (a8 [2,3]) a6 (bl 2 3) (tt k1 (pp (pp (xr v4) (pp (xI R6 (rd l0 (tn v10)).s.length (Zz (rd l0 (tn v10)).s)) (xw bI))) a))))) (fun k1=>(sl Qh 45 [] ⟨[],[],KS,KT⟩ a6 (bl 2 1) (tt k1 (pp (pp (xr v4) (pp (xI R6 (rd l0 (tn v10)).s.length (Zz (rd l0 (tn v10)).s)) (xw bI))) a)))))))) (fun k0=>(lr 26 3 [1,1,1,1,0] 1 14 [(2,(.dat v4.length (Zz v4))),(3,(ii 0))] (sl Qh 13 [] (a8 [2,3]) a6 [false] (tt k0 nn)))))
theorem w0c (l0:List Pa):Xw prog (Zy prog 44) (OY l0) (Zm prog 44 [(.dat l0.length (Zz l0))] true []) (x3q l0):=(sl Qh 18 [] ⟨[],[],KS,KT⟩ ⟨[(4,.list 0 (Zz ([]:List R6)))],[],[]⟩ [] nn)
theorem u4e (l0:List Pa) (n:Nat) (vs:List B2) (h:Zo (NZ l0) n (x3q l0)=.ret vs):Uj prog (Zy prog 44) (Zm prog 44 [(.dat l0.length (Zz l0))] true []) vs:=by have:=Zb (v0f l0) n _ (w0c l0);rwa [h] at this
def Do (a:Int) (L:List R6) (p:Int):List R4:=(L.filter fun r=>decide (DO a r.a r.b r.c<=p)&&decide (p<DO a r.d r.e r.f)).map fun r=>⟨F0 a r.a r.b r.c,F2 a r.a r.b r.c,F0 a r.d r.e r.f,F2 a r.d r.e r.f⟩
theorem w5j (a:Int) (L M:List R6) (p:Int):Do a (L++M) p=Do a L p++Do a M p:=by grind [Do]
theorem RV (a:Int) {r:R6} {p:Int} (h1:DO a r.a r.b r.c<=p) (h2:p<DO a r.d r.e r.f):Do a [r] p=[⟨F0 a r.a r.b r.c,F2 a r.a r.b r.c,F0 a r.d r.e r.f,F2 a r.d r.e r.f⟩]:=by grind [Do]
theorem t4y (a:Int) {r:R6} {p:Int} (h1: ¬DO a r.a r.b r.c<=p):Do a [r] p=[]:=by grind [Do]
theorem t4x (a:Int) {r:R6} {p:Int} (h2: ¬p<DO a r.d r.e r.f):Do a [r] p=[]:=by grind [Do]
def Ze (a:Int) (L:List R6) (p:Int):List R4:=Za (Do a L p)
def Wz (a:Int) (L:List R6) (p:Int):Int:=Xk (Do a L p)
def Wm (a:Int) (L:List R6) (p:Int):Bool:=Es a&&decide (L.length<=1000)
theorem j2p (a:Int) (L:List R6) (p:Int) (ha:Es a=true) (hl:L.length<=1000): ∀(k i:Nat) (acc:List R4),i+k=L.length->acc.length<=i->Do a L p=acc++Do a (L.drop i) p->
  ∃n,Zo (JY a L p) n (.to (.h0 acc (i:Int)))=.ret [.dat (Ze a L p).length (Zz (Ze a L p)),.int .i64 (Wz a L p)]
 | 0,i,acc,h,h',e=>by
  rw [As (by omega),show Do a [] p=[] from rfl,AE] at e;refine ⟨1,?_⟩
  grind [Ze,Wz,Zx,JY,Zd,Us,Zp]
 | k+1,i,acc,h,h',e=>by
  have hi:i<L.length:=by omega
  have oA: ∀x y z,Jv a x y z=true:=fun _ _ _=>ha;have oF: ∀x y z,SP a x y z=true:=fun _ _ _=>ha;have e2:Do a L p=(acc++Do a [rd L i] p)++Do a (L.drop (i+1)) p:=by rw [AM,<-w5j,e,Yg hi];rfl
  obtain ⟨n,hn⟩:=j2p a L p ha hl k (i+1) (acc++Do a [rd L i] p) (by omega) (by
   grind [Do]) e2
  refine ⟨n+1,?_⟩;rw [Zx];by_cases h1:DO a (rd L i).a (rd L i).b (rd L i).c <=p
  .by_cases h2:p<DO a (rd L i).d (rd L i).e (rd L i).f
   .rw [RV a h1 h2] at hn;simp (disch:=omega) only [JY,oA,oF,Wj,Zd,Zq,Yy,Yz,Yd,Yu,Yk,Zh,Zj,Zw,show Nat.beq 4 4=true from rfl,Zk,Af,Ao,Ah,Ai,Ab,Aa];exact hn
   .rw [t4x a h2,AE] at hn
    grind [JY,Zj,Zk]
  grind [t4y,JY,Zj,Zk]
theorem j8z (a:Int) (L:List R6) (p:Int) (h:Wm a L p=true): ∃n,Zo (JY a L p) n (x4c a L p)=.ret [.dat (Ze a L p).length (Zz (Ze a L p)),.int .i64 (Wz a L p)]:=by obtain ⟨h1,h2⟩:=BH.1 h;exact j2p a L p h1 (Az h2) L.length 0 [] (Af _) (Aq _) rfl
def QL :List B2->Option (B2×Bool)
 | [.agg [.int .i64 aI],a1,.int .i64 x2]=>match CS R6 a1 with
  | some (L1,g1,n1)=>some (.tup [.dat (Ze aI L1 x2).length (Zz (Ze aI L1 x2)),.int .i64 (Wz aI L1 x2)],CO R6 n1 g1&&(Wm aI L1 x2))
  | _=>none
 | _=>none
theorem t3a {S:B4} (hS:Zv prog S):Zv prog (S.with M1 QL):=by
 refine Qn hS (by kernel_rfl) fun args v h=> ?_;unfold QL at h;split at h
 .rename_i aI a1 x2;split at h
  .rename_i L1 g1 n1 e1;simp only [Ad,Ac,Ae] at h;obtain ⟨rfl,ho1,hw⟩:=h;obtain ⟨N,hN⟩:=j8z aI L1 x2 hw;exact ⟨_,_,(.cons (.refl _) (.cons (Yn e1 ho1) (.cons (.refl _) .nil))),rfl,u5h aI L1 x2 N _ hN,3,rfl⟩
  .cases h
 .cases h
def FE :List R6->List Pa->Int
 | _,[]=>0
 | acc,x::r=>bif Dn .u acc x.s != 0 then Dn .u acc x.s else FE (Qu .u acc x.s) r
def CT :List R6->List Pa->List R6
 | acc,[]=>acc
 | acc,x::r=>CT (Qu .u acc x.s) r
def Kt (l:List Pa):Int:=FE [] l
def Yv (l:List Pa):List R6:=D8 (FE [] l) (CT [] l)
def Jl (l:List Pa):Bool:=decide (l.length<=1000)
theorem j0u (l:List Pa) (hl:l.length<=1000): ∀(k i:Nat) (acc:List R6),i+k=l.length-> ∃n,Zo (NZ l) n (.to (.h0 acc (i:Int)))=.ret (Cy (FE acc (l.drop i)) (CT acc (l.drop i)))
 | 0,i,acc,h=>by rw [As (by omega)];refine ⟨1,?_⟩;rw [Zx];simp (disch:=omega) only [NZ,Yh,Aa,Zp];rfl
 | k+1,i,acc,h=>by
  have hi:i<l.length:=by omega
  obtain ⟨n,hn⟩:=j0u l hl k (i+1) (Qu .u acc (rd l i).s) (by omega);refine ⟨n+1,?_⟩;rw [Zx,Yg hi];have e:NZ l (.h0 acc (i:Int))=bif Dn .u acc (rd l i).s != 0 then .ret [.nils,.int .i64 (Dn .u acc (rd l i).s)] else .to (.h0 (Qu .u acc (rd l i).s) ((i+1:Nat):Int)):=by
   grind [NZ,Zd,SN,Zj]
  rw [e];unfold FE CT;rcases Zs (Dn .u acc (rd l i).s != 0) with q | q;all_goals grind [Zp,Uv]
theorem j7j (l:List Pa) (h:Jl l=true): ∃n,Zo (NZ l) n (x3q l)=.ret (Cy (Kt l) (CT [] l)):=j0u l (Az h) l.length 0 [] (Af _)
def QB :List B2->Option (B2×Bool)
 | [a0]=>match CS Pa a0 with
  | some (L0,g0,n0)=>some (.tup [.dat (Yv L0).length (Zz (Yv L0)),.int .i64 (Kt L0)],CO Pa n0 g0&&(Jl L0))
  | _=>none
 | _=>none
theorem t2q {S:B4} (hS:Zv prog S):Zv prog (S.with v9u QB):=by
 refine Em hS (by kernel_rfl) fun args v h=> ?_;unfold QB at h;split at h
 .rename_i a0;split at h
  .rename_i L0 g0 n0 e0;simp only [Ad,Ac,Ae] at h;obtain ⟨rfl,ho0,hw⟩:=h;obtain ⟨N,hN⟩:=j7j L0 hw;exact ⟨_,_,(.cons (Yn e0 ho0) .nil),H7 _ _,u4e L0 N _ hN,3,JU _ _⟩
  .cases h
 .cases h
def Vb2 :B4:=((Vb.with M1 QL).with v9u QB)
theorem Rq :Zv prog Vb2:=(t2q (t3a Qh))
inductive IG where
 | h0 (v15:Int)
 | h1 (v28:Int)
 | h2 (v0:List R6) (v7:Int) (v8:Int) (dL:List R6) (bH:Int) (cI:Int) (dI:List R6) (aC:Int) (bD:Int) (aZ:Int) (bT:Int) (cN:Int) (cO:Int) (cZ:List R6)
 | h3 (v0:List Pa) (v7:Int) (v8:Int) (cI:Int) (aC:Int) (bD:Int) (aZ:Int) (bT:Int) (cN:Int) (cO:Int) (cZ:List R6)
abbrev N0 (l0:List Pa) (v28:Int):=(R6.mk (rd l0 (tn v28)).a (rd l0 (tn v28)).b (rd l0 (tn v28)).c (rd l0 (tn v28)).d (rd l0 (tn v28)).e (rd l0 (tn v28)).f)
abbrev z5o (l0:List Pa) (bH:Int):=(Zz (Wy l0 0 (tn bH)))
def KE (l0:List Pa):B2:=(.dat l0.length (Zz l0))
def Oj (l0:List Pa):IG->CB
 | .h0 v15=>⟨⟨54,0,true⟩,none,(Zg prog 20 [1,1,0,1,0,0] 0),none,(Zy prog 9),⟨Yj [(0,(KE l0)),(13,(KE l0)),(14,(ii (l0.length:Int))),(15,(ii v15))],Vk [] 0,0,[],true⟩,[],.leaf⟩
 | .h1 v28=>⟨⟨54,0,true⟩,none,(Zg prog 20 [1,1,1,0,1,0,0] 0),none,(Zy prog 9),⟨Yj [(0,(KE l0)),(26,(KE l0)),(27,(ii (l0.length:Int))),(28,(ii v28))],Vk [] 0,0,[],true⟩,[],.leaf⟩
 | .h2 v0 v7 v8 dL bH cI dI aC bD aZ bT cN cO cZ=>⟨⟨19,0,true⟩,none,(Zg prog 95 [1,0,1,0,0] 0),none,(Zy prog 6),⟨Yj [(0,(.dat v0.length (Zz v0))),(1,(.fn 53 [(.ptr 0 0)])),(7,(ii v7)),(8,(ii v8))],Vk [⟨[(ii aC),(ii bD),(ii aZ),(ii bT),(ii cN),(ii cO),(.dat cZ.length (Zz cZ))],59,none⟩] 0,1,[],true⟩,[⟨⟨9,0,true⟩,(Vm prog 57 [1,0] 2),(Zg prog 57 [1,0] 1),none,(Zy prog 6),Yj [(5,(.dat dL.length (Zz dL))),(6,(.fn 53 [(.ptr 0 0)]))]⟩,⟨⟨54,0,true⟩,(Vm prog 20 [1,1,1,0,1,0,0,1,1,0,0,1,1,1,0] 9),(Zg prog 20 [1,1,1,0,1,0,0,1,1,0,0,1,1,1,0] 1),none,(Zy prog 9),Yj [(0,(KE l0)),(6,(ii bH)),(9,(.fn 55 [(.ptr 0 0)])),(26,(KE l0)),(27,(ii (l0.length:Int))),(28,(ii cI)),(40,(.bool false)),(42,(.dat dI.length (Zz dI))),(43,(.fn 53 [(.ptr 0 0)]))]⟩],.leaf⟩
 | .h3 v0 v7 v8 cI aC bD aZ bT cN cO cZ=>⟨⟨19,0,true⟩,none,(Zg prog 96 [1,0,1,0,0] 0),none,(Zy prog 6),⟨Yj [(0,(.dat v0.length (Zz v0))),(1,(.fn 55 [(.ptr 0 0)])),(7,(ii v7)),(8,(ii v8))],Vk [⟨[(ii aC),(ii bD),(ii aZ),(ii bT),(ii cN),(ii cO),(.dat cZ.length (Zz cZ))],59,none⟩] 0,1,[],true⟩,[⟨⟨9,0,true⟩,(Vm prog 58 [1,0] 2),(Zg prog 58 [1,0] 1),none,(Zy prog 6),Yj [(5,(.dat v0.length (Zz v0))),(6,(.fn 55 [(.ptr 0 0)]))]⟩,⟨⟨54,0,true⟩,(Vm prog 20 [1,1,1,0,1,0,0,1,1,0,0,1,1,1,0] 16),(Zg prog 20 [1,1,1,0,1,0,0,1,1,0,0,1,1,1,0] 1),none,(Zy prog 9),Yj [(0,(KE l0)),(26,(KE l0)),(27,(ii (l0.length:Int))),(28,(ii cI)),(46,(.bool false)),(49,(.dat v0.length (Zz v0))),(50,(.fn 55 [(.ptr 0 0)]))]⟩],.leaf⟩
def LY :List (Option (List Nat)):=[some [0,13,14,15]]
def L3 :List (Option (List Nat)):=[]
def j8t :List (Option (List Nat)):=[some [0,26,27,28]]
def j8v :List (Option (List Nat)):=[]
def LX :List (Option (List Nat)):=[some [0,1,7,8],some [5,6],some [0,6,9,26,27,28,40,42,43]]
def LZ :List (Option (List Nat)):=[]
def j8s :List (Option (List Nat)):=[some [0,1,7,8],some [5,6],some [0,26,27,28,46,49,50]]
def j8u :List (Option (List Nat)):=[]
def Vh (l0:List Pa):IG->Xz IG
 | .h0 v15=>(bif (decide (v15<(l0.length:Int))) then (bif ((decide (0<=v15/\v15<(l0.length:Int)))&&true) then (bif (We (B3 (rd l0 v15.toNat).s)) then (bif ((Zf (B3 (rd l0 v15.toNat).s)) != 0) then (.ret [(.int .i64 (Zf (B3 (rd l0 v15.toNat).s)))]) else (.to (.h0 (wrap .i64 (v15+1))))) else .stuck) else .stuck) else (.to (.h1 0)))
 | .h1 v28=>(bif (decide (v28<(l0.length:Int))) then (bif ((decide (0<=v28/\v28<(l0.length:Int)))&&true) then (bif (We (B3 ([(R6.mk (rd l0 v28.toNat).a (rd l0 v28.toNat).b (rd l0 v28.toNat).c (rd l0 v28.toNat).d (rd l0 v28.toNat).e (rd l0 v28.toNat).f)]:List R6))) then (bif ((Zf (B3 ([(R6.mk (rd l0 v28.toNat).a (rd l0 v28.toNat).b (rd l0 v28.toNat).c (rd l0 v28.toNat).d (rd l0 v28.toNat).e (rd l0 v28.toNat).f)]:List R6))) != 0) then (.ret [(.int .i64 8)]) else (.to (.h2 (rd l0 v28.toNat).s (((rd l0 v28.toNat).s.length :Nat):Int) 0 (rd l0 v28.toNat).s v28 v28 (rd l0 v28.toNat).s (rd l0 v28.toNat).a (rd l0 v28.toNat).b (rd l0 v28.toNat).c (rd l0 v28.toNat).d (rd l0 v28.toNat).e (rd l0 v28.toNat).f (rd l0 v28.toNat).s))) else .stuck) else .stuck) else (.ret [(.int .i64 0)]))
 | .h2 v0 v7 v8 dL bH cI dI aC bD aZ bT cN cO cZ=>(bif (decide (v8<v7)) then (bif ((decide (0<=v8/\v8<(v0.length:Int)))&&true) then (bif (!(Mh (rd v0 v8.toNat).a (rd v0 v8.toNat).b (rd v0 v8.toNat).c (rd v0 v8.toNat).d (rd v0 v8.toNat).e (rd v0 v8.toNat).f aC bD aZ bT cN cO)) then (bif (decide (v8>=0)) then (.ret [(.int .i64 8)]) else (bif (decide (0<=bH.toNat)) then (bif (decide (bH.toNat<=l0.length)) then (bif (decide (0<=bH)) then (.to (.h3 (Wy l0 0 bH.toNat) ((bH.toNat:Nat):Int) 0 cI aC bD aZ bT cN cO cZ)) else .stuck) else .stuck) else .stuck)) else (.to (.h2 v0 v7 (wrap .i64 (v8+1)) dL bH cI dI aC bD aZ bT cN cO cZ))) else .stuck) else (bif (decide (0<=bH.toNat)) then (bif (decide (bH.toNat<=l0.length)) then (bif (decide (0<=bH)) then (.to (.h3 (Wy l0 0 bH.toNat) ((bH.toNat:Nat):Int) 0 cI aC bD aZ bT cN cO cZ)) else .stuck) else .stuck) else .stuck))
 | .h3 v0 v7 v8 cI aC bD aZ bT cN cO cZ=>(bif (decide (v8<v7)) then (bif ((decide (0<=v8/\v8<(v0.length:Int)))&&true) then (bif (Mj aC bD aZ bT cN cO (rd v0 v8.toNat).a (rd v0 v8.toNat).b (rd v0 v8.toNat).c (rd v0 v8.toNat).d (rd v0 v8.toNat).e (rd v0 v8.toNat).f) then (bif (decide (v8>=0)) then (.ret [(.int .i64 8)]) else (.to (.h1 (wrap .i64 (cI+1))))) else (.to (.h3 v0 v7 (wrap .i64 (v8+1)) cI aC bD aZ bT cN cO cZ))) else .stuck) else (.to (.h1 (wrap .i64 (cI+1)))))
def SM (l0:List Pa):Xz IG:=(bif (decide ((l0.length:Int)>50)) then (.ret [(.int .i64 4)]) else (.to (.h0 0)))
theorem v1b (l0:List Pa): ∀s,Xw prog (Zy prog 20) (Oj l0) (Oj l0 s) (Vh l0 s)
 | .h0 v15=>(lb (fun k0=>(lo fun aE=>(lo fun bI=>let a:=ww aE (tt k0 nn);(lb (fun k1=>(lr 54 20 [1,1,0,1,0,0,1,1,0,0,1,1,1,0,0] 1 9 [(2,(ii (Zf (B3 (rd l0 (tn v15)).s))))] (sl Qh 34 [] (a8 [2]) a6 (bl 2 3) (tt k1 (pp (pp (xI R6 (rd l0 (tn v15)).s.length (Zz (rd l0 (tn v15)).s)) (xw bI)) a))))) (fun k1=>(sl Qh 36 [] ⟨[],[],LY,L3⟩ a6 (bl 2 1) (tt k1 (pp (pp (xI R6 (rd l0 (tn v15)).s.length (Zz (rd l0 (tn v15)).s)) (xw bI)) a)))))))) (fun k0=>(sl Qh 16 [] ⟨[],[],j8t,j8v⟩ a6 [false] (tt k0 nn))))
 | .h1 v28=>(lb (fun k0=>(lo fun q1_0=>let g:=rd l0 (tn v28);let h:=N0 l0 v28;let i:=Zz ([h]:List R6);(Xh (sl Qh (C':=⟨⟨54,0,true⟩,(Vm prog 20 [1,1,1,0,1,0,0,1,1,0,0,1,1,1,0] 3),(Zg prog 20 [1,1,1,0,1,0,0,1,1,0,0,1,1,1,0] 1),none,(Zy prog 9),⟨Yj [(0,(.dat l0.length (Zz l0))),(6,(ii v28)),(7,(.ptr 0 0)),(8,(.fn 53 [(.ptr 0 0)])),(9,(.fn 55 [(.ptr 0 0)])),(26,(.dat l0.length (Zz l0))),(27,(ii (l0.length:Int))),(28,(ii v28)),(37,(.dat ([h]:List R6).length i))],Vk [⟨[(ii g.a),(ii g.b),(ii g.c),(ii g.d),(ii g.e),(ii g.f),(.dat g.s.length (Zz g.s))],59,none⟩] 0,1,[],true⟩,[],.leaf⟩) 33 [] ⟨[0],[1],[some [0,6,7,8,9,26,27,28,37]],[]⟩ ⟨[(37,.frz 1 ([h]:List R6).length (Xt [(ii g.a),(ii g.b),(ii g.c),(ii g.d),(ii g.e),(ii g.f)] 0 6) i)],[],[]⟩ [true] (pp (xZ (.dat 1 (Xt [(ii (rd l0 (tn v28)).a),(ii (rd l0 (tn v28)).b),(ii (rd l0 (tn v28)).c),(ii (rd l0 (tn v28)).d),(ii (rd l0 (tn v28)).e),(ii (rd l0 (tn v28)).f)] 0 6)) 1 (Xt [(ii (rd l0 (tn v28)).a),(ii (rd l0 (tn v28)).b),(ii (rd l0 (tn v28)).c),(ii (rd l0 (tn v28)).d),(ii (rd l0 (tn v28)).e),(ii (rd l0 (tn v28)).f)] 0 6)) (pp (xL 1 ([(N0 l0 v28)]:List R6).length) (pp (xS 1 (Xt [(ii (rd l0 (tn v28)).a),(ii (rd l0 (tn v28)).b),(ii (rd l0 (tn v28)).c),(ii (rd l0 (tn v28)).d),(ii (rd l0 (tn v28)).e),(ii (rd l0 (tn v28)).f)] 0 6) (Zz ([(N0 l0 v28)]:List R6))) (ww q1_0 (tt k0 nn)))))) (lo fun aE=>(lb (fun k1=>(lr 54 20 [1,1,1,0,1,0,0,1,1,0,0,1,1,1,1,0,0] 1 9 [(2,(ii 8))] (sl Qh 21 [] (a8 [2]) a6 (CA 10 []) (tt k1 (pp (pp (xI R6 ([(N0 l0 v28)]:List R6).length (Zz ([(N0 l0 v28)]:List R6))) (xw aE)) nn))))) (fun k1=>(sl Qh 29 [] ⟨[0],[],LX,LZ⟩ a6 (bl 4 0) (tt k1 (pp (pp (xI R6 ([(N0 l0 v28)]:List R6).length (Zz ([(N0 l0 v28)]:List R6))) (xw aE)) nn))))))))) (fun k0=>(lr 54 3 [1,1,1,1,0] 1 9 [(2,(ii 0))] (sl Qh 11 [] (a8 [2]) a6 [false] (tt k0 nn)))))
 | .h2 v0 v7 v8 dL bH cI dI aC bD aZ bT cN cO cZ=>let c:=Wy l0 0 (tn bH);let f:=z5o l0 bH;(lb (fun k0=>(lo fun aE=>let g:=ww aE (tt k0 nn);(lb (fun k1=>(lb (fun k2=>(lr 54 20 [1,1,1,0,1,0,0,1,1,0,0,1,1,1,1,0,0] 1 9 [(2,(ii 8))] (sl Qh 63 [] (a8 [2]) a6 (CA 8 []) (tt k2 (tt k1 g))))) (fun k2=>(lo fun o0=>(lo fun o1=>(lo fun o2=>let a:=xS (tn bH) (fun k=>(Zz l0) (0+k)) (z5o l0 bH);let e:=xL (tn bH) (Wy l0 0 (tn bH)).length;(sl Qh 78 [] ⟨[0],[],j8s,j8u⟩ ⟨[(0,.list c.length f)],[],[[(5,.list c.length f)],[(49,.list c.length f)]]⟩ (bl 7 3) (pp e (pp a (pp e (pp a (pp e (pp a (pp (pp (xw o2) (pp nn (pp (xG (decide ((tn bH)<=l0.length))) (pp (xG (decide (0<=(tn bH)))) (xG (Gu l0.length (Zz l0) 7)))))) (tt k2 (tt k1 g)))))))))))))))) (fun k1=>(sl Qh 46 [] ⟨[0],[],LX,LZ⟩ a6 (bl 2 1) (tt k1 g)))))) (fun k0=>(lo fun o0=>(lo fun o1=>(lo fun o2=>let b:=xS (tn bH) (fun k=>(Zz l0) (0+k)) (z5o l0 bH);let d:=xL (tn bH) (Wy l0 0 (tn bH)).length;(sl Qh 45 [] ⟨[0],[],j8s,j8u⟩ ⟨[(0,.list c.length f)],[],[[(5,.list c.length f)],[(49,.list c.length f)]]⟩ (bl 6 0) (pp d (pp b (pp d (pp b (pp d (pp b (pp (pp (xw o2) (pp nn (pp (xG (decide ((tn bH)<=l0.length))) (pp (xG (decide (0<=(tn bH)))) (xG (Gu l0.length (Zz l0) 7)))))) (tt k0 nn))))))))))))))
 | .h3 v0 v7 v8 cI aC bD aZ bT cN cO cZ=>(lb (fun k0=>(lo fun aE=>let a:=ww aE (tt k0 nn);(lb (fun k1=>(lb (fun k2=>(lr 54 20 [1,1,1,0,1,0,0,1,1,0,0,1,1,1,1,0,0] 1 9 [(2,(ii 8))] (sl Qh 56 [] (a8 [2]) a6 (CA 3 []) (tt k2 (tt k1 a))))) (fun k2=>(sl Qh 59 [] ⟨[],[],j8t,j8v⟩ a6 (bl 3 3) (tt k2 (tt k1 a)))))) (fun k1=>(sl Qh 46 [] ⟨[0],[],j8s,j8u⟩ a6 (bl 2 1) (tt k1 a)))))) (fun k0=>(sl Qh 26 [] ⟨[],[],j8t,j8v⟩ a6 (bl 2 0) (tt k0 nn))))
theorem w0w (l0:List Pa):Xw prog (Zy prog 20) (Oj l0) (Zm prog 20 [(.dat l0.length (Zz l0))] true []) (SM l0):=(lb (fun k0=>(lr 54 20 [1,0,1,0,0] 1 9 [(2,(ii 4))] (sl Qh 16 [] (a8 [2]) a6 [true] (tt k0 nn)))) (fun k0=>(sl Qh 22 [] ⟨[],[],LY,L3⟩ a6 [false] (tt k0 nn))))
theorem w7g (l0:List Pa) (n:Nat) (vs:List B2) (h:Zo (Vh l0) n (SM l0)=.ret vs):Uj prog (Zy prog 20) (Zm prog 20 [(.dat l0.length (Zz l0))] true []) vs:=by have:=Zb (v1b l0) n _ (w0w l0);rwa [h] at this
def CH (x:Pa):R6:=⟨x.a,x.b,x.c,x.d,x.e,x.f⟩
def insR (r x:R6):Bool:=Mh r.a r.b r.c r.d r.e r.f x.a x.b x.c x.d x.e x.f
def Gk (x y:R6):Bool:=Mj x.a x.b x.c x.d x.e x.f y.a y.b y.c y.d y.e y.f
def EY (l:List Pa) (i:Nat):Bool:=Zf [CH (rd l i)] != 0||((rd l i).s.any (fun r=> !insR r (CH (rd l i)))||(l.take i).any fun y=>Gk (CH (rd l i)) (CH y))
def Fm (l:List Pa):Nat->Nat->Int
 | 0,_=>0
 | k+1,i=>bif EY l i then 8 else Fm l k (i+1)
def Ec :List Pa->Int
 | []=>0
 | x::r=>bif Zf x.s != 0 then Zf x.s else Ec r
def Qe (l:List Pa):Int:=bif decide (50<l.length) then 4 else bif Ec l != 0 then Ec l else Fm l l.length 0
theorem v2o {l:List Pa} {i:Nat} (h:i<=l.length):Wy l 0 i=l.take i:=(u0n l 0 i).symm.trans (by rw [u8k l (by omega)];rfl)
def smP (l:List Pa):Bool:=decide (l.length<=1000)&&l.all fun x=>decide (x.s.length<=2000000)
def J7 (l:List Pa):Bool:=smP l
theorem NY {l:List Pa} (h:smP l=true):l.length<=1000:=Az (BH.1 h).1
theorem v6s {l:List Pa} (h:smP l=true) {i:Nat} (hi:i<l.length):(rd l i).s.length <=2000000:=by rw [Yo hi];exact Az (At.1 (BH.1 h).2 _ (AV hi))
section
variable (l:List Pa) (hl:l.length<=1000)
include hl
theorem j2h (i:Nat) (hi:i<l.length) (x:R6) (S:List R6) (V:List Pa) (hV:V.length<=1000): ∀(k j:Nat),j+k=V.length->
  ∃n,∀N,Zo (Vh l) (N+n) (.to (.h3 V (V.length:Int) (j:Int) (i:Int) x.a x.b x.c x.d x.e x.f S))=bif (V.drop j).any (fun y=>Gk x (CH y)) then .ret [.int .i64 8] else Zo (Vh l) N (.to (.h1 ((i+1:Nat):Int)))
 | 0,j,h=>by
  refine ⟨1,fun N=> ?_⟩
  grind [Zx,Vh,Zj]
 | k+1,j,h=>by
  have hj:j<V.length:=by omega
  obtain ⟨n,hn⟩:=j2h i hi x S V hV k (j+1) (by omega);refine ⟨n+1,fun N=> ?_⟩;rw [<-AD,Zx,Yg hj,BS];have e:Vh l (.h3 V (V.length:Int) (j:Int) (i:Int) x.a x.b x.c x.d x.e x.f S)=bif Gk x (CH (rd V j)) then .ret [.int .i64 8] else .to (.h3 V (V.length:Int) ((j+1:Nat):Int) (i:Int) x.a x.b x.c x.d x.e x.f S):=by
   grind [Vh,Gk,CH,Zj]
  grind [Zp]
theorem j2i (i:Nat) (hi:i<l.length) (x:R6) (S:List R6) (hS:S.length<=2000000): ∀(k j:Nat),j+k=S.length->
  ∃n,∀N,Zo (Vh l) (N+n) (.to (.h2 S (S.length:Int) (j:Int) S (i:Int) (i:Int) S x.a x.b x.c x.d x.e x.f S))=bif (S.drop j).any (fun r=> !insR r x)||(l.take i).any (fun y=>Gk x (CH y)) then .ret [.int .i64 8] else Zo (Vh l) N (.to (.h1 ((i+1:Nat):Int)))
 | 0,j,h=>by
  have e0:(l.take i).length =i:=by grind
  obtain ⟨n,hn⟩:=j2h l hl i hi x S (l.take i) (by omega) i 0 (by omega);refine ⟨n+1,fun N=> ?_⟩;rw [<-AD,Zx,As (by omega)];have hn:=hn N;rw [e0,AS] at hn;simp (disch:=omega) only [Vh,Yh,Wj,Yd,Zk,v2o (show i<=l.length by omega),Ab,Aa,List.any_nil,Bool.false_or];exact hn
 | k+1,j,h=>by
  have hj:j<S.length:=by omega
  obtain ⟨n,hn⟩:=j2i i hi x S hS k (j+1) (by omega);refine ⟨n+1,fun N=> ?_⟩;rw [<-AD,Zx,Yg hj,BS];have e:Vh l (.h2 S (S.length:Int) (j:Int) S (i:Int) (i:Int) S x.a x.b x.c x.d x.e x.f S)=bif !insR (rd S j) x then .ret [.int .i64 8] else .to (.h2 S (S.length:Int) ((j+1:Nat):Int) S (i:Int) (i:Int) S x.a x.b x.c x.d x.e x.f S):=by
   grind [Vh,insR,Zj]
  grind [Zp]
theorem j2j (hs:smP l=true): ∀(k i:Nat),i+k=l.length-> ∃n,Zo (Vh l) n (.to (.h1 (i:Int)))=.ret [.int .i64 (Fm l k i)]
 | 0,i,h=>by refine ⟨1,?_⟩;rw [Zx];simp (disch:=omega) only [Vh,Yh,Aa,Zp];rfl
 | k+1,i,h=>by
  have hi:i<l.length:=by omega
  obtain ⟨m,hm⟩:=j2j hs k (i+1) (by omega);obtain ⟨n,hn⟩:=j2i l hl i hi (CH (rd l i)) (rd l i).s (v6s hs hi) (rd l i).s.length 0 (Af _);refine ⟨m+n+1,?_⟩;have e:Vh l (.h1 (i:Int))=bif Zf [CH (rd l i)] != 0 then .ret [.int .i64 8] else .to (.h2 (rd l i).s ((rd l i).s.length :Int) ((0:Nat):Int) (rd l i).s (i:Int) (i:Int) (rd l i).s (CH (rd l i)).a (CH (rd l i)).b (CH (rd l i)).c (CH (rd l i)).d (CH (rd l i)).e (CH (rd l i)).f (rd l i).s):=by simp_all [Vh,CH,Zd,We]
  rw [Zx,e];show _=Xz.ret [.int .i64 (bif EY l i then 8 else Fm l k (i+1))];unfold EY;rcases Zs (Zf [CH (rd l i)] != 0) with q | q;all_goals grind [Zp]
theorem j2k (hs:smP l=true): ∀(k i:Nat),i+k=l.length-> ∃n,Zo (Vh l) n (.to (.h0 (i:Int)))=.ret [.int .i64 (bif Ec (l.drop i) != 0 then Ec (l.drop i) else Fm l l.length 0)]
 | 0,i,h=>by obtain ⟨m,hm⟩:=j2j l hl hs l.length 0 (Af _);refine ⟨m+1,?_⟩;rw [Zx,As (by omega)];simp (disch:=omega) only [Vh,Yh,Aa];exact hm
 | k+1,i,h=>by
  have hi:i<l.length:=by omega
  obtain ⟨m,hm⟩:=j2k hs k (i+1) (by omega);refine ⟨m+1,?_⟩;have e:Vh l (.h0 (i:Int))=bif Zf (rd l i).s != 0 then .ret [.int .i64 (Zf (rd l i).s)] else .to (.h0 ((i+1:Nat):Int)):=by
   grind [Vh,Zd,We,Zj]
  rw [Zx,e,Yg hi];unfold Ec;rcases Zs (Zf (rd l i).s != 0) with q | q;all_goals grind [Zp]
end
theorem v7e (l:List Pa) (h:J7 l=true): ∃n,Zo (Vh l) n (SM l)=.ret [.int .i64 (Qe l)]:=by
 have hl:=NY h;unfold SM Qe;by_cases g:50<l.length
 .exact ⟨0,by rw [Yt (by omega),Al g];rfl⟩
 .obtain ⟨n,hn⟩:=j2k l hl h l.length 0 (Af _)
  grind
def QK :List B2->Option (B2×Bool)
 | [a0]=>match CS Pa a0 with
  | some (L0,g0,n0)=>some (.int .i64 (Qe L0),CO Pa n0 g0&&(J7 L0))
  | _=>none
 | _=>none
theorem t2z {S:B4} (hS:Zv prog S):Zv prog (S.with Ty QK):=by
 refine Qn hS (by kernel_rfl) fun args v h=> ?_;unfold QK at h;split at h
 .rename_i a0;split at h
  .rename_i L0 g0 n0 e0;simp only [Ad,Ac,Ae] at h;obtain ⟨rfl,ho0,hw⟩:=h;obtain ⟨N,hN⟩:=v7e L0 hw;exact ⟨_,_,(.cons (Yn e0 ho0) .nil),rfl,w7g L0 N _ hN,3,rfl⟩
  .cases h
 .cases h
def Vc :B4:=(Vb2.with Ty QK)
theorem Xq :Zv prog Vc:=(t2z Rq)
end Go.Am
end
