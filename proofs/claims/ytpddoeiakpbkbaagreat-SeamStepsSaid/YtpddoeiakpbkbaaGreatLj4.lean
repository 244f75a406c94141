/- A part of a proof: several texts in one. -/
import Derived.Test.YtpddoeiakpbkbaaGreatLj3
set_option maxRecDepth 1000000
set_option maxHeartbeats 8000000
set_option linter.unusedVariables false
set_option linter.unusedSimpArgs false
noncomputable section
namespace Go.Am
open IntKind (wrap)
open Go.Proofs.Tryz
open Go.Proofs
inductive schS where
 | h0 (v10:Int)
def schC (l0:List R2):schS→Cfg
 | .h0 v10=>⟨⟨34,0,true⟩,none,(Zb prog 160 [1,1,0,1,0,0] 0),none,(Zy prog 9),⟨Yg [(0,(.dat l0.length (Zz l0))),(8,(.dat l0.length (Zz l0))),(9,(ii (l0.length:Int))),(10,(ii v10))],Wt [] 0,0,[],true⟩,[],.leaf⟩
def j2e :List (Option (List Nat)):=[some [0,8,9,10]]
def j2f :List (Option (List Nat)):=[]
def z4m (l0:List R2):schS→Xw schS
 | .h0 v10=>(bif (decide (v10<(l0.length:Int))) then (bif ((decide (0≤v10∧v10<(l0.length:Int)))&&true) then (bif (decide ((rd l0 v10.toNat).a <(rd l0 v10.toNat).b)) then (bif (decide ((rd l0 v10.toNat).a ≥(-1000000))) then (bif (!(decide ((rd l0 v10.toNat).b ≤1000000))) then (.ret [(.int .i64 8)]) else (bif (decide (v10>0)) then (bif ((decide (0≤(wrap .i64 (v10 - 1))∧(wrap .i64 (v10 - 1))<(l0.length:Int)))&&true) then (bif (decide ((rd l0 (Int.toNat (wrap .i64 (v10 - 1)))).b ≥(rd l0 v10.toNat).a)) then (.ret [(.int .i64 8)]) else (.to (.h0 (wrap .i64 (v10+1))))) else .stuck) else (.to (.h0 (wrap .i64 (v10+1)))))) else (.ret [(.int .i64 8)])) else (.ret [(.int .i64 8)])) else .stuck) else (.ret [(.int .i64 0)]))
def y3e (l0:List R2):Xw schS:=(bif (decide ((l0.length:Int)>400)) then (.ret [(.int .i64 4)]) else (.to (.h0 0)))
theorem w6z (l0:List R2): ∀s,Xu prog (Zy prog 160) (schC l0) (schC l0 s) (z4m l0 s)
 | .h0 v10=>(lb (fun k0=>(lo fun aE=>(lb (fun k1=>(lb (fun k2=>(lb (fun k3=>(lr 34 160 [1,1,0,1,0,0,1,1,0,0,1,1,0,0] 1 9 [(2,(ii 8))] (sl z5w 25 [] ⟨[],[],[some [2]],[]⟩ ⟨[],[],[]⟩ (trs 12 []) (tt k3 (tt k2 (tt k1 (ww aE (tt k0 nn)))))))) (fun k3=>(lb (fun k4=>(lo fun cZ=>(lb (fun k5=>(lr 34 160 [1,1,0,1,0,0,1,1,0,0,1,1,0,0] 1 9 [(2,(ii 8))] (sl z5w 25 [] ⟨[],[],[some [2]],[]⟩ ⟨[],[],[]⟩ (trs 7 (bl 14 12280)) (tt k5 (ww cZ (tt k4 (tt k3 (tt k2 (tt k1 (ww aE (tt k0 nn))))))))))) (fun k5=>(sl z5w 28 [] ⟨[],[],j2e,j2f⟩ ⟨[],[],[]⟩ (trs 7 (bl 14 4088)) (tt k5 (ww cZ (tt k4 (tt k3 (tt k2 (tt k1 (ww aE (tt k0 nn))))))))))))) (fun k4=>(sl z5w 28 [] ⟨[],[],j2e,j2f⟩ ⟨[],[],[]⟩ (trs 7 (bl 14 0)) (tt k4 (tt k3 (tt k2 (tt k1 (ww aE (tt k0 nn)))))))))))) (fun k2=>(lr 34 160 [1,1,0,1,0,0,1,1,0,0,1,1,0,0] 1 9 [(2,(ii 8))] (sl z5w 25 [] ⟨[],[],[some [2]],[]⟩ ⟨[],[],[]⟩ (trs 4 (bl 8 248)) (tt k2 (tt k1 (ww aE (tt k0 nn))))))))) (fun k1=>(lr 34 160 [1,1,0,1,0,0,1,1,0,0,1,1,0,0] 1 9 [(2,(ii 8))] (sl z5w 25 [] ⟨[],[],[some [2]],[]⟩ ⟨[],[],[]⟩ (bl 12 3969) (tt k1 (ww aE (tt k0 nn))))))))) (fun k0=>(lr 34 3 [1,1,1,1,0] 1 9 [(2,(ii 0))] (sl z5w 11 [] ⟨[],[],[some [2]],[]⟩ ⟨[],[],[]⟩ [false] (tt k0 nn)))))
theorem x8c (l0:List R2):Xu prog (Zy prog 160) (schC l0) (Za prog 160 [(.dat l0.length (Zz l0))] true []) (y3e l0):=(lb (fun k0=>(lr 34 160 [1,0,1,0,0] 1 9 [(2,(ii 4))] (sl z5w 16 [] ⟨[],[],[some [2]],[]⟩ ⟨[],[],[]⟩ [true] (tt k0 nn)))) (fun k0=>(sl z5w 22 [] ⟨[],[],j2e,j2f⟩ ⟨[],[],[]⟩ [false] (tt k0 nn))))
theorem u0d (l0:List R2) (n:Nat) (vs:List AVal) (h:Yx (z4m l0) n (y3e l0)=.ret vs):Ur prog (Zy prog 160) (Za prog 160 [(.dat l0.length (Zz l0))] true []) vs:=by have:=Zc (w6z l0) n _ (x8c l0);rwa [h] at this
inductive cuS where
def cuC (x0:Bool) (x1:Bool):cuS→Cfg
 :=nofun
def v7i (x0:Bool) (x1:Bool):cuS→Xw cuS
 :=nofun
def w1z (x0:Bool) (x1:Bool):Xw cuS:=(bif x0 then (.ret [(.bool true)]) else (.ret [(.bool x1)]))
theorem v7h (x0:Bool) (x1:Bool): ∀s,Xu prog (Zy prog 164) (cuC x0 x1) (cuC x0 x1 s) (v7i x0 x1 s)
 :=nofun
theorem w9w (x0:Bool) (x1:Bool):Xu prog (Zy prog 164) (cuC x0 x1) (Za prog 164 [(.bool x0),(.bool x1)] true []) (w1z x0 x1):=(lb (fun k0=>(lr 9 3 [1,1,1,1,0] 1 6 [(4,(.bool true))] (sl z5w 12 [] ⟨[],[],[some [4]],[]⟩ ⟨[],[],[]⟩ [true] (tt k0 nn)))) (fun k0=>(lr 9 3 [1,1,1,1,0] 1 6 [(4,(.bool x1))] (sl z5w 12 [] ⟨[],[],[some [4]],[]⟩ ⟨[],[],[]⟩ [false] (tt k0 nn)))))
theorem j7i (x0:Bool) (x1:Bool) (n:Nat) (vs:List AVal) (h:Yx (v7i x0 x1) n (w1z x0 x1)=.ret vs):Ur prog (Zy prog 164) (Za prog 164 [(.bool x0),(.bool x1)] true []) vs:=by have:=Zc (v7h x0 x1) n _ (w9w x0 x1);rwa [h] at this
inductive ceS where
def ceC (x0:Bool) (x1:Bool):ceS→Cfg
 :=nofun
def v7t (x0:Bool) (x1:Bool):ceS→Xw ceS
 :=nofun
def w2e (x0:Bool) (x1:Bool):Xw ceS:=(bif x0 then (.ret [(.bool x1)]) else (.ret [(.bool false)]))
theorem v7s (x0:Bool) (x1:Bool): ∀s,Xu prog (Zy prog 133) (ceC x0 x1) (ceC x0 x1 s) (v7t x0 x1 s)
 :=nofun
theorem w9y (x0:Bool) (x1:Bool):Xu prog (Zy prog 133) (ceC x0 x1) (Za prog 133 [(.bool x0),(.bool x1)] true []) (w2e x0 x1):=(lb (fun k0=>(lr 9 3 [1,1,1,1,0] 1 6 [(4,(.bool x1))] (sl z5w 12 [] ⟨[],[],[some [4]],[]⟩ ⟨[],[],[]⟩ [true] (tt k0 nn)))) (fun k0=>(lr 9 3 [1,1,1,1,0] 1 6 [(4,(.bool false))] (sl z5w 12 [] ⟨[],[],[some [4]],[]⟩ ⟨[],[],[]⟩ [false] (tt k0 nn)))))
theorem j7m (x0:Bool) (x1:Bool) (n:Nat) (vs:List AVal) (h:Yx (v7t x0 x1) n (w2e x0 x1)=.ret vs):Ur prog (Zy prog 133) (Za prog 133 [(.bool x0),(.bool x1)] true []) vs:=by have:=Zc (v7s x0 x1) n _ (w9y x0 x1);rwa [h] at this
inductive cdS where
def cdC (x0:Bool) (x1:Bool):cdS→Cfg
 :=nofun
def v7v (x0:Bool) (x1:Bool):cdS→Xw cdS
 :=nofun
def w2g (x0:Bool) (x1:Bool):Xw cdS:=(bif x0 then (.ret [(.bool (!x1))]) else (.ret [(.bool false)]))
theorem v7u (x0:Bool) (x1:Bool): ∀s,Xu prog (Zy prog 123) (cdC x0 x1) (cdC x0 x1 s) (v7v x0 x1 s)
 :=nofun
theorem w9z (x0:Bool) (x1:Bool):Xu prog (Zy prog 123) (cdC x0 x1) (Za prog 123 [(.bool x0),(.bool x1)] true []) (w2g x0 x1):=(lb (fun k0=>(lr 10 3 [1,1,1,1,0] 1 6 [(4,(.bool (!x1)))] (sl z5w 13 [] ⟨[],[],[some [4]],[]⟩ ⟨[],[],[]⟩ [true,true] (tt k0 nn)))) (fun k0=>(lr 10 3 [1,1,1,1,0] 1 6 [(4,(.bool false))] (sl z5w 13 [] ⟨[],[],[some [4]],[]⟩ ⟨[],[],[]⟩ [false,false] (tt k0 nn)))))
theorem j7n (x0:Bool) (x1:Bool) (n:Nat) (vs:List AVal) (h:Yx (v7v x0 x1) n (w2g x0 x1)=.ret vs):Ur prog (Zy prog 123) (Za prog 123 [(.bool x0),(.bool x1)] true []) vs:=by have:=Zc (v7u x0 x1) n _ (w9z x0 x1);rwa [h] at this
open Go.Sort Go.Shelf Go.RowKit Go.Lib
def w6p (l:List R2) (i:Nat):Bool:=z1e (rd l i)&&(decide (i=0)||decide ((rd l (i - 1)).b <(rd l i).a))
def y9l (l:List R2):Int:=bif decide (400<l.length) then 4 else bif (List.range l.length).all (w6p l) then 0 else 8
def z4n (l:List R2):Bool:=true
theorem u6x (l:List R2) (hl:l.length≤400): ∀(k i:Nat),i+k=l.length→(∀j,j<i→w6p l j=true)→ ∃n,Yx (z4m l) n (.to (.h0 (i:Int)))=.ret [.int .i64 (bif (List.range l.length).all (w6p l) then 0 else 8)]
 | 0,i,h,ht=>by
  have hv:(List.range l.length).all (w6p l)=true:=At.2 fun j hj=>ht j (by grind);refine ⟨1,?_⟩
  grind [Zw,z4m,Zp]
 | k +1,i,h,ht=>by
  have hi:i<l.length:=by omega
  have hlt:decide ((i:Int)<(l.length:Int))=true:=An (by omega);have hin:decide (0≤(i:Int)∧(i:Int)<(l.length:Int))=true:=An (by omega);have step:z4m l (.h0 (i:Int))=bif w6p l i then .to (.h0 ((i+1:Nat):Int)) else .ret [.int .i64 8]:=by
   unfold w6p z1e;by_cases hi0:i=0
   ·simp_all [z4m,Zk,y0y]
   ·have g1:decide ((i:Int)>0)=true:=An (by omega);have g2:wrap .i64 ((i:Int) - 1)=((i - 1:Nat):Int):=by rw [Zk (by omega)];omega
    have g3:decide (0≤((i - 1:Nat):Int)∧((i - 1:Nat):Int)<(l.length:Int))=true:=An (by omega);have g4:decide ((rd l (i - 1)).b ≥(rd l i).a)= !decide ((rd l (i - 1)).b <(rd l i).a):=by
     grind
    rw [Ay hi0];simp (disch:=omega) only [z4m,hlt,hin,g1,g2,g3,g4,Zk,Zx,Zj,y0y,y7d,Bool.false_or,Ah,Ae,Ac]
  rcases Yk (w6p l i) with q | q
  ·obtain ⟨n,hn⟩:=u6x l hl k (i+1) (by omega) (fun j hj=>by
    grind)
   refine ⟨n+1,?_⟩
   grind [Zw]
  ·have hv:(List.range l.length).all (w6p l)=false:=A1.2 fun e=>by
    grind
   refine ⟨1,?_⟩
   grind [Zw,Zp]
theorem j2d (l:List R2) (h:z4n l=true): ∃n,Yx (z4m l) n (y3e l)=.ret [.int .i64 (y9l l)]:=by
 unfold y3e y9l;by_cases h:400<l.length
 ·refine ⟨0,?_⟩;rw [An h,Xy (show (l.length:Int)>400 by omega)];rfl
 ·obtain ⟨n,hn⟩:=u6x l (by omega) l.length 0 (Af _) (fun j hj=>absurd hj (AH _))
  grind
inductive Op where
 | u | e | d
abbrev Op.k :Op→Nat
 | .u =>0
 | .e =>1
 | .d =>2
abbrev nC :Op→Nat
 | .u =>nSpU1
 | .e =>nSpE1
 | .d =>nSpD1
abbrev nSp :Op→Nat
 | .u =>nSpU
 | .e =>nSpE
 | .d =>nSpD
abbrev nRg :Op→Nat
 | .u =>nRgU
 | .e =>nRgE
 | .d =>nRgD
abbrev nSl :Op→Nat
 | .u =>nSlU
 | .e =>nSlE
 | .d =>nSlD
def cV (q:Op) (a b:Bool):Bool:=opB q.k a b
theorem cu_run (a b:Bool): ∃N,Yx (v7i a b) N (w1z a b)=.ret [.bool (cV .u a b)]:=⟨0,by cases a <;> cases b <;> rfl⟩
theorem ce_run (a b:Bool): ∃N,Yx (v7t a b) N (w2e a b)=.ret [.bool (cV .e a b)]:=⟨0,by cases a <;> cases b <;> rfl⟩
theorem cd_run (a b:Bool): ∃N,Yx (v7v a b) N (w2g a b)=.ret [.bool (cV .d a b)]:=⟨0,by cases a <;> cases b <;> rfl⟩
theorem x1s (l:List R2):y9l l=0↔l.length≤400∧l.all z1e=true∧Can l:=by
 unfold y9l;constructor
 ·intro h;by_cases h1:400<l.length
  ·grind
  ·rw [Ay h1,Ac] at h;cases hq:(List.range l.length).all (w6p l) with
   | false=>grind
   | true=>
    have hq:=fun i hi=>At.1 hq i (A3.2 hi);have hv: ∀i,i<l.length→z1e (rd l i)=true:=fun i hi=>by
     grind [w6p]
    have hp: ∀i,i<l.length→(rd l i).a <(rd l i).b :=fun i hi=>by
     grind [z1e]
    have hs: ∀i,i+1<l.length→(rd l i).b <(rd l (i+1)).a :=fun i hi=>by
     grind [w6p]
    refine ⟨by omega,At.2 fun s hs=> ?_,⟨fun s hs=> ?_,?_⟩⟩
    ·obtain ⟨i,hi,rfl⟩:=AK hs;rw [←Yo hi];exact hv i hi
    ·obtain ⟨i,hi,rfl⟩:=AK hs;rw [←Yo hi];exact hp i hi
    ·refine AY.2 fun i j hi hj hij=> ?_;rw [←Yo hi,←Yo hj];clear hi
     induction j with
     | zero=>omega
     | succ j ih=>
      grind
 ·rintro ⟨h1,h2,h3⟩;rw [Ay (by omega),Ac];have:(List.range l.length).all (w6p l)=true:=At.2 fun i hi=>by
   have hi:=A3.1 hi;unfold w6p;rw [At.1 h2 (rd l i) (by grind [Yo]),Ak,Br];by_cases h0:i=0
   ·grind
   ·refine .inr (An ?_);have:=AY.1 h3.sep (i - 1) i (by omega) hi (by omega);rwa [←Yo,←Yo] at this
  grind
def fSch :List AVal→Option (AVal×Bool)
 | [a0]=>match asL R2 a0 with
  | some (L0,g0,n0)=>some (.int .i64 (y9l L0),isT R2 n0 g0&&(z4n L0))
  | _=>none
 | _=>none
theorem j5s {S:Specs} (hS:Zu prog S):Zu prog (S.with w4j fSch):=by
 refine Qi hS (by kernel_rfl) fun args v h=> ?_;unfold fSch at h;split at h
 ·rename_i a0;split at h
  ·rename_i L0 g0 n0 e0;simp only [Ab,Aa,Ad] at h;obtain ⟨rfl,ho0,hw⟩:=h;obtain ⟨N,hN⟩:=j2d L0 hw;exact ⟨_,_,(.cons (Yi e0 ho0) .nil),rfl,u0d L0 N _ hN,3,rfl⟩
  ·cases h
 ·cases h
def fCu :List AVal→Option (AVal×Bool)
 | [.bool b0,.bool b1]=>some (.bool (cV .u b0 b1),true)
 | _=>none
theorem fCu_ok {S:Specs} (hS:Zu prog S):Zu prog (S.with (nC .u) fCu):=by
 refine Qi hS (by kernel_rfl) fun args v h=> ?_;unfold fCu at h;split at h
 ·rename_i b0 b1;simp only [Ab,Aa,Bd] at h;subst h;obtain ⟨N,hN⟩:=cu_run b0 b1;exact ⟨_,_,(.cons (.refl _) (.cons (.refl _) .nil)),rfl,j7i b0 b1 N _ hN,3,rfl⟩
 ·cases h
def fCe :List AVal→Option (AVal×Bool)
 | [.bool b0,.bool b1]=>some (.bool (cV .e b0 b1),true)
 | _=>none
theorem fCe_ok {S:Specs} (hS:Zu prog S):Zu prog (S.with (nC .e) fCe):=by
 refine Qi hS (by kernel_rfl) fun args v h=> ?_;unfold fCe at h;split at h
 ·rename_i b0 b1;simp only [Ab,Aa,Bd] at h;subst h;obtain ⟨N,hN⟩:=ce_run b0 b1;exact ⟨_,_,(.cons (.refl _) (.cons (.refl _) .nil)),rfl,j7m b0 b1 N _ hN,3,rfl⟩
 ·cases h
def fCd :List AVal→Option (AVal×Bool)
 | [.bool b0,.bool b1]=>some (.bool (cV .d b0 b1),true)
 | _=>none
theorem fCd_ok {S:Specs} (hS:Zu prog S):Zu prog (S.with (nC .d) fCd):=by
 refine Qi hS (by kernel_rfl) fun args v h=> ?_;unfold fCd at h;split at h
 ·rename_i b0 b1;simp only [Ab,Aa,Bd] at h;subst h;obtain ⟨N,hN⟩:=cd_run b0 b1;exact ⟨_,_,(.cons (.refl _) (.cons (.refl _) .nil)),rfl,j7n b0 b1 N _ hN,3,rfl⟩
 ·cases h
def Ua :Specs:=((((T9.with w4j fSch).with (nC .u) fCu).with (nC .e) fCe).with (nC .d) fCd)
theorem z2x :Zu prog Ua:=(fCd_ok (fCe_ok (fCu_ok (j5s z5w))))
inductive spjS where
 | h0 (v3:List R3) (v17:Int)
 | h1 (v3:List R3) (v17:Int)
 | h2 (v5:List R3) (v6:Int) (v7:Int) (aC:Int) (bM:Int) (aW:Int) (aJ:Bool) (aA:List R2)
abbrev Ug (aA:List R2) (aW:Int) (v5:List R3) (v7:Int):=(aA++[(R2.mk aW (rd v5 (0+(tn v7))).a)])
def v2a (l0:List R2) (l1:List R2) (q:Op):AFr:=⟨⟨29,0,true⟩,(Vj prog 122 [1,1,1,0] 3),(Zb prog 122 [1,1,1,0] 1),none,(Zy prog 10),Yg [(21,(.dat l0.length (Zz l0))),(22,(.dat l1.length (Zz l1))),(23,(.fn (nC q) []))]⟩
abbrev y1n (aA:List R2) (aW:Int) (v5:List R3) (v7:Int):=(Yy (Zz aA) 0 aA.length 2 [(ii aW),(ii (rd v5 (0+(tn v7))).a)])
def v1z (q:Op) (l0:List R2) (l1:List R2):AFr:=⟨⟨11,0,true⟩,(Vj prog (nSp q) [1,0] 2),(Zb prog (nSp q) [1,0] 1),none,(Zy prog 16),Yg [(6,(.dat l0.length (Zz l0))),(7,(.dat l1.length (Zz l1)))]⟩
def u5u :AFr:=⟨⟨42,0,true⟩,(Vj prog 161 [1,1,1,1,1,0,0] 3),(Zb prog 161 [1,1,1,1,1,0,0] 1),none,(Zy prog 3),Yg [(5,(.ptr 1 0)),(6,.nils),(7,(.ptr 2 0)),(8,(.ptr 3 0)),(9,(.ptr 4 0)),(10,(.ptr 5 0)),(11,(.ptr 6 0)),(16,(.sl 0 0 2 (.un 1)))]⟩
abbrev y8t (v3:List R3) (l0:List R2) (v17:Int):=(v3++[(R3.mk (rd l0 (tn v17)).a 0 1),(R3.mk (rd l0 (tn v17)).b 0 (-1))])
abbrev y8s (v3:List R3) (l1:List R2) (v17:Int):=(v3++[(R3.mk (rd l1 (tn v17)).a 1 1),(R3.mk (rd l1 (tn v17)).b 1 (-1))])
def spjC (q:Op) (l0:List R2) (l1:List R2):spjS→Cfg
 | .h0 v3 v17=>⟨⟨38,0,true⟩,none,(Zb prog 184 [1,1,0,1,0,0,1,1,0,0,1,1,0,0] 0),none,(Zy prog 9),⟨Yg [(3,(.sla 7 3 0 v3.length (.un 3))),(4,(ii 0)),(8,(.sl 0 0 2 (.un 1))),(9,(ii 2)),(10,(ii 0)),(15,(.dat l0.length (Zz l0))),(16,(ii (l0.length:Int))),(17,(ii v17))],Wt [⟨[(.dat l0.length (Zz l0)),(.dat l1.length (Zz l1))],155,none⟩,⟨[(.fn (nC q) [])],167,none⟩,⟨[(ii 0),(ii 0)],222,none⟩,⟨[.nils],155,none⟩,⟨[(ii 0)],3,none⟩,⟨[(.bool false)],4,none⟩,⟨[(.fn 183 [(.ptr 5 0),(.ptr 4 0),(.ptr 3 0)])],223,none⟩,⟨Ym v3.length (Zz v3),227,some ⟨3,v3.length,(Zz v3)⟩⟩] 0,8,[],true⟩,[u5u,(v2a l0 l1 q),(v1z q l0 l1)],.leaf⟩
 | .h1 v3 v17=>⟨⟨38,0,true⟩,none,(Zb prog 184 [1,1,0,1,0,0,1,1,0,0,1,1,0,0] 0),none,(Zy prog 9),⟨Yg [(3,(.sla 7 3 0 v3.length (.un 3))),(4,(ii 1)),(8,(.sl 0 0 2 (.un 1))),(9,(ii 2)),(10,(ii 1)),(15,(.dat l1.length (Zz l1))),(16,(ii (l1.length:Int))),(17,(ii v17))],Wt [⟨[(.dat l0.length (Zz l0)),(.dat l1.length (Zz l1))],155,none⟩,⟨[(.fn (nC q) [])],167,none⟩,⟨[(ii 0),(ii 0)],222,none⟩,⟨[.nils],155,none⟩,⟨[(ii 0)],3,none⟩,⟨[(.bool false)],4,none⟩,⟨[(.fn 183 [(.ptr 5 0),(.ptr 4 0),(.ptr 3 0)])],223,none⟩,⟨Ym v3.length (Zz v3),227,some ⟨3,v3.length,(Zz v3)⟩⟩] 0,8,[],true⟩,[u5u,(v2a l0 l1 q),(v1z q l0 l1)],.leaf⟩
 | .h2 v5 v6 v7 aC bM aW aJ aA=>⟨⟨16,0,true⟩,none,(Zb prog 198 [1,0,0] 0),none,[],⟨Yg [(0,(.yld 0)),(5,(.sla 7 3 0 v5.length (.un 3))),(6,(ii v6)),(7,(ii v7))],z7i [(1,⟨[(.fn (nC q) [])],167,none⟩),(2,⟨[(ii aC),(ii bM)],222,none⟩),(3,⟨[(ii aW)],3,none⟩),(4,⟨[(.bool aJ)],4,none⟩),(5,⟨[(.fn 183 [(.ptr 4 0),(.ptr 3 0),(.ptr 6 0)])],223,none⟩),(6,⟨[(.sla 8 2 0 aA.length (.un 2))],155,none⟩),(7,⟨Ym v5.length (Zz v5),227,some ⟨3,v5.length,(Zz v5)⟩⟩),(8,⟨Ym aA.length (Zz aA),176,some ⟨2,aA.length,(Zz aA)⟩⟩)],9,[],true⟩,[⟨⟨42,0,true⟩,none,(.inRangeFunc 0::(Zb prog 161 [1,1,1,1,1,0,1,0] 1)),none,(Zy prog 3),Yg [(6,.nils),(8,(.ptr 6 0))]⟩,(v2a l0 l1 q),(v1z q l0 l1)],(y4a [(0,⟨.ready,none,42,Yg [(5,(.ptr 1 0)),(7,(.ptr 2 0)),(9,(.ptr 3 0)),(10,(.ptr 4 0)),(11,(.ptr 5 0))],[18],(Wo prog 161 [1,1,1,1,1,0,1,0,0]),(Wo prog 161 [1,1,1,1,1,0,1,0,1])⟩)])⟩
def spjN0 :List (Option (List Nat)):=[some [3,4,8,9,10,15,16,17],some [5,6,7,8,9,10,11,16],some [21,22,23],some [6,7]]
def spjM0 :List (Option (List Nat)):=[]
def spjN1 :List (Option (List Nat)):=[some [3,4,8,9,10,15,16,17],some [5,6,7,8,9,10,11,16],some [21,22,23],some [6,7]]
def spjM1 :List (Option (List Nat)):=[]
def y5g :List (Option (List Nat)):=[some [0,5,6,7],some [6,8],some [21,22,23],some [6,7]]
def y5h :List (Option (List Nat)):=[some [5,7,9,10,11],none,none,none,none,none,none,none,none]
def Wq (q:Op) (l0:List R2) (l1:List R2):spjS→Xw spjS
 | .h0 v3 v17=>(bif (decide (v17<(l0.length:Int))) then (bif ((decide (0≤v17∧v17<(l0.length:Int)))&&true) then (bif (Nat.beq 3 3&&((decide (0+v3.length=v3.length))&&decide ((v3.length+2+1)*(24+1)≤Kj))) then (.to (.h0 (v3++[(R3.mk (rd l0 v17.toNat).a 0 1),(R3.mk (rd l0 v17.toNat).b 0 (-1))]) (wrap .i64 (v17+1)))) else .stuck) else .stuck) else (.to (.h1 v3 0)))
 | .h1 v3 v17=>(bif (decide (v17<(l1.length:Int))) then (bif ((decide (0≤v17∧v17<(l1.length:Int)))&&true) then (bif (Nat.beq 3 3&&((decide (0+v3.length=v3.length))&&decide ((v3.length+2+1)*(24+1)≤Kj))) then (.to (.h1 (v3++[(R3.mk (rd l1 v17.toNat).a 1 1),(R3.mk (rd l1 v17.toNat).b 1 (-1))]) (wrap .i64 (v17+1)))) else .stuck) else .stuck) else (bif (y2j (cvT v3)) then (bif (decide (v3.length<4611686018427387904)) then (bif (decide (v3.length=v3.length)) then (.to (.h2 (z1y (cvT v3)) (v3.length:Int) 0 0 0 0 false ([]:List R2))) else .stuck) else .stuck) else .stuck))
 | .h2 v5 v6 v7 aC bM aW aJ aA=>(bif (decide (v7<v6)) then (bif ((decide (0≤v7∧v7<(v5.length:Int)))&&true) then (bif (decide ((0+v7.toNat)<v5.length)) then (bif (!aJ) then (bif (decide ((rd v5 (0+v7.toNat)).b =Int.ofNat 0)) then (.to (.h2 v5 v6 (wrap .i64 (v7+1)) (wrap .i64 (aC+(rd v5 (0+v7.toNat)).c)) bM (rd v5 (0+v7.toNat)).a ((cV q) (decide ((wrap .i64 (aC+(rd v5 (0+v7.toNat)).c))>0)) (decide (bM>0))) aA)) else (bif (decide ((rd v5 (0+v7.toNat)).b =Int.ofNat 1)) then (.to (.h2 v5 v6 (wrap .i64 (v7+1)) aC (wrap .i64 (bM+(rd v5 (0+v7.toNat)).c)) (rd v5 (0+v7.toNat)).a ((cV q) (decide (aC>0)) (decide ((wrap .i64 (bM+(rd v5 (0+v7.toNat)).c))>0))) aA)) else .stuck)) else (bif (aW == (rd v5 (0+v7.toNat)).a) then (bif (decide ((rd v5 (0+v7.toNat)).b =Int.ofNat 0)) then (.to (.h2 v5 v6 (wrap .i64 (v7+1)) (wrap .i64 (aC+(rd v5 (0+v7.toNat)).c)) bM (rd v5 (0+v7.toNat)).a ((cV q) (decide ((wrap .i64 (aC+(rd v5 (0+v7.toNat)).c))>0)) (decide (bM>0))) aA)) else (bif (decide ((rd v5 (0+v7.toNat)).b =Int.ofNat 1)) then (.to (.h2 v5 v6 (wrap .i64 (v7+1)) aC (wrap .i64 (bM+(rd v5 (0+v7.toNat)).c)) (rd v5 (0+v7.toNat)).a ((cV q) (decide (aC>0)) (decide ((wrap .i64 (bM+(rd v5 (0+v7.toNat)).c))>0))) aA)) else .stuck)) else (bif (decide ((aA.length:Int)>0)) then (bif ((decide (0≤(wrap .i64 ((aA.length:Int) - 1))∧(wrap .i64 ((aA.length:Int) - 1))<(aA.length:Int)))&&true) then (bif (decide ((0+(Int.toNat (wrap .i64 ((aA.length:Int) - 1))))<aA.length)) then (bif ((rd aA (0+(Int.toNat (wrap .i64 ((aA.length:Int) - 1))))).b == aW) then (bif (decide ((rd v5 (0+v7.toNat)).b =Int.ofNat 0)) then (.to (.h2 v5 v6 (wrap .i64 (v7+1)) (wrap .i64 (aC+(rd v5 (0+v7.toNat)).c)) bM (rd v5 (0+v7.toNat)).a ((cV q) (decide ((wrap .i64 (aC+(rd v5 (0+v7.toNat)).c))>0)) (decide (bM>0))) (aA.set (0+(Int.toNat (wrap .i64 ((aA.length:Int) - 1)))) (R2.mk (rd aA (0+(Int.toNat (wrap .i64 ((aA.length:Int) - 1))))).a (rd v5 (0+v7.toNat)).a)))) else (bif (decide ((rd v5 (0+v7.toNat)).b =Int.ofNat 1)) then (.to (.h2 v5 v6 (wrap .i64 (v7+1)) aC (wrap .i64 (bM+(rd v5 (0+v7.toNat)).c)) (rd v5 (0+v7.toNat)).a ((cV q) (decide (aC>0)) (decide ((wrap .i64 (bM+(rd v5 (0+v7.toNat)).c))>0))) (aA.set (0+(Int.toNat (wrap .i64 ((aA.length:Int) - 1)))) (R2.mk (rd aA (0+(Int.toNat (wrap .i64 ((aA.length:Int) - 1))))).a (rd v5 (0+v7.toNat)).a)))) else .stuck)) else (bif (Nat.beq 2 2&&((decide (0+aA.length=aA.length))&&decide ((aA.length+1+1)*(16+1)≤Kj))) then (bif (decide ((rd v5 (0+v7.toNat)).b =Int.ofNat 0)) then (.to (.h2 v5 v6 (wrap .i64 (v7+1)) (wrap .i64 (aC+(rd v5 (0+v7.toNat)).c)) bM (rd v5 (0+v7.toNat)).a ((cV q) (decide ((wrap .i64 (aC+(rd v5 (0+v7.toNat)).c))>0)) (decide (bM>0))) (aA++[(R2.mk aW (rd v5 (0+v7.toNat)).a)]))) else (bif (decide ((rd v5 (0+v7.toNat)).b =Int.ofNat 1)) then (.to (.h2 v5 v6 (wrap .i64 (v7+1)) aC (wrap .i64 (bM+(rd v5 (0+v7.toNat)).c)) (rd v5 (0+v7.toNat)).a ((cV q) (decide (aC>0)) (decide ((wrap .i64 (bM+(rd v5 (0+v7.toNat)).c))>0))) (aA++[(R2.mk aW (rd v5 (0+v7.toNat)).a)]))) else .stuck)) else .stuck)) else .stuck) else .stuck) else (bif (Nat.beq 2 2&&((decide (0+aA.length=aA.length))&&decide ((aA.length+1+1)*(16+1)≤Kj))) then (bif (decide ((rd v5 (0+v7.toNat)).b =Int.ofNat 0)) then (.to (.h2 v5 v6 (wrap .i64 (v7+1)) (wrap .i64 (aC+(rd v5 (0+v7.toNat)).c)) bM (rd v5 (0+v7.toNat)).a ((cV q) (decide ((wrap .i64 (aC+(rd v5 (0+v7.toNat)).c))>0)) (decide (bM>0))) (aA++[(R2.mk aW (rd v5 (0+v7.toNat)).a)]))) else (bif (decide ((rd v5 (0+v7.toNat)).b =Int.ofNat 1)) then (.to (.h2 v5 v6 (wrap .i64 (v7+1)) aC (wrap .i64 (bM+(rd v5 (0+v7.toNat)).c)) (rd v5 (0+v7.toNat)).a ((cV q) (decide (aC>0)) (decide ((wrap .i64 (bM+(rd v5 (0+v7.toNat)).c))>0))) (aA++[(R2.mk aW (rd v5 (0+v7.toNat)).a)]))) else .stuck)) else .stuck)))) else .stuck) else .stuck) else (bif (decide ((aA.length:Int)>400)) then (.ret [.nils,(.int .i64 4)]) else (.ret [(.dat aA.length (Zz aA)),(.int .i64 0)])))
def y2x (q:Op) (l0:List R2) (l1:List R2):Xw spjS:=(bif (z4n (cvT l0)) then (bif ((y9l (cvT l0)) != 0) then (.ret [.nils,(.int .i64 (y9l (cvT l0)))]) else (bif (z4n (cvT l1)) then (bif ((y9l (cvT l1)) != 0) then (.ret [.nils,(.int .i64 (y9l (cvT l1)))]) else (.to (.h0 ([]:List R3) 0))) else .stuck)) else .stuck)
theorem w6n (q:Op) (l0:List R2) (l1:List R2): ∀s,Xu prog (Zy prog (nSp q)) (spjC q l0 l1) (spjC q l0 l1 s) (Wq q l0 l1 s):=by cases q <;> refine (?f: ∀q:Op,∀s,Xu prog (Zy prog (nSp q)) (spjC q l0 l1) (spjC q l0 l1 s) (Wq q l0 l1 s)) _ <;> exact fun q=>fun
 | .h0 v3 v17=>(lb (fun k0=>(lo fun o0=>(lo fun o1=>(sl z2x 36 [] ⟨[0,1,2,3,4,5,6,10],[],spjN0,spjM0⟩ ⟨[(3,.len (y8t v3 l0 v17).length)],(kpB 7 [.rowed 3 (y8t v3 l0 v17).length (Zz (y8t v3 l0 v17))]),[]⟩ [true] (pp (xL (v3.length+2) (y8t v3 l0 v17).length) (pp (xL (v3.length+2) (y8t v3 l0 v17).length) (pp (xS (v3.length+2) (Yy (Zz v3) 0 v3.length 3 [(ii (rd l0 (tn v17)).a),(ii 0),(ii 1),(ii (rd l0 (tn v17)).b),(ii 0),(ii (-1))]) (Zz (y8t v3 l0 v17))) (pp (pp (xF (Yy (Zz v3) 0 v3.length 3 [(ii (rd l0 (tn v17)).a),(ii 0),(ii 1),(ii (rd l0 (tn v17)).b),(ii 0),(ii (-1))])) nn) (ww o1 (ww o0 (tt k0 nn))))))))))) (fun k0=>(sl z2x 38 [] ⟨(List.range 8),[],spjN1,spjM1⟩ ⟨[],[],[]⟩ (bl 2 2) (pp (fl v3 nn) (tt k0 nn)))))
 | .h1 v3 v17=>(lb (fun k0=>(lo fun o0=>(lo fun o1=>(sl z2x 36 [] ⟨[0,1,2,3,4,5,6,10],[],spjN1,spjM1⟩ ⟨[(3,.len (y8s v3 l1 v17).length)],(kpB 7 [.rowed 3 (y8s v3 l1 v17).length (Zz (y8s v3 l1 v17))]),[]⟩ [true] (pp (xL (v3.length+2) (y8s v3 l1 v17).length) (pp (xL (v3.length+2) (y8s v3 l1 v17).length) (pp (xS (v3.length+2) (Yy (Zz v3) 0 v3.length 3 [(ii (rd l1 (tn v17)).a),(ii 1),(ii 1),(ii (rd l1 (tn v17)).b),(ii 1),(ii (-1))]) (Zz (y8s v3 l1 v17))) (pp (pp (xF (Yy (Zz v3) 0 v3.length 3 [(ii (rd l1 (tn v17)).a),(ii 1),(ii 1),(ii (rd l1 (tn v17)).b),(ii 1),(ii (-1))])) nn) (ww o1 (ww o0 (tt k0 nn))))))))))) (fun k0=>(lo fun o0=>(lo fun o1=>(lo fun o2=>(sl z2x 54 [(176,2,Zz ([]:List R2))] ⟨[9,1,2,4,5,6,3,7,10],[],y5g,y5h⟩ ⟨[(5,.len (z1y (cvT v3)).length)],(kpB 6 [.cells [.grow 8 2],.rowed 3 (z1y (cvT v3)).length (Zz (z1y (cvT v3))),.keep]),[]⟩ (bl 2 0) (pp (xL v3.length (z1y (cvT v3)).length (by first | exact z8q _ | exact Un rfl)) (pp (xL v3.length (z1y (cvT v3)).length (by first | exact z8q _ | exact Un rfl)) (pp (xS v3.length (Zz (z1y (cvT v3))) (Zz (z1y (cvT v3)))) (pp (fl (z1y (cvT v3)) (fl ([]:List R2) nn)) (pp (pp (xG (Nat.beq 3 3)) (pp (xG (Nat.beq 3 3)) (pp (xG (Nat.beq 0 0)) (pp (pp (xG (decide (v3.length=v3.length))) (pp (xr v3) (xG (decide (v3.length<4611686018427387904))))) (xG (y2j (cvT v3))))))) (tt k0 nn))))))))))))
 | .h2 v5 v6 v7 aC bM aW aJ aA=>(lb (fun k0=>(lo fun aE=>(lo fun bE=>(lb (fun k1=>(lb (fun k2=>(sl z2x 62 [] ⟨(List.range 9),[],y5g,y5h⟩ ⟨[],[],[]⟩ (trs 5 (bl 3 0)) (pp (fl v5 (fl aA nn)) (ww k2 (tt k1 (ww bE (ww aE (tt k0 nn)))))))) (fun k2=>(lb (fun k3=>(sl z2x 62 [] ⟨(List.range 9),[],y5g,y5h⟩ ⟨[],[],[]⟩ (trs 6 (bl 4 2)) (pp (fl v5 (fl aA nn)) (ww k3 (tt k1 (ww bE (ww aE (tt k0 nn)))))))) (fun k3=>trivial))))) (fun k1=>(lb (fun k2=>(lb (fun k3=>(sl z2x 62 [] ⟨(List.range 9),[],y5g,y5h⟩ ⟨[],[],[]⟩ (bl 8 17) (pp (fl v5 (fl aA nn)) (ww k3 (tt k2 (tt k1 (ww bE (ww aE (tt k0 nn))))))))) (fun k3=>(lb (fun k4=>(sl z2x 62 [] ⟨(List.range 9),[],y5g,y5h⟩ ⟨[],[],[]⟩ (bl 10 177) (pp (fl v5 (fl aA nn)) (ww k4 (tt k2 (tt k1 (ww bE (ww aE (tt k0 nn))))))))) (fun k4=>trivial))))) (fun k2=>(lb (fun k3=>(lo fun cD=>(lo fun dL=>(lb (fun k4=>(lb (fun k5=>(sl z2x 81 [] ⟨(List.range 9),[],y5g,y5h⟩ ⟨[],(kpB 6 [.cells [.len (aA.set (0+(tn (wr ((aA.length:Int) - 1)))) (R2.mk (rd aA (0+(tn (wr ((aA.length:Int) - 1))))).a (rd v5 (0+(tn v7))).a)).length],.keep,.rowed 2 (aA.set (0+(tn (wr ((aA.length:Int) - 1)))) (R2.mk (rd aA (0+(tn (wr ((aA.length:Int) - 1))))).a (rd v5 (0+(tn v7))).a)).length (Zz (aA.set (0+(tn (wr ((aA.length:Int) - 1)))) (R2.mk (rd aA (0+(tn (wr ((aA.length:Int) - 1))))).a (rd v5 (0+(tn v7))).a)))]),[]⟩ (bl 17 16353) (pp (xL aA.length (aA.set (0+(tn (wr ((aA.length:Int) - 1)))) (R2.mk (rd aA (0+(tn (wr ((aA.length:Int) - 1))))).a (rd v5 (0+(tn v7))).a)).length) (pp (xL aA.length (aA.set (0+(tn (wr ((aA.length:Int) - 1)))) (R2.mk (rd aA (0+(tn (wr ((aA.length:Int) - 1))))).a (rd v5 (0+(tn v7))).a)).length) (pp (xS aA.length (Xh (Zz aA) (0+(tn (wr ((aA.length:Int) - 1)))) 1 [(ii (rd v5 (0+(tn v7))).a)]) (Zz (aA.set (0+(tn (wr ((aA.length:Int) - 1)))) (R2.mk (rd aA (0+(tn (wr ((aA.length:Int) - 1))))).a (rd v5 (0+(tn v7))).a)))) (pp (fl v5 (pp (xF (Xh (Zz aA) (0+(tn (wr ((aA.length:Int) - 1)))) 1 [(ii (rd v5 (0+(tn v7))).a)])) nn)) (ww k5 (ww dL (ww cD (tt k4 (ww dL (ww cD (tt k3 (tt k2 (tt k1 (ww bE (ww aE (tt k0 nn)))))))))))))))))) (fun k5=>(lb (fun k6=>(sl z2x 81 [] ⟨(List.range 9),[],y5g,y5h⟩ ⟨[],(kpB 6 [.cells [.len (aA.set (0+(tn (wr ((aA.length:Int) - 1)))) (R2.mk (rd aA (0+(tn (wr ((aA.length:Int) - 1))))).a (rd v5 (0+(tn v7))).a)).length],.keep,.rowed 2 (aA.set (0+(tn (wr ((aA.length:Int) - 1)))) (R2.mk (rd aA (0+(tn (wr ((aA.length:Int) - 1))))).a (rd v5 (0+(tn v7))).a)).length (Zz (aA.set (0+(tn (wr ((aA.length:Int) - 1)))) (R2.mk (rd aA (0+(tn (wr ((aA.length:Int) - 1))))).a (rd v5 (0+(tn v7))).a)))]),[]⟩ (bl 19 98273) (pp (xL aA.length (aA.set (0+(tn (wr ((aA.length:Int) - 1)))) (R2.mk (rd aA (0+(tn (wr ((aA.length:Int) - 1))))).a (rd v5 (0+(tn v7))).a)).length) (pp (xL aA.length (aA.set (0+(tn (wr ((aA.length:Int) - 1)))) (R2.mk (rd aA (0+(tn (wr ((aA.length:Int) - 1))))).a (rd v5 (0+(tn v7))).a)).length) (pp (xS aA.length (Xh (Zz aA) (0+(tn (wr ((aA.length:Int) - 1)))) 1 [(ii (rd v5 (0+(tn v7))).a)]) (Zz (aA.set (0+(tn (wr ((aA.length:Int) - 1)))) (R2.mk (rd aA (0+(tn (wr ((aA.length:Int) - 1))))).a (rd v5 (0+(tn v7))).a)))) (pp (fl v5 (pp (xF (Xh (Zz aA) (0+(tn (wr ((aA.length:Int) - 1)))) 1 [(ii (rd v5 (0+(tn v7))).a)])) nn)) (ww k6 (ww dL (ww cD (tt k4 (ww dL (ww cD (tt k3 (tt k2 (tt k1 (ww bE (ww aE (tt k0 nn)))))))))))))))))) (fun k6=>trivial))))) (fun k4=>(lo fun cZ=>(lb (fun k5=>(sl z2x 81 [] ⟨[0,1,2,3,4,5,6,7,12],[],y5g,y5h⟩ ⟨[],(kpB 6 [.cells [.len (Ug aA aW v5 v7).length],.keep,.rowed 2 (Ug aA aW v5 v7).length (Zz (Ug aA aW v5 v7))]),[]⟩ (bl 17 8161) (pp (xL (aA.length+1) (Ug aA aW v5 v7).length) (pp (xL (aA.length+1) (Ug aA aW v5 v7).length) (pp (xS (aA.length+1) (y1n aA aW v5 v7) (Zz (Ug aA aW v5 v7))) (pp (fl v5 (pp (xF (y1n aA aW v5 v7)) nn)) (ww k5 (ww cZ (tt k4 (ww dL (ww cD (tt k3 (tt k2 (tt k1 (ww bE (ww aE (tt k0 nn))))))))))))))))) (fun k5=>(lb (fun k6=>(sl z2x 81 [] ⟨[0,1,2,3,4,5,6,7,12],[],y5g,y5h⟩ ⟨[],(kpB 6 [.cells [.len (Ug aA aW v5 v7).length],.keep,.rowed 2 (Ug aA aW v5 v7).length (Zz (Ug aA aW v5 v7))]),[]⟩ (bl 19 90081) (pp (xL (aA.length+1) (Ug aA aW v5 v7).length) (pp (xL (aA.length+1) (Ug aA aW v5 v7).length) (pp (xS (aA.length+1) (y1n aA aW v5 v7) (Zz (Ug aA aW v5 v7))) (pp (fl v5 (pp (xF (y1n aA aW v5 v7)) nn)) (ww k6 (ww cZ (tt k4 (ww dL (ww cD (tt k3 (tt k2 (tt k1 (ww bE (ww aE (tt k0 nn))))))))))))))))) (fun k6=>trivial)))))))))) (fun k3=>(lo fun cD=>(lb (fun k4=>(sl z2x 81 [] ⟨[0,1,2,3,4,5,6,7,12],[],y5g,y5h⟩ ⟨[],(kpB 6 [.cells [.len (Ug aA aW v5 v7).length],.keep,.rowed 2 (Ug aA aW v5 v7).length (Zz (Ug aA aW v5 v7))]),[]⟩ (bl 17 1) (pp (xL (aA.length+1) (Ug aA aW v5 v7).length) (pp (xL (aA.length+1) (Ug aA aW v5 v7).length) (pp (xS (aA.length+1) (y1n aA aW v5 v7) (Zz (Ug aA aW v5 v7))) (pp (fl v5 (pp (xF (y1n aA aW v5 v7)) nn)) (ww k4 (ww cD (tt k3 (tt k2 (tt k1 (ww bE (ww aE (tt k0 nn)))))))))))))) (fun k4=>(lb (fun k5=>(sl z2x 81 [] ⟨[0,1,2,3,4,5,6,7,12],[],y5g,y5h⟩ ⟨[],(kpB 6 [.cells [.len (Ug aA aW v5 v7).length],.keep,.rowed 2 (Ug aA aW v5 v7).length (Zz (Ug aA aW v5 v7))]),[]⟩ (bl 19 81921) (pp (xL (aA.length+1) (Ug aA aW v5 v7).length) (pp (xL (aA.length+1) (Ug aA aW v5 v7).length) (pp (xS (aA.length+1) (y1n aA aW v5 v7) (Zz (Ug aA aW v5 v7))) (pp (fl v5 (pp (xF (y1n aA aW v5 v7)) nn)) (ww k5 (ww cD (tt k3 (tt k2 (tt k1 (ww bE (ww aE (tt k0 nn)))))))))))))) (fun k5=>trivial)))))))))))))) (fun k0=>(lb (fun k1=>(lr 11 3 [1,1,1,1,0] 1 16 [(4,.nils),(5,(ii 4))] (sl z2x 37 [] ⟨[],[],[some [4,5]],[]⟩ ⟨[],[],[]⟩ (bl 2 2) (tt k1 (tt k0 nn))))) (fun k1=>(lr 11 3 [1,1,1,1,0] 1 16 [(4,(.dat aA.length (Zz aA))),(5,(ii 0))] (sl z2x 39 [] ⟨[],[8],[some [4,5]],[]⟩ ⟨[(4,.frz aA.length aA.length (Zz aA) (Zz aA))],[],[]⟩ (bl 2 0) (pp (xZ (z7j 2 2 0 aA.length aA.length (Zz aA)) aA.length (Zz aA)) (pp (xL aA.length aA.length) (pp (xS aA.length (Zz aA) (Zz aA)) (pp (fl aA nn) (tt k1 (tt k0 nn))))))))))))
theorem x7t (q:Op) (l0:List R2) (l1:List R2):Xu prog (Zy prog (nSp q)) (spjC q l0 l1) (Za prog (nSp q) [(.dat l0.length (Zz l0)),(.dat l1.length (Zz l1))] true []) (y2x q l0 l1):=by cases q <;> exact (lo fun bN=>(lb (fun k0=>(lr 11 3 [1,1,1,1,0] 1 16 [(4,.nils),(5,(ii (y9l (cvT l0))))] (sl z2x 40 [] ⟨[],[],[some [4,5]],[]⟩ ⟨[],[],[]⟩ [true] (tt k0 (pp (pp (xr l0) (xw bN)) nn))))) (fun k0=>(lo fun aE=>(lb (fun k1=>(lr 11 3 [1,1,1,1,0] 1 16 [(4,.nils),(5,(ii (y9l (cvT l1))))] (sl z2x 54 [] ⟨[],[],[some [4,5]],[]⟩ ⟨[],[],[]⟩ [false,true] (tt k1 (pp (pp (xr l1) (xw aE)) (tt k0 (pp (pp (xr l0) (xw bN)) nn))))))) (fun k1=>(sl z2x 124 [(227,3,Zz ([]:List R3))] ⟨[6,0,1,2,3,4,5,7],[],spjN0,spjM0⟩ ⟨[(3,.grow 7 3)],[],[]⟩ [false,false,true] (pp (fl ([]:List R3) nn) (tt k1 (pp (pp (xr l1) (xw aE)) (tt k0 (pp (pp (xr l0) (xw bN)) nn))))))))))))
theorem v9f (q:Op) (l0:List R2) (l1:List R2) (n:Nat) (vs:List AVal) (h:Yx (Wq q l0 l1) n (y2x q l0 l1)=.ret vs):Ur prog (Zy prog (nSp q)) (Za prog (nSp q) [(.dat l0.length (Zz l0)),(.dat l1.length (Zz l1))] true []) vs:=by have:=Zc (w6n q l0 l1) n _ (x7t q l0 l1);rwa [h] at this
def spE (k:Nat) (a b:List R2):Int:=bif y9l a != 0 then y9l a else bif y9l b != 0 then y9l b else x6c (spJ k a b).length
theorem y1x (i:Int) (l:List R2):(Wa i l).length =2*l.length:=by
 induction l with
 | nil=>rfl
 | cons r l ih=>grind [Wa]
theorem x0u (j:Int) (l:List R2) (i:Nat) (h:i<l.length):Wa j (l.drop i)=Wa j [rd l i]++Wa j (l.drop (i+1)):=by rw [Yq h];rfl
theorem v6x {j:Int} {l:List R2} {e:R3} (h:e∈Wa j l):e.b=j∧(e.c=1∨e.c= -1):=by
 obtain ⟨s,_,h⟩:=AJ.1 h
 grind
theorem w3h (f:Bool→Bool→Bool) (e:R3) (r:List R3) (o p last:Int) (inn:Bool) (out:List R2):sw2 f (e::r) o p last inn out=sw2 f r (bif e.b == 0 then o+e.c else o) (bif e.b == 0 then p else p+e.c) e.a (f (decide ((bif e.b == 0 then o+e.c else o)>0)) (decide ((bif e.b == 0 then p else p+e.c)>0))) (Uy out last inn e.a):=rfl
section
variable (q:Op) (a b:List R2)
theorem u5r (L:List R3) (hL:L.length≤2000) (hE: ∀i,i<L.length→((rd L i).b =0∨(rd L i).b =1)∧((rd L i).c =1∨(rd L i).c = -1)): ∀(k i:Nat) (o p last:Int) (inn:Bool) (out:List R2),i+k=L.length→ -(i:Int)≤o→o≤i→ -(i:Int)≤p→p≤i→out.length≤i→
  ∃n,Yx (Wq q a b) n (.to (.h2 L (L.length:Int) (i:Int) o p last inn out))=.ret (z1t (sw2 (opB q.k) (L.drop i) o p last inn out))
 | 0,i,o,p,last,inn,out,h,ho1,ho2,hp1,hp2,hout=>by
  refine ⟨1,?_⟩;rw [Zw,As (by omega)];unfold z1t;show _=Xw.ret (bif decide ((out.length:Int)>400) then _ else _);rcases Yk (decide ((out.length:Int)>400)) with g | g <;>
  simp (disch:=omega) only [Wq,Yf,g,Ae,Ac,Zp];rfl
 | k + 1,i,o,p,last,inn,out,h,ho1,ho2,hp1,hp2,hout=>by
  obtain ⟨hb,hc⟩:=hE i (by omega);have hcl:=z3p out last inn (rd L i).a;have hcf: ∀x y,cV q x y=opB q.k x y:=fun _ _=>rfl;have hlt:decide ((i:Int)<(L.length:Int))=true:=An (by omega);have hw:wrap .i64 (o+(rd L i).c)=o+(rd L i).c :=Zk (by grind);have hw':wrap .i64 (p+(rd L i).c)=p+(rd L i).c :=Zk (by grind);have key: ∀(o' p':Int) (out':List R2),-((i+1:Nat):Int)≤o'→o'≤((i+1:Nat):Int)→ -((i+1:Nat):Int)≤p'→p'≤((i+1:Nat):Int)→out'=Uy out last inn (rd L i).a →
    Wq q a b (.h2 L (L.length:Int) (i:Int) o p last inn out)=.to (.h2 L (L.length:Int) ((i+1:Nat):Int) o' p' (rd L i).a (opB q.k (decide (o'>0)) (decide (p'>0))) out')→
    sw2 (opB q.k) (L.drop i) o p last inn out=sw2 (opB q.k) (L.drop (i+1)) o' p' (rd L i).a (opB q.k (decide (o'>0)) (decide (p'>0))) out'→
    ∃n,Yx (Wq q a b) n (.to (.h2 L (L.length:Int) (i:Int) o p last inn out))=.ret (z1t (sw2 (opB q.k) (L.drop i) o p last inn out)):=fun o' p' out' b1 b2 b3 b4 eo hs hq=>by
   obtain ⟨n,hn⟩:=u5r L hL hE k (i+1) o' p' (rd L i).a (opB q.k (decide (o'>0)) (decide (p'>0))) out' (by omega) b1 b2 b3 b4 (by grind);refine ⟨n+1,?_⟩;rw [Zw,hs,hq];exact hn
  rcases hb with hb | hb
  ·have hz:decide ((rd L i).b =Int.ofNat 0)=true:=An hb;have hb0:((rd L i).b == 0)=true:=by rw [hb];rfl
   refine key (o+(rd L i).c) p (Uy out last inn (rd L i).a) (by grind) (by grind) (by omega) (by omega) rfl ?_ ?_
   ·unfold Uy;cases inn with
    | false=>simp (disch:=omega) only [Wq,hlt,hz,hw,hw',hcf,Zs,Zt,Yw,Zk,Zx,Zj,Af,Ah,Ae,Ac,AA]
    | true=>
     rcases Yk (last == (rd L i).a) with g | g
     ·simp (disch:=omega) only [Wq,hlt,hz,hw,hw',hcf,Zs,Zt,Yw,Zk,Zx,Zj,Af,Ah,Ae,Ac,Av,g]
     ·by_cases h0:0<out.length
      ·rw [An h0,Ak];rcases Yk ((rd out (out.length - 1)).b == last) with q2 | q2
       ·simp (disch:=omega) only [Wq,hlt,hz,hw,hw',hcf,Zs,Zt,Yw,Zk,Zx,Zj,Af,Ah,Ae,Ac,Av,g,q2,Xy,Zh]
       ·simp (disch:=omega) only [Wq,hlt,hz,hw,hw',hcf,Zs,Zt,Yw,Zk,Zx,Zj,Af,Ah,Ae,Ac,Av,Ak,g,q2,Xy,Zh,Yu,Zf,Yc,Ao]
      ·rw [Ay h0,Be];simp (disch:=omega) only [Wq,hlt,hz,hw,hw',hcf,Zs,Zt,Yw,Zk,Zx,Zj,Af,Ah,Ae,Ac,Av,Ak,g,Xt,Yu,Zf,Yc,Ao]
   simp_all [Yq,w3h]
  ·have hz0:decide ((rd L i).b =Int.ofNat 0)=false:=Ay (by grind);have hz:decide ((rd L i).b =Int.ofNat 1)=true:=An hb;have hb0:((rd L i).b == 0)=false:=by rw [hb];rfl
   refine key o (p+(rd L i).c) (Uy out last inn (rd L i).a) (by omega) (by omega) (by grind) (by grind) rfl ?_ ?_
   ·unfold Uy;cases inn with
    | false=>simp (disch:=omega) only [Wq,hlt,hz0,hz,hw,hw',hcf,Zs,Zt,Yw,Zk,Zx,Zj,Af,Ah,Ae,Ac,AA]
    | true=>
     rcases Yk (last == (rd L i).a) with g | g
     ·simp (disch:=omega) only [Wq,hlt,hz0,hz,hw,hw',hcf,Zs,Zt,Yw,Zk,Zx,Zj,Af,Ah,Ae,Ac,Av,g]
     ·by_cases h0:0<out.length
      ·rw [An h0,Ak];rcases Yk ((rd out (out.length - 1)).b == last) with q2 | q2
       ·simp (disch:=omega) only [Wq,hlt,hz0,hz,hw,hw',hcf,Zs,Zt,Yw,Zk,Zx,Zj,Af,Ah,Ae,Ac,Av,g,q2,Xy,Zh]
       ·simp (disch:=omega) only [Wq,hlt,hz0,hz,hw,hw',hcf,Zs,Zt,Yw,Zk,Zx,Zj,Af,Ah,Ae,Ac,Av,Ak,g,q2,Xy,Zh,Yu,Zf,Yc,Ao]
      ·rw [Ay h0,Be];simp (disch:=omega) only [Wq,hlt,hz0,hz,hw,hw',hcf,Zs,Zt,Yw,Zk,Zx,Zj,Af,Ah,Ae,Ac,Av,Ak,g,Xt,Yu,Zf,Yc,Ao]
   simp_all [Yq,w3h]
theorem u5s (ha:a.length≤400) (hb:b.length≤400) (va:a.all z1e=true) (vb:b.all z1e=true): ∀(k i:Nat) (E:List R3),i+k=b.length→E.length=2*a.length+2*i→E++Wa 1 (b.drop i)=Wa 0 a++Wa 1 b→ ∃n,Yx (Wq q a b) n (.to (.h1 E (i:Int)))=.ret (z1t (spJ q.k a b))
 | 0,i,E,h,hl,he=>by
  rw [As (by omega),show Wa 1 []=[] from rfl,AF] at he;subst he;have hbnd:y2j (Wa 0 a++Wa 1 b)=true:=by
   grind [x5y,y2j]
  have hsl:=y5c (Wa 0 a++Wa 1 b);obtain ⟨hp,_⟩:=Qq _ hbnd;obtain ⟨n,hn⟩:=u5r q a b (z1y (Wa 0 a++Wa 1 b)) (by grind) (fun i hi=>by
   have hm:rd (z1y (Wa 0 a++Wa 1 b)) i∈Wa 0 a++Wa 1 b:=hp.mem_iff.1 (by grind [Yo])
   grind [v6x]) (z1y (Wa 0 a++Wa 1 b)).length 0 0 0 0 false [] (Af _) (by omega) (by omega) (by omega) (by omega) (AB _)
  refine ⟨n+1,?_⟩;rw [Zw];have step:Wq q a b (.h1 (Wa 0 a++Wa 1 b) (i:Int))=.to (.h2 (z1y (Wa 0 a++Wa 1 b)) (((Wa 0 a++Wa 1 b).length :Nat):Int) 0 0 0 0 false []):=by
   grind [Wq,Zd]
  rw [step,←hsl];exact hn
 | k+1,i,E,h,hl,he=>by rw [x0u 1 b i (by omega),←AN] at he;obtain ⟨n,hn⟩:=u5s ha hb va vb k (i+1) (E++Wa 1 [rd b i]) (by omega) (by grind [y1x]) he;refine ⟨n+1,?_⟩;rw [Zw];simp (disch:=omega) only [Wq,Yu,Zf,Yc,Ao,Ak,Zs,Zt,Yw,Zk,Zx,Zj,Af,Ah,Ae,Ac];exact hn
theorem u5t (ha:a.length≤400) (hb:b.length≤400) (va:a.all z1e=true) (vb:b.all z1e=true): ∀(k i:Nat) (E:List R3),i+k=a.length→E.length=2*i→E++Wa 0 (a.drop i)=Wa 0 a→ ∃n,Yx (Wq q a b) n (.to (.h0 E (i:Int)))=.ret (z1t (spJ q.k a b))
 | 0,i,E,h,hl,he=>by
  rw [As (by omega),show Wa 0 []=[] from rfl,AF] at he;subst he;obtain ⟨n,hn⟩:=u5s q a b ha hb va vb b.length 0 (Wa 0 a) (Af _) (by omega) (by grind);refine ⟨n+1,?_⟩
  grind [Zw,Wq]
 | k+1,i,E,h,hl,he=>by rw [x0u 0 a i (by omega),←AN] at he;obtain ⟨n,hn⟩:=u5t ha hb va vb k (i+1) (E++Wa 0 [rd a i]) (by omega) (by grind [y1x]) he;refine ⟨n+1,?_⟩;rw [Zw];simp (disch:=omega) only [Wq,Yu,Zf,Yc,Ao,Ak,Zs,Zt,Yw,Zk,Zx,Zj,Af,Ah,Ae,Ac];exact hn
theorem j1d : ∃n,Yx (Wq q a b) n (y2x q a b)=.ret (z9p (spE q.k a b) (spJ q.k a b)):=by
 unfold y2x;have o: ∀l,z4n l=true:=fun _=>rfl;simp only [Zd,o,Ae];rcases Yk (y9l a != 0) with q1 | q1
 ·exact ⟨0,by simp only [spE,q1,Ae,Vh _ q1];rfl⟩
 rcases Yk (y9l b != 0) with q2 | q2
 ·exact ⟨0,by simp only [spE,q1,q2,Ae,Ac,Vh _ q2];rfl⟩
 obtain ⟨a1,a2,_⟩:=(x1s a).1 (by grind);obtain ⟨b1,b2,_⟩:=(x1s b).1 (by grind);obtain ⟨n,hn⟩:=u5t q a b a1 b1 a2 b2 a.length 0 [] (Af _) rfl (by grind)
 grind [spE,y6z]
end
def z4j (q:Op) (a b:List R2):List R2:=y8b (spE q.k a b) (spJ q.k a b)
def w6o (q:Op) (a b:List R2):Int:=spE q.k a b
def x1k (q:Op) (a b:List R2):Bool:=true
def fSp (q:Op):List AVal→Option (AVal×Bool)
 | [a1,a2]=>match asL R2 a1,asL R2 a2 with
  | some (L1,g1,n1),some (L2,g2,n2)=>some (.tup [.dat (z4j q L1 L2).length (Zz (z4j q L1 L2)),.int .i64 (w6o q L1 L2)],isT R2 n1 g1&&(isT R2 n2 g2&&x1k q L1 L2))
  | _,_=>none
 | _=>none
theorem v6k (q:Op) {S:Specs} (hS:Zu prog S):Zu prog (S.with (nSp q) (fSp q)):=by
 refine v6j hS (by cases q <;> kernel_rfl) fun args v h=> ?_;unfold fSp at h;split at h
 ·rename_i a1 a2;split at h
  ·rename_i L1 g1 n1 L2 g2 n2 e1 e2;simp only [Ab,Aa,Ad] at h;obtain ⟨rfl,ho1,ho2,_⟩:=h;obtain ⟨N,hN⟩:=j1d q L1 L2;exact ⟨_,_,(.cons (Yi e1 ho1) (.cons (Yi e2 ho2) .nil)),z1k _ _,v9f q L1 L2 N _ hN,3,z6q _ _⟩
  ·cases h
 ·cases h
def Ub :Specs:=((Ua.with (nSp .u) (fSp .u)).with (nSp .e) (fSp .e)).with (nSp .d) (fSp .d)
theorem y7q :Zu prog Ub:=v6k .d (v6k .e (v6k .u z2x))
inductive rgcS where
 | h0 (v8:Int)
def rgcC (l0:List R4):rgcS→Cfg
 | .h0 v8=>⟨⟨19,0,true⟩,none,(Zb prog 192 [1,0,1,0,0] 0),none,(Zy prog 6),⟨Yg [(0,(.dat l0.length (Zz l0))),(1,(.fn 182 [])),(7,(ii (l0.length:Int))),(8,(ii v8))],Wt [] 0,0,[],true⟩,[⟨⟨9,0,true⟩,(Vj prog 181 [1,0] 2),(Zb prog 181 [1,0] 1),none,(Zy prog 6),Yg [(5,(.dat l0.length (Zz l0))),(6,(.fn 182 []))]⟩,⟨⟨23,0,true⟩,(Vj prog 157 [1,1,0,0] 1),(Zb prog 157 [1,1,0,0] 1),none,(Zy prog 9),Yg [(0,(.dat l0.length (Zz l0))),(8,(.dat l0.length (Zz l0)))]⟩],.leaf⟩
def rgcN0 :List (Option (List Nat)):=[some [0,1,7,8],some [5,6],some [0,8]]
def rgcM0 :List (Option (List Nat)):=[]
def z3f (l0:List R4):rgcS→Xw rgcS
 | .h0 v8=>(bif (decide (v8<(l0.length:Int))) then (bif ((decide (0≤v8∧v8<(l0.length:Int)))&&true) then (bif (!(j0i (rd l0 v8.toNat).a (rd l0 v8.toNat).b (rd l0 v8.toNat).c (rd l0 v8.toNat).d)) then (bif (decide (v8≥0)) then (.ret [(.int .i64 8)]) else (bif (Qd (cvT l0)) then (bif ((z2o (cvT l0)) != 0) then (.ret [(.int .i64 8)]) else (bif (Wm (cvT (Wf (cvT l0))) (cvT l0)) then (bif (!(Uf (cvT (Wf (cvT l0))) (cvT l0))) then (.ret [(.int .i64 8)]) else (.ret [(.int .i64 0)])) else .stuck)) else .stuck)) else (.to (.h0 (wrap .i64 (v8+1))))) else .stuck) else (bif (Qd (cvT l0)) then (bif ((z2o (cvT l0)) != 0) then (.ret [(.int .i64 8)]) else (bif (Wm (cvT (Wf (cvT l0))) (cvT l0)) then (bif (!(Uf (cvT (Wf (cvT l0))) (cvT l0))) then (.ret [(.int .i64 8)]) else (.ret [(.int .i64 0)])) else .stuck)) else .stuck))
def z8b (l0:List R4):Xw rgcS:=(bif (decide ((l0.length:Int)>400)) then (.ret [(.int .i64 4)]) else (.to (.h0 0)))
theorem w7v (l0:List R4): ∀s,Xu prog (Zy prog 157) (rgcC l0) (rgcC l0 s) (z3f l0 s)
 | .h0 v8=>(lb (fun k0=>(lo fun aE=>(lb (fun k1=>(lb (fun k2=>(lr 23 157 [1,1,0,1,0,0] 1 9 [(2,(ii 8))] (sl y7q 53 [] ⟨[],[],[some [2]],[]⟩ ⟨[],[],[]⟩ (trs 3 []) (tt k2 (tt k1 (ww aE (tt k0 nn))))))) (fun k2=>(lo fun bZ=>(lb (fun k3=>(lr 23 157 [1,1,1,0,1,1,0,0] 1 9 [(2,(ii 8))] (sl y7q 77 [] ⟨[],[],[some [2]],[]⟩ ⟨[],[],[]⟩ (bl 8 251) (tt k3 (pp (pp (xr l0) (xw bZ)) (tt k2 (tt k1 (ww aE (tt k0 nn))))))))) (fun k3=>(lo fun cD=>(lb (fun k4=>(lr 23 157 [1,1,1,0,1,1,0,0] 1 9 [(2,(ii 8))] (sl y7q 77 [] ⟨[],[],[some [2]],[]⟩ ⟨[],[],[]⟩ (bl 8 131) (tt k4 (pp (pp (xI R4 (Wf (cvT l0)).length (Zz (Wf (cvT l0)))) (pp (xr l0) (xw cD))) (tt k3 (pp (pp (xr l0) (xw bZ)) (tt k2 (tt k1 (ww aE (tt k0 nn))))))))))) (fun k4=>(lr 23 3 [1,1,1,1,0] 1 9 [(2,(ii 0))] (sl y7q 78 [] ⟨[],[],[some [2]],[]⟩ ⟨[],[],[]⟩ (bl 8 3) (tt k4 (pp (pp (xI R4 (Wf (cvT l0)).length (Zz (Wf (cvT l0)))) (pp (xr l0) (xw cD))) (tt k3 (pp (pp (xr l0) (xw bZ)) (tt k2 (tt k1 (ww aE (tt k0 nn))))))))))))))))))) (fun k1=>(sl y7q 44 [] ⟨[],[],rgcN0,rgcM0⟩ ⟨[],[],[]⟩ (bl 2 1) (tt k1 (ww aE (tt k0 nn)))))))) (fun k0=>(lo fun aE=>(lb (fun k1=>(lr 23 157 [1,1,1,0,1,1,0,0] 1 9 [(2,(ii 8))] (sl y7q 46 [] ⟨[],[],[some [2]],[]⟩ ⟨[],[],[]⟩ (bl 7 124) (tt k1 (pp (pp (xr l0) (xw aE)) (tt k0 nn)))))) (fun k1=>(lo fun bU=>(lb (fun k2=>(lr 23 157 [1,1,1,0,1,1,0,0] 1 9 [(2,(ii 8))] (sl y7q 46 [] ⟨[],[],[some [2]],[]⟩ ⟨[],[],[]⟩ (bl 7 64) (tt k2 (pp (pp (xI R4 (Wf (cvT l0)).length (Zz (Wf (cvT l0)))) (pp (xr l0) (xw bU))) (tt k1 (pp (pp (xr l0) (xw aE)) (tt k0 nn)))))))) (fun k2=>(lr 23 3 [1,1,1,1,0] 1 9 [(2,(ii 0))] (sl y7q 47 [] ⟨[],[],[some [2]],[]⟩ ⟨[],[],[]⟩ (bl 7 0) (tt k2 (pp (pp (xI R4 (Wf (cvT l0)).length (Zz (Wf (cvT l0)))) (pp (xr l0) (xw bU))) (tt k1 (pp (pp (xr l0) (xw aE)) (tt k0 nn)))))))))))))))
theorem x9g (l0:List R4):Xu prog (Zy prog 157) (rgcC l0) (Za prog 157 [(.dat l0.length (Zz l0))] true []) (z8b l0):=(lb (fun k0=>(lr 23 157 [1,0,1,0,0] 1 9 [(2,(ii 4))] (sl y7q 16 [] ⟨[],[],[some [2]],[]⟩ ⟨[],[],[]⟩ [true] (tt k0 nn)))) (fun k0=>(sl y7q 40 [] ⟨[],[],rgcN0,rgcM0⟩ ⟨[],[],[]⟩ [false] (tt k0 nn))))
theorem u1l (l0:List R4) (n:Nat) (vs:List AVal) (h:Yx (z3f l0) n (z8b l0)=.ret vs):Ur prog (Zy prog 157) (Za prog 157 [(.dat l0.length (Zz l0))] true []) vs:=by have:=Zc (w7v l0) n _ (x9g l0);rwa [h] at this
def rgcF (l:List R4):Int:=bif z2o l != 0 then 8 else bif Uf (Wf l) l then 0 else 8
def y2i (l:List R4):Int:=bif decide (400<l.length) then 4 else bif l.all Uk then rgcF l else 8
def z4r (l:List R4):Bool:=true
theorem w0i (l:List R4):(Wf l).length ≤400:=by
 grind [Wf,j4j,y8b,x6c]
theorem u8d (l:List R4) (hl:l.length≤400): ∀(k i:Nat),i+k=l.length→(∀s∈l.take i,Uk s=true)→ ∃n,Yx (z3f l) n (.to (.h0 (i:Int)))=.ret (bif l.all Uk then [.int .i64 (rgcF l)] else [.int .i64 8])
 | 0,i,h,ht=>by
  have hv:l.all Uk=true:=At.2 fun s hs=>ht s (by grind);have w:Qd l=true:=An hl;refine ⟨1,?_⟩;rw [Zw,hv,Ae];have w2:Wm (Wf l) l=true:=An (by have:=w0i l;omega);unfold rgcF;rcases Yk (z2o l != 0) with q | q
  ·grind [z3f,Zd,Zp]
  ·rcases Yk (Uf (Wf l) l) with q2 | q2 <;>
   simp (disch:=omega) only [z3f,Zd,w,w2,q,q2,Yf,Av,AA,Ae,Ac,Zp]
 | k+1,i,h,ht=>by
  have hi:i<l.length:=by omega
  have hs:z3f l (.h0 (i:Int))=bif Uk (rd l i) then .to (.h0 ((i+1:Nat):Int)) else .ret [.int .i64 8]:=by have e:j0i (rd l i).a (rd l i).b (rd l i).c (rd l i).d =Uk (rd l i):=rfl;simp (disch:=omega) only [z3f,e,y7d,w5m,v7b,Zt,Zk,Zx,Zj,Ah,Ae,Ac]
  rcases Yk (Uk (rd l i)) with q | q
  ·obtain ⟨n,hn⟩:=u8d l hl k (i+1) (by omega) (fun s hs=>by
    rw [A2] at hs
    grind [Yo])
   refine ⟨n+1,?_⟩
   grind [Zw]
  ·have hv:l.all Uk=false:=A1.2 fun e=>by
    grind [Yo]
   refine ⟨1,?_⟩
   grind [Zw,Zp]
theorem u1k (l:List R4): ∃n,Yx (z3f l) n (z8b l)=.ret (bif decide (400<l.length) then [.int .i64 4] else bif l.all Uk then [.int .i64 (rgcF l)] else [.int .i64 8]):=by
 unfold z8b;by_cases h:400<l.length
 ·refine ⟨0,?_⟩;rw [An h,Xy (show (l.length:Int)>400 by omega)];rfl
 ·obtain ⟨n,hn⟩:=u8d l (by omega) l.length 0 (Af _) (fun s hs=>by simp at hs)
  grind
theorem j3j (l:List R4) (h:z4r l=true): ∃n,Yx (z3f l) n (z8b l)=.ret [.int .i64 (y2i l)]:=by
 obtain ⟨n,hn⟩:=u1k l
 grind [y2i]
def fRgc :List AVal→Option (AVal×Bool)
 | [a0]=>match asL R4 a0 with
  | some (L0,g0,n0)=>some (.int .i64 (y2i L0),isT R4 n0 g0&&(z4r L0))
  | _=>none
 | _=>none
theorem j5x {S:Specs} (hS:Zu prog S):Zu prog (S.with w4n fRgc):=by
 refine Qi hS (by kernel_rfl) fun args v h=> ?_;unfold fRgc at h;split at h
 ·rename_i a0;split at h
  ·rename_i L0 g0 n0 e0;simp only [Ab,Aa,Ad] at h;obtain ⟨rfl,ho0,hw⟩:=h;obtain ⟨N,hN⟩:=j3j L0 hw;exact ⟨_,_,(.cons (Yi e0 ho0) .nil),rfl,u1l L0 N _ hN,3,rfl⟩
  ·cases h
 ·cases h
def Uc :Specs:=(Ub.with w4n fRgc)
theorem Kd :Zu prog Uc:=(j5x y7q)
inductive rgjS where
 | h0 (v16:Int) (aC:List Int)
 | h1 (v16:Int) (aC:List Int)
 | h2 (v4:Int) (aJ:List R4) (aX:List R2) (bG:Int) (bH:Int) (aI:Nat) (aL:List Int)
 | h3 (v4:Int) (v38:Int) (aJ:List R4) (aX:List R2) (bG:Int) (bH:Int) (aI:Nat) (aL:List Int) (aF:Int) (bC:Int) (aB:List R2)
 | h4 (v4:Int) (v38:Int) (aJ:List R4) (aX:List R2) (bG:Int) (bH:Int) (aI:Nat) (aL:List Int) (aF:Int) (bC:Int) (aB:List R2) (aG:List R2)
 | h5 (v1:Int) (v2:Int) (v71:List R2) (v72:Int) (v73:Int) (bD:Int) (aD:List R4) (bF:Int) (aI:Nat) (aL:List Int) (aF:List R2) (bC:List R2)
 | h6 (v2:Int) (v8:Int) (dD:Int) (dE:List R2) (bD:Int) (aD:List R4) (bJ:List R2) (bF:Int) (bT:Int) (bP:Nat) (bW:List Int) (aB:List R2) (aG:List R2)
def y5q (q:Op) (l0:List R4) (l1:List R4):AFr:=⟨⟨11,0,true⟩,(Vj prog (nRg q) [1,0] 2),(Zb prog (nRg q) [1,0] 1),none,(Zy prog 16),Yg [(6,(.dat l0.length (Zz l0))),(7,(.dat l1.length (Zz l1)))]⟩
abbrev y9t (aD:List R4) (v8:Int) (v2:Int):=(aD.set (0+(tn v8)) (R4.mk (rd aD (0+(tn v8))).a (rd aD (0+(tn v8))).b v2 (rd aD (0+(tn v8))).d))
def v3s :=(y4a [(0,⟨.ready,none,49,Yg [(5,(.ptr 1 0)),(6,(.ptr 2 0)),(7,(.ptr 3 0)),(9,(.ptr 4 0))],[23],(Wo prog 84 [1,1,1,0,1,0,0]),(Wo prog 84 [1,1,1,0,1,0,1])⟩)])
abbrev y9s (aC:List Int):=(Wn (Yd aC.length (cOf (Zz (Xa (Yd aC.length (cOf (Zz aC))))))))
def v3r :AFr:=⟨⟨49,0,true⟩,none,(.inRangeFunc 0::(Zb prog 84 [1,1,1,0,1,0] 1)),none,(Zy prog 84),Yg [(6,(.ptr 2 0)),(7,(.ptr 3 0)),(9,(.ptr 4 0))]⟩
def y5p (l0:List R4) (l1:List R4):ABlk:=⟨[(.dat l0.length (Zz l0)),(.dat l1.length (Zz l1))],81,none⟩
def u8c :AFr:=⟨⟨49,0,true⟩,(Vj prog 84 [1,1,1,0,0] 3),(Zb prog 84 [1,1,1,0,0] 1),none,(Zy prog 84),Yg [(5,(.ptr 3 0)),(6,(.ptr 4 0)),(7,(.ptr 5 0)),(9,(.ptr 6 0)),(21,(.sl 1 0 2 (.un 1)))]⟩
abbrev y9r (aB:List R2) (l0:List R4) (v38:Int):=(aB++[(R2.mk (rd l0 (tn v38)).b (rd l0 (tn v38)).d)])
abbrev y9q (aG:List R2) (l1:List R4) (v38:Int):=(aG++[(R2.mk (rd l1 (tn v38)).b (rd l1 (tn v38)).d)])
def y5o (q:Op):ABlk:=⟨[(.fn (nSp q) [])],123,none⟩
abbrev y0e (aD:List R4) (v1:Int) (v71:List R2) (v73:Int) (v2:Int):=(aD++[(R4.mk v1 (rd v71 (tn v73)).a v2 (rd v71 (tn v73)).b)])
abbrev y0d (aC:List Int) (l0:List R4) (v16:Int):=(aC++[(rd l0 (tn v16)).a,(rd l0 (tn v16)).c])
abbrev y0c (aC:List Int) (l1:List R4) (v16:Int):=(aC++[(rd l1 (tn v16)).a,(rd l1 (tn v16)).c])
def x2c :ABlk:=⟨[(.sl 8 0 2 (.un 1))],197,none⟩
def v3t :=(Zb prog 158 [1,0,0,1,0,0,1,0,1,0,0,1,1,0,0,1,1,0,0] 0)
def rgjC (q:Op) (l0:List R4) (l1:List R4):rgjS→Cfg
 | .h0 v16 aC=>⟨⟨34,0,true⟩,none,(Zb prog 119 [1,1,0,1,0,0,1,1,0,0,1,1,0,0] 0),none,(Zy prog 9),⟨Yg [(1,(.ptr 0 0)),(3,(.ptr 2 0)),(8,(.sl 1 0 2 (.un 1))),(9,(ii 2)),(10,(ii 0)),(14,(.dat l0.length (Zz l0))),(15,(ii (l0.length:Int))),(16,(ii v16))],Wt [⟨[(.sl 1 0 2 (.un 1))],197,none⟩,(y5p l0 l1),⟨[(.sla 7 1 0 aC.length (.un 1))],125,none⟩,(y5o q),⟨[.nils],81,none⟩,⟨[(ii 0)],24,none⟩,⟨[.nils,.nils,(ii 0),(ii 0)],157,none⟩,⟨Ym aC.length (Zz aC),3,some ⟨1,aC.length,(Zz aC)⟩⟩] 0,8,[],true⟩,[u8c,(y5q q l0 l1)],.leaf⟩
 | .h1 v16 aC=>⟨⟨34,0,true⟩,none,(Zb prog 119 [1,1,0,1,0,0,1,1,0,0,1,1,0,0] 0),none,(Zy prog 9),⟨Yg [(1,(.ptr 0 0)),(3,(.ptr 2 0)),(8,(.sl 1 0 2 (.un 1))),(9,(ii 2)),(10,(ii 1)),(14,(.dat l1.length (Zz l1))),(15,(ii (l1.length:Int))),(16,(ii v16))],Wt [⟨[(.sl 1 0 2 (.un 1))],197,none⟩,(y5p l0 l1),⟨[(.sla 7 1 0 aC.length (.un 1))],125,none⟩,(y5o q),⟨[.nils],81,none⟩,⟨[(ii 0)],24,none⟩,⟨[.nils,.nils,(ii 0),(ii 0)],157,none⟩,⟨Ym aC.length (Zz aC),3,some ⟨1,aC.length,(Zz aC)⟩⟩] 0,8,[],true⟩,[u8c,(y5q q l0 l1)],.leaf⟩
 | .h2 v4 aJ aX bG bH aI aL=>⟨⟨76,0,true⟩,none,(Zb prog 158 [1,0,0] 0),none,[],⟨Yg [(0,(.yld 0)),(1,(.ptr 5 0)),(2,(.ptr 7 0)),(4,(ii v4))],z7i [(1,(y5o q)),(2,⟨[.nils],81,none⟩),(3,⟨[(ii 0)],24,none⟩),(4,⟨[(.sla 9 4 0 aJ.length (.un 4)),(.dat aX.length (Zz aX)),(ii bG),(ii bH)],157,none⟩),(5,⟨[(.sla 6 1 0 aI (.un 1))],125,none⟩),(6,⟨Ym aL.length (Zz aL),3,some ⟨1,aL.length,(Zz aL)⟩⟩),(7,x2c),(8,(y5p l0 l1)),(9,⟨Ym aJ.length (Zz aJ),116,some ⟨4,aJ.length,(Zz aJ)⟩⟩)],10,[],true⟩,[v3r,(y5q q l0 l1)],v3s⟩
 | .h3 v4 v38 aJ aX bG bH aI aL aF bC aB=>⟨⟨76,0,true⟩,none,v3t,none,[],⟨Yg [(0,(.yld 0)),(1,(.ptr 5 0)),(2,(.ptr 7 0)),(4,(ii v4)),(5,(.ptr 9 0)),(6,(ii 0)),(29,(.sl 8 0 2 (.un 1))),(30,(ii 2)),(31,(ii 0)),(36,(.dat l0.length (Zz l0))),(37,(ii (l0.length:Int))),(38,(ii v38))],z7i [(1,(y5o q)),(2,⟨[.nils],81,none⟩),(3,⟨[(ii 0)],24,none⟩),(4,⟨[(.sla 12 4 0 aJ.length (.un 4)),(.dat aX.length (Zz aX)),(ii bG),(ii bH)],157,none⟩),(5,⟨[(.sla 6 1 0 aI (.un 1))],125,none⟩),(6,⟨Ym aL.length (Zz aL),3,some ⟨1,aL.length,(Zz aL)⟩⟩),(7,x2c),(8,(y5p l0 l1)),(9,⟨[(ii aF),(ii bC),(.sl 10 0 2 (.ex 2))],162,none⟩),(10,⟨[(.sla 11 2 0 aB.length (.un 2)),.nils],155,none⟩),(11,⟨Ym aB.length (Zz aB),176,some ⟨2,aB.length,(Zz aB)⟩⟩),(12,⟨Ym aJ.length (Zz aJ),116,some ⟨4,aJ.length,(Zz aJ)⟩⟩)],13,[],true⟩,[v3r,(y5q q l0 l1)],v3s⟩
 | .h4 v4 v38 aJ aX bG bH aI aL aF bC aB aG=>⟨⟨76,0,true⟩,none,v3t,none,[],⟨Yg [(0,(.yld 0)),(1,(.ptr 5 0)),(2,(.ptr 7 0)),(4,(ii v4)),(5,(.ptr 9 0)),(6,(ii 1)),(29,(.sl 8 0 2 (.un 1))),(30,(ii 2)),(31,(ii 1)),(36,(.dat l1.length (Zz l1))),(37,(ii (l1.length:Int))),(38,(ii v38))],z7i [(1,(y5o q)),(2,⟨[.nils],81,none⟩),(3,⟨[(ii 0)],24,none⟩),(4,⟨[(.sla 13 4 0 aJ.length (.un 4)),(.dat aX.length (Zz aX)),(ii bG),(ii bH)],157,none⟩),(5,⟨[(.sla 6 1 0 aI (.un 1))],125,none⟩),(6,⟨Ym aL.length (Zz aL),3,some ⟨1,aL.length,(Zz aL)⟩⟩),(7,x2c),(8,(y5p l0 l1)),(9,⟨[(ii aF),(ii bC),(.sl 10 0 2 (.ex 2))],162,none⟩),(10,⟨[(.sla 11 2 0 aB.length (.un 2)),(.sla 12 2 0 aG.length (.un 2))],155,none⟩),(11,⟨Ym aB.length (Zz aB),176,some ⟨2,aB.length,(Zz aB)⟩⟩),(12,⟨Ym aG.length (Zz aG),176,some ⟨2,aG.length,(Zz aG)⟩⟩),(13,⟨Ym aJ.length (Zz aJ),116,some ⟨4,aJ.length,(Zz aJ)⟩⟩)],14,[],true⟩,[v3r,(y5q q l0 l1)],v3s⟩
 | .h5 v1 v2 v71 v72 v73 bD aD bF aI aL aF bC=>⟨⟨94,0,true⟩,none,(Zb prog 120 [1,1,1,0,0] 0),none,[],⟨Yg [(0,(.ptr 0 0)),(1,(ii v1)),(2,(ii v2)),(71,(.dat v71.length (Zz v71))),(72,(ii v72)),(73,(ii v73))],z7i [(0,⟨[(.sla 10 4 0 aD.length (.un 4)),(.dat v71.length (Zz v71)),(ii bF),(ii v2)],157,none⟩),(2,(y5o q)),(3,⟨[.nils],81,none⟩),(4,⟨[(ii 0)],24,none⟩),(5,⟨[(.sla 6 1 0 aI (.un 1))],125,none⟩),(6,⟨Ym aL.length (Zz aL),3,some ⟨1,aL.length,(Zz aL)⟩⟩),(7,x2c),(8,(y5p l0 l1)),(9,⟨[(.dat aF.length (Zz aF)),(.dat bC.length (Zz bC))],155,none⟩),(10,⟨Ym aD.length (Zz aD),116,some ⟨4,aD.length,(Zz aD)⟩⟩)],11,[],true⟩,[⟨⟨49,0,true⟩,(Vj prog 84 [1,1,1,0,1,0,1,0,1,1] 5),(Zb prog 84 [1,1,1,0,1,0,1,0,1,1] 1),(some 1),[],Yg [(9,(.ptr 0 0)),(41,(ii v1)),(43,(ii v2)),(44,(.dat v71.length (Zz v71)))]⟩,⟨⟨76,0,true⟩,(Vj prog 158 [1,0,0,1,0,0,1,1,0] 2),(Zb prog 158 [1,0,0,1,0,0,1,1,0] 1),none,[],Yg [(0,(.yld 1)),(1,(.ptr 5 0)),(2,(.ptr 7 0)),(4,(ii bD)),(72,(.yld 1)),(73,(.agg [(ii v1),(ii v2),(.sl 9 0 2 (.ex 2))]))]⟩,⟨⟨49,0,true⟩,none,(.inRangeFunc 1::(Zb prog 84 [1,1,1,0,1,0] 1)),none,(Zy prog 84),Yg [(6,(.ptr 3 0)),(7,(.ptr 4 0)),(9,(.ptr 0 0))]⟩,(y5q q l0 l1)],(y4a [(1,⟨.busy,none,49,Yg [(5,(.ptr 2 0)),(6,(.ptr 3 0)),(7,(.ptr 4 0)),(9,(.ptr 0 0))],[23],(Wo prog 84 [1,1,1,0,1,0,0]),(Wo prog 84 [1,1,1,0,1,0,1])⟩)])⟩
 | .h6 v2 v8 dD dE bD aD bJ bF bT bP bW aB aG=>⟨⟨94,0,true⟩,none,(Zb prog 120 [0,1,0,0,1,0,0] 0),none,[],⟨Yg [(0,(.ptr 0 0)),(2,(ii v2)),(8,(ii v8))],z7i [(0,⟨[(.sla 1 4 0 aD.length (.un 4)),(.dat bJ.length (Zz bJ)),(ii bF),(ii bT)],157,none⟩),(1,⟨Ym aD.length (Zz aD),116,some ⟨4,aD.length,(Zz aD)⟩⟩),(3,(y5o q)),(4,⟨[.nils],81,none⟩),(5,⟨[(ii 0)],24,none⟩),(6,⟨[(.sla 7 1 0 bP (.un 1))],125,none⟩),(7,⟨Ym bW.length (Zz bW),3,some ⟨1,bW.length,(Zz bW)⟩⟩),(8,⟨[(.sl 9 0 2 (.un 1))],197,none⟩),(9,(y5p l0 l1)),(10,⟨[(.dat aB.length (Zz aB)),(.dat aG.length (Zz aG))],155,none⟩)],11,[],true⟩,[⟨⟨49,0,true⟩,(Vj prog 84 [1,1,1,0,1,0,1,0,1,1] 5),(Zb prog 84 [1,1,1,0,1,0,1,0,1,1] 1),(some 2),[],Yg [(9,(.ptr 0 0)),(41,(ii dD)),(43,(ii v2)),(44,(.dat dE.length (Zz dE)))]⟩,⟨⟨76,0,true⟩,(Vj prog 158 [1,0,0,1,0,0,1,1,0] 2),(Zb prog 158 [1,0,0,1,0,0,1,1,0] 1),none,[],Yg [(0,(.yld 2)),(1,(.ptr 6 0)),(2,(.ptr 8 0)),(4,(ii bD)),(72,(.yld 2)),(73,(.agg [(ii dD),(ii v2),(.sl 10 0 2 (.ex 2))]))]⟩,⟨⟨49,0,true⟩,none,(.inRangeFunc 2::(Zb prog 84 [1,1,1,0,1,0] 1)),none,(Zy prog 84),Yg [(6,(.ptr 4 0)),(7,(.ptr 5 0)),(9,(.ptr 0 0))]⟩,(y5q q l0 l1)],(y4a [(2,⟨.busy,none,49,Yg [(5,(.ptr 3 0)),(6,(.ptr 4 0)),(7,(.ptr 5 0)),(9,(.ptr 0 0))],[23],(Wo prog 84 [1,1,1,0,1,0,0]),(Wo prog 84 [1,1,1,0,1,0,1])⟩)])⟩
def rgjN0 :List (Option (List Nat)):=[some [1,3,8,9,10,14,15,16],some [5,6,7,9,21],some [6,7]]
def rgjM0 :List (Option (List Nat)):=[]
def rgjN1 :List (Option (List Nat)):=[some [1,3,8,9,10,14,15,16],some [5,6,7,9,21],some [6,7]]
def rgjM1 :List (Option (List Nat)):=[]
def j3h :List (Option (List Nat)):=[some [0,1,2,4],some [6,7,9],some [6,7]]
def j3i :List (Option (List Nat)):=[some [5,6,7,9],none,none,none,none,none,none,none,none,none]
def u1g :List (Option (List Nat)):=[some [0,1,2,4,5,6,29,30,31,36,37,38],some [6,7,9],some [6,7]]
def u1j :List (Option (List Nat)):=[some [5,6,7,9],none,none,none,none,none,none,none,none,none,none,none,none]
def u1f :List (Option (List Nat)):=[some [0,1,2,4,5,6,29,30,31,36,37,38],some [6,7,9],some [6,7]]
def u1i :List (Option (List Nat)):=[some [5,6,7,9],none,none,none,none,none,none,none,none,none,none,none,none,none]
def u1e :List (Option (List Nat)):=[some [0,1,2,71,72,73],some [9,41,43,44],some [0,1,2,4,72,73],some [6,7,9],some [6,7]]
def u1h :List (Option (List Nat)):=[none,some [5,6,7,9],none,none,none,none,none,none,none,none,none]
def rgjN6 :List (Option (List Nat)):=[some [0,2,8],some [9,41,43,44],some [0,1,2,4,72,73],some [6,7,9],some [6,7]]
def rgjM6 :List (Option (List Nat)):=[none,none,some [5,6,7,9],none,none,none,none,none,none,none,none]
def Yt (q:Op) (l0:List R4) (l1:List R4):rgjS→Xw rgjS
 | .h0 v16 aC=>(bif (decide (v16<(l0.length:Int))) then (bif ((decide (0≤v16∧v16<(l0.length:Int)))&&true) then (bif (Nat.beq 1 1&&((decide (0+aC.length=aC.length))&&decide ((aC.length+2+1)*(8+1)≤Kj))) then (.to (.h0 (wrap .i64 (v16+1)) (aC++[(rd l0 v16.toNat).a,(rd l0 v16.toNat).c]))) else .stuck) else .stuck) else (.to (.h1 0 aC)))
 | .h1 v16 aC=>(bif (decide (v16<(l1.length:Int))) then (bif ((decide (0≤v16∧v16<(l1.length:Int)))&&true) then (bif (Nat.beq 1 1&&((decide (0+aC.length=aC.length))&&decide ((aC.length+2+1)*(8+1)≤Kj))) then (.to (.h1 (wrap .i64 (v16+1)) (aC++[(rd l1 v16.toNat).a,(rd l1 v16.toNat).c]))) else .stuck) else .stuck) else (bif (decide (aC.length<4611686018427387904)) then (bif (decide (aC.length=aC.length)) then (.to (.h2 1 ([]:List R4) ([]:List R2) 0 0 (v7q (Yd aC.length (cOf (Zz (Xa (Yd aC.length (cOf (Zz aC)))))))) (Wn (Yd aC.length (cOf (Zz (Xa (Yd aC.length (cOf (Zz aC)))))))))) else .stuck) else .stuck))
 | .h2 v4 aJ aX bG bH aI aL=>(bif (decide (v4<((aI:Nat):Int))) then (bif ((decide (0≤(wrap .i64 (v4 - 1))∧(wrap .i64 (v4 - 1))<((aI:Nat):Int)))&&true) then (bif (decide ((0+(Int.toNat (wrap .i64 (v4 - 1))))<aL.length)) then (bif ((decide (0≤v4∧v4<((aI:Nat):Int)))&&true) then (bif (decide ((0+v4.toNat)<aL.length)) then (.to (.h3 v4 0 aJ aX bG bH aI aL (rd aL (0+(Int.toNat (wrap .i64 (v4 - 1))))) (rd aL (0+v4.toNat)) ([]:List R2))) else .stuck) else .stuck) else .stuck) else .stuck) else (bif (decide ((aJ.length:Int)>400)) then (.ret [.nils,(.int .i64 4)]) else (.ret [(.dat aJ.length (Zz aJ)),(.int .i64 0)])))
 | .h3 v4 v38 aJ aX bG bH aI aL aF bC aB=>(bif (decide (v38<(l0.length:Int))) then (bif ((decide (0≤v38∧v38<(l0.length:Int)))&&true) then (bif (decide ((rd l0 v38.toNat).a ≤aF)) then (bif (decide (aF<(rd l0 v38.toNat).c)) then (bif (Nat.beq 2 2&&((decide (0+aB.length=aB.length))&&decide ((aB.length+1+1)*(16+1)≤Kj))) then (.to (.h3 v4 (wrap .i64 (v38+1)) aJ aX bG bH aI aL aF bC (aB++[(R2.mk (rd l0 v38.toNat).b (rd l0 v38.toNat).d)]))) else .stuck) else (.to (.h3 v4 (wrap .i64 (v38+1)) aJ aX bG bH aI aL aF bC aB))) else (.to (.h3 v4 (wrap .i64 (v38+1)) aJ aX bG bH aI aL aF bC aB))) else .stuck) else (.to (.h4 v4 0 aJ aX bG bH aI aL aF bC aB ([]:List R2))))
 | .h4 v4 v38 aJ aX bG bH aI aL aF bC aB aG=>(bif (decide (v38<(l1.length:Int))) then (bif ((decide (0≤v38∧v38<(l1.length:Int)))&&true) then (bif (decide ((rd l1 v38.toNat).a ≤aF)) then (bif (decide (aF<(rd l1 v38.toNat).c)) then (bif (Nat.beq 2 2&&((decide (0+aG.length=aG.length))&&decide ((aG.length+1+1)*(16+1)≤Kj))) then (.to (.h4 v4 (wrap .i64 (v38+1)) aJ aX bG bH aI aL aF bC aB (aG++[(R2.mk (rd l1 v38.toNat).b (rd l1 v38.toNat).d)]))) else .stuck) else (.to (.h4 v4 (wrap .i64 (v38+1)) aJ aX bG bH aI aL aF bC aB aG))) else (.to (.h4 v4 (wrap .i64 (v38+1)) aJ aX bG bH aI aL aF bC aB aG))) else .stuck) else (bif ((x1k q) (cvT aB) (cvT aG)) then (bif (((w6o q) (cvT aB) (cvT aG)) != 0) then (.ret [.nils,(.int .i64 ((w6o q) (cvT aB) (cvT aG)))]) else (bif (decide (((((z4j q) (cvT aB) (cvT aG)).length :Nat):Int)>0)) then (bif (bH == aF) then (bif (Ve (cvT aX) (cvT ((z4j q) (cvT aB) (cvT aG)))) then (bif (Qm (cvT aX) (cvT ((z4j q) (cvT aB) (cvT aG)))) then (.to (.h6 bC bG aF ((z4j q) (cvT aB) (cvT aG)) v4 aJ aX bG bH aI aL aB aG)) else (.to (.h5 aF bC ((z4j q) (cvT aB) (cvT aG)) ((((z4j q) (cvT aB) (cvT aG)).length :Nat):Int) 0 v4 aJ (aJ.length:Int) aI aL aB aG))) else .stuck) else (.to (.h5 aF bC ((z4j q) (cvT aB) (cvT aG)) ((((z4j q) (cvT aB) (cvT aG)).length :Nat):Int) 0 v4 aJ (aJ.length:Int) aI aL aB aG))) else (.to (.h5 aF bC ((z4j q) (cvT aB) (cvT aG)) ((((z4j q) (cvT aB) (cvT aG)).length :Nat):Int) 0 v4 aJ (aJ.length:Int) aI aL aB aG)))) else .stuck))
 | .h5 v1 v2 v71 v72 v73 bD aD bF aI aL aF bC=>(bif (decide (v73<v72)) then (bif ((decide (0≤v73∧v73<(v71.length:Int)))&&true) then (bif (Nat.beq 4 4&&((decide (0+aD.length=aD.length))&&decide ((aD.length+1+1)*(32+1)≤Kj))) then (.to (.h5 v1 v2 v71 v72 (wrap .i64 (v73+1)) bD (aD++[(R4.mk v1 (rd v71 v73.toNat).a v2 (rd v71 v73.toNat).b)]) bF aI aL aF bC)) else .stuck) else .stuck) else (.to (.h2 (wrap .i64 (bD+1)) aD v71 bF v2 aI aL)))
 | .h6 v2 v8 dD dE bD aD bJ bF bT bP bW aB aG=>(bif (decide (v8<(aD.length:Int))) then (bif ((decide (0≤v8∧v8<(aD.length:Int)))&&true) then (bif (decide ((0+v8.toNat)<aD.length)) then (.to (.h6 v2 (wrap .i64 (v8+1)) dD dE bD (aD.set (0+v8.toNat) (R4.mk (rd aD (0+v8.toNat)).a (rd aD (0+v8.toNat)).b v2 (rd aD (0+v8.toNat)).d)) bJ bF bT bP bW aB aG)) else .stuck) else .stuck) else (.to (.h2 (wrap .i64 (bD+1)) aD bJ bF v2 bP bW)))
def y3s (q:Op) (l0:List R4) (l1:List R4):Xw rgjS:=(bif (z4r (cvT l0)) then (bif ((y2i (cvT l0)) != 0) then (.ret [.nils,(.int .i64 (y2i (cvT l0)))]) else (bif (z4r (cvT l1)) then (bif ((y2i (cvT l1)) != 0) then (.ret [.nils,(.int .i64 (y2i (cvT l1)))]) else (.to (.h0 0 ([]:List Int)))) else .stuck)) else .stuck)
theorem w7u (q:Op) (l0:List R4) (l1:List R4): ∀s,Xu prog (Zy prog (nRg q)) (rgjC q l0 l1) (rgjC q l0 l1 s) (Yt q l0 l1 s):=by cases q <;> refine (?f: ∀q:Op,∀s,Xu prog (Zy prog (nRg q)) (rgjC q l0 l1) (rgjC q l0 l1 s) (Yt q l0 l1 s)) _ <;> exact fun q=>fun
 | .h0 v16 aC=>(lb (fun k0=>(lo fun o0=>(lo fun o1=>(sl Kd 32 [] ⟨[0,1,2,3,4,5,6,10],[],rgjN0,rgjM0⟩ ⟨[],[.keep,.keep,.cells [.len (y0d aC l0 v16).length],.keep,.keep,.keep,.keep,.rowed 1 (y0d aC l0 v16).length (Zz (y0d aC l0 v16))],[]⟩ [true] (pp (xL (aC.length+2) (y0d aC l0 v16).length) (pp (xL (aC.length+2) (y0d aC l0 v16).length) (pp (xS (aC.length+2) (Yy (Zz aC) 0 aC.length 1 [(ii (rd l0 (tn v16)).a),(ii (rd l0 (tn v16)).c)]) (Zz (y0d aC l0 v16))) (pp (pp (xF (Yy (Zz aC) 0 aC.length 1 [(ii (rd l0 (tn v16)).a),(ii (rd l0 (tn v16)).c)])) nn) (ww o1 (ww o0 (tt k0 nn))))))))))) (fun k0=>(sl Kd 36 [] ⟨(List.range 8),[],rgjN1,rgjM1⟩ ⟨[],[],[]⟩ (bl 2 2) (pp (fl aC nn) (tt k0 nn)))))
 | .h1 v16 aC=>(lb (fun k0=>(lo fun o0=>(lo fun o1=>(sl Kd 32 [] ⟨[0,1,2,3,4,5,6,10],[],rgjN1,rgjM1⟩ ⟨[],[.keep,.keep,.cells [.len (y0c aC l1 v16).length],.keep,.keep,.keep,.keep,.rowed 1 (y0c aC l1 v16).length (Zz (y0c aC l1 v16))],[]⟩ [true] (pp (xL (aC.length+2) (y0c aC l1 v16).length) (pp (xL (aC.length+2) (y0c aC l1 v16).length) (pp (xS (aC.length+2) (Yy (Zz aC) 0 aC.length 1 [(ii (rd l1 (tn v16)).a),(ii (rd l1 (tn v16)).c)]) (Zz (y0c aC l1 v16))) (pp (pp (xF (Yy (Zz aC) 0 aC.length 1 [(ii (rd l1 (tn v16)).a),(ii (rd l1 (tn v16)).c)])) nn) (ww o1 (ww o0 (tt k0 nn))))))))))) (fun k0=>(lo fun o0=>(lo fun o1=>(sl Kd 46 [(116,4,Zz ([]:List R4))] ⟨[8,3,4,5,6,2,7,0,1,9],[],j3h,j3i⟩ ⟨[],(kpB 4 [.cells [.grow 9 4,.list 0 (Zz ([]:List R2)),.keep,.keep],.keep,.rowed 1 (y9s aC).length (Zz (y9s aC)),.keep,.keep,.keep]),[]⟩ (bl 2 0) (pp (xL aC.length (y9s aC).length (by first | exact z2p _ _ | exact Un rfl)) (pp (xS aC.length (Zz (y9s aC)) (Zz (y9s aC))) (pp (fl (y9s aC) (fl ([]:List R4) nn)) (pp (pp (xG (Nat.beq 1 1)) (pp (xG (Nat.beq 1 1)) (pp (xG (Nat.beq 0 0)) (pp (xG (decide (aC.length=aC.length))) (pp (xG (isI (Zz (Xa (Yd aC.length (cOf (Zz aC))))))) (xG (decide (aC.length<4611686018427387904)))))))) (pp (pp (xG (Nat.beq 1 1)) (pp (xG (Nat.beq 1 1)) (pp (xG (Nat.beq 0 0)) (pp (xG (decide (aC.length=aC.length))) (pp (xG (isI (Zz aC))) (xG (decide (aC.length<4611686018427387904)))))))) (tt k0 nn)))))))))))
 | .h2 v4 aJ aX bG bH aI aL=>(lb (fun k0=>(lo fun o0=>(lo fun o1=>(lo fun o2=>(lo fun o3=>(sl Kd 48 [(176,2,Zz ([]:List R2))] ⟨[0,1,2,3,4,5,6,7,8,10,11,12,9],[],u1g,u1j⟩ ⟨[],(kpB 10 [.cells [.grow 11 2,.keep],.keep,.keep]),[]⟩ (trs 3 []) (pp (fl aL (fl ([]:List R2) (fl aJ nn))) (ww o3 (ww o2 (ww o1 (ww o0 (tt k0 nn)))))))))))) (fun k0=>(lb (fun k1=>(lr 11 3 [1,1,1,1,0] 1 16 [(4,.nils),(5,(ii 4))] (sl Kd 49 [] ⟨[],[],[some [4,5]],[]⟩ ⟨[],[],[]⟩ (bl 2 2) (tt k1 (tt k0 nn))))) (fun k1=>(lr 11 3 [1,1,1,1,0] 1 16 [(4,(.dat aJ.length (Zz aJ))),(5,(ii 0))] (sl Kd 54 [] ⟨[],[9],[some [4,5]],[]⟩ ⟨[(4,.frz aJ.length aJ.length (Zz aJ) (Zz aJ))],[],[]⟩ (bl 2 0) (pp (xZ (z7j 4 4 0 aJ.length aJ.length (Zz aJ)) aJ.length (Zz aJ)) (pp (xL aJ.length aJ.length) (pp (xS aJ.length (Zz aJ) (Zz aJ)) (pp (fl aJ nn) (tt k1 (tt k0 nn))))))))))))
 | .h3 v4 v38 aJ aX bG bH aI aL aF bC aB=>(lb (fun k0=>(lo fun aE=>(lb (fun k1=>(lb (fun k2=>(lo fun o0=>(sl Kd 39 [] ⟨[0,1,2,3,4,5,6,7,8,9,10,15,12],[],u1g,u1j⟩ ⟨[],(kpB 10 [.cells [.len (y9r aB l0 v38).length,.keep],.rowed 2 (y9r aB l0 v38).length (Zz (y9r aB l0 v38)),.keep]),[]⟩ (trs 7 []) (pp (xL (aB.length+1) (y9r aB l0 v38).length) (pp (xL (aB.length+1) (y9r aB l0 v38).length) (pp (xS (aB.length+1) (Yy (Zz aB) 0 aB.length 2 [(ii (rd l0 (tn v38)).b),(ii (rd l0 (tn v38)).d)]) (Zz (y9r aB l0 v38))) (pp (fl aL (pp (xF (Yy (Zz aB) 0 aB.length 2 [(ii (rd l0 (tn v38)).b),(ii (rd l0 (tn v38)).d)])) (fl aJ nn))) (ww o0 (tt k2 (tt k1 (ww aE (tt k0 nn)))))))))))) (fun k2=>(sl Kd 39 [] ⟨(List.range 13),[],u1g,u1j⟩ ⟨[],[],[]⟩ (trs 6 [false]) (pp (fl aL (fl aB (fl aJ nn))) (tt k2 (tt k1 (ww aE (tt k0 nn))))))))) (fun k1=>(sl Kd 39 [] ⟨(List.range 13),[],u1g,u1j⟩ ⟨[],[],[]⟩ (bl 7 1) (pp (fl aL (fl aB (fl aJ nn))) (tt k1 (ww aE (tt k0 nn))))))))) (fun k0=>(sl Kd 38 [(176,2,Zz ([]:List R2))] ⟨[0,1,2,3,4,5,6,7,8,9,10,11,13,12],[],u1f,u1i⟩ ⟨[],(kpB 10 [.cells [.keep,.grow 12 2],.keep,.keep,.keep]),[]⟩ (bl 2 2) (pp (fl aL (fl aB (fl ([]:List R2) (fl aJ nn)))) (tt k0 nn)))))
 | .h4 v4 v38 aJ aX bG bH aI aL aF bC aB aG=>(lb (fun k0=>(lo fun aE=>(lb (fun k1=>(lb (fun k2=>(lo fun o0=>(sl Kd 39 [] ⟨[0,1,2,3,4,5,6,7,8,9,10,11,16,13],[],u1f,u1i⟩ ⟨[],(kpB 10 [.cells [.keep,.len (y9q aG l1 v38).length],.keep,.rowed 2 (y9q aG l1 v38).length (Zz (y9q aG l1 v38)),.keep]),[]⟩ (trs 7 []) (pp (xL (aG.length+1) (y9q aG l1 v38).length) (pp (xL (aG.length+1) (y9q aG l1 v38).length) (pp (xS (aG.length+1) (Yy (Zz aG) 0 aG.length 2 [(ii (rd l1 (tn v38)).b),(ii (rd l1 (tn v38)).d)]) (Zz (y9q aG l1 v38))) (pp (fl aL (fl aB (pp (xF (Yy (Zz aG) 0 aG.length 2 [(ii (rd l1 (tn v38)).b),(ii (rd l1 (tn v38)).d)])) (fl aJ nn)))) (ww o0 (tt k2 (tt k1 (ww aE (tt k0 nn)))))))))))) (fun k2=>(sl Kd 39 [] ⟨(List.range 14),[],u1f,u1i⟩ ⟨[],[],[]⟩ (trs 6 [false]) (pp (fl aL (fl aB (fl aG (fl aJ nn)))) (tt k2 (tt k1 (ww aE (tt k0 nn))))))))) (fun k1=>(sl Kd 39 [] ⟨(List.range 14),[],u1f,u1i⟩ ⟨[],[],[]⟩ (bl 7 1) (pp (fl aL (fl aB (fl aG (fl aJ nn)))) (tt k1 (ww aE (tt k0 nn))))))))) (fun k0=>(Xd (sl Kd (C':=⟨⟨49,0,true⟩,none,(Zb prog 84 [1,1,1,0,1,0,1,0,0] 0),(some 0),[],⟨Yg [(5,(.ptr 1 0)),(6,(.ptr 2 0)),(7,(.ptr 3 0)),(9,(.ptr 4 0)),(10,(.ptr 6 0))],z7i [(1,⟨[(.fn (nSp q) [])],123,none⟩),(2,⟨[.nils],81,none⟩),(3,⟨[(ii 0)],24,none⟩),(4,⟨[(.sla 5 4 0 aJ.length (.un 4)),(.dat aX.length (Zz aX)),(ii bG),(ii bH)],157,none⟩),(5,⟨Ym aJ.length (Zz aJ),116,some ⟨4,aJ.length,(Zz aJ)⟩⟩),(6,⟨[(ii aF),(ii bC),(.sl 7 0 2 (.ex 2))],162,none⟩),(7,⟨[(.dat aB.length (Zz aB)),(.dat aG.length (Zz aG))],155,none⟩),(8,⟨[(.sla 9 1 0 aI (.un 1))],125,none⟩),(9,⟨Ym aL.length (Zz aL),3,some ⟨1,aL.length,(Zz aL)⟩⟩),(10,⟨[(.sl 11 0 2 (.un 1))],197,none⟩),(11,⟨[(.dat l0.length (Zz l0)),(.dat l1.length (Zz l1))],81,none⟩)],12,[],true⟩,[⟨⟨76,0,true⟩,(Vj prog 158 [1,0,0,1,0,0,1,1,0] 2),(Zb prog 158 [1,0,0,1,0,0,1,1,0] 1),none,[],Yg [(0,(.yld 0)),(1,(.ptr 8 0)),(2,(.ptr 10 0)),(4,(ii v4)),(72,(.yld 0)),(73,(.agg [(ii aF),(ii bC),(.sl 7 0 2 (.ex 2))]))]⟩,⟨⟨49,0,true⟩,none,(.inRangeFunc 0::(Zb prog 84 [1,1,1,0,1,0] 1)),none,(Zy prog 84),Yg [(6,(.ptr 2 0)),(7,(.ptr 3 0)),(9,(.ptr 4 0))]⟩,⟨⟨11,0,true⟩,(Vj prog (nRg q) [1,0] 2),(Zb prog (nRg q) [1,0] 1),none,(Zy prog 16),Yg [(6,(.dat l0.length (Zz l0))),(7,(.dat l1.length (Zz l1)))]⟩],(y4a [(0,⟨.busy,none,49,Yg [(5,(.ptr 1 0)),(6,(.ptr 2 0)),(7,(.ptr 3 0)),(9,(.ptr 4 0))],[23],(Wo prog 84 [1,1,1,0,1,0,0]),(Wo prog 84 [1,1,1,0,1,0,1])⟩)])⟩) 32 [] ⟨[0,1,2,3,4,13,14,10,5,6,7,8],[11,12],[some [5,6,7,9,10],some [0,1,2,4,72,73],some [6,7,9],some [6,7]],[some [5,6,7,9],none,none,none,none,none,none,none,none,none,none,none]⟩ ⟨[],[.keep,.keep,.keep,.keep,.keep,.keep,.keep,.cells [.frz aB.length aB.length (Zz aB) (Zz aB),.frz aG.length aG.length (Zz aG) (Zz aG)],.keep,.keep,.keep,.keep],[]⟩ (bl 2 0) (pp (xZ (z7j 2 2 0 aB.length aB.length (Zz aB)) aB.length (Zz aB)) (pp (xL aB.length aB.length) (pp (xS aB.length (Zz aB) (Zz aB)) (pp (xZ (z7j 2 2 0 aG.length aG.length (Zz aG)) aG.length (Zz aG)) (pp (xL aG.length aG.length) (pp (xS aG.length (Zz aG) (Zz aG)) (pp (fl aJ (fl aL nn)) (pp (fl aB (fl aG nn)) (tt k0 nn)))))))))) (lo fun aE=>(lb (fun k1=>(lr 11 3 [1,1,1,1,0] 1 16 [(4,.nils),(5,(ii ((w6o q) (cvT aB) (cvT aG))))] (sl Kd 26 [] ⟨[],[],[some [4,5]],[]⟩ ⟨[],[],[]⟩ (bl 2 3) (tt k1 (pp (pp (xr aB) (pp (xr aG) (xw aE))) nn))))) (fun k1=>(lb (fun k2=>(lb (fun k3=>(lo fun cD=>(lb (fun k4=>(sl Kd 51 [] ⟨[4,5,0,1,2,3,8,9,10,11,7],[],rgjN6,rgjM6⟩ ⟨[],[],[]⟩ (bl 14 16382) (pp (fl aJ (fl aL nn)) (tt k4 (pp (pp (xr aX) (pp (xI R2 ((z4j q) (cvT aB) (cvT aG)).length (Zz ((z4j q) (cvT aB) (cvT aG)))) (xw cD))) (tt k3 (tt k2 (tt k1 (pp (pp (xr aB) (pp (xr aG) (xw aE))) nn))))))))) (fun k4=>(sl Kd 71 [] ⟨[4,0,1,2,3,8,9,10,11,7,5],[],u1e,u1h⟩ ⟨[],[],[]⟩ (bl 14 8190) (pp (fl aL (fl aJ nn)) (tt k4 (pp (pp (xr aX) (pp (xI R2 ((z4j q) (cvT aB) (cvT aG)).length (Zz ((z4j q) (cvT aB) (cvT aG)))) (xw cD))) (tt k3 (tt k2 (tt k1 (pp (pp (xr aB) (pp (xr aG) (xw aE))) nn)))))))))))) (fun k3=>(sl Kd 71 [] ⟨[4,0,1,2,3,8,9,10,11,7,5],[],u1e,u1h⟩ ⟨[],[],[]⟩ (bl 14 126) (pp (fl aL (fl aJ nn)) (tt k3 (tt k2 (tt k1 (pp (pp (xr aB) (pp (xr aG) (xw aE))) nn))))))))) (fun k2=>(sl Kd 71 [] ⟨[4,0,1,2,3,8,9,10,11,7,5],[],u1e,u1h⟩ ⟨[],[],[]⟩ (bl 14 0) (pp (fl aL (fl aJ nn)) (tt k2 (tt k1 (pp (pp (xr aB) (pp (xr aG) (xw aE))) nn)))))))))))))
 | .h5 v1 v2 v71 v72 v73 bD aD bF aI aL aF bC=>(lb (fun k0=>(lo fun o0=>(lo fun o1=>(sl Kd 23 [] ⟨[0,1,2,3,4,5,6,7,8,9,13],[],u1e,u1h⟩ ⟨[],[.cells [.len (y0e aD v1 v71 v73 v2).length,.keep,.keep,.keep],.keep,.keep,.keep,.keep,.keep,.keep,.keep,.keep,.keep,.rowed 4 (y0e aD v1 v71 v73 v2).length (Zz (y0e aD v1 v71 v73 v2))],[]⟩ [true] (pp (xL (aD.length+1) (y0e aD v1 v71 v73 v2).length) (pp (xL (aD.length+1) (y0e aD v1 v71 v73 v2).length) (pp (xS (aD.length+1) (Yy (Zz aD) 0 aD.length 4 [(ii v1),(ii (rd v71 (tn v73)).a),(ii v2),(ii (rd v71 (tn v73)).b)]) (Zz (y0e aD v1 v71 v73 v2))) (pp (fl aL (pp (xF (Yy (Zz aD) 0 aD.length 4 [(ii v1),(ii (rd v71 (tn v73)).a),(ii v2),(ii (rd v71 (tn v73)).b)])) nn)) (ww o1 (ww o0 (tt k0 nn))))))))))) (fun k0=>(sl Kd 22 [] ⟨[1,2,3,4,0,5,6,7,8,10],[],j3h,j3i⟩ ⟨[],[],[]⟩ (bl 2 0) (pp (fl aL (fl aD nn)) (tt k0 nn)))))
 | .h6 v2 v8 dD dE bD aD bJ bF bT bP bW aB aG=>(lb (fun k0=>(lo fun o0=>(lo fun o1=>(sl Kd 33 [] ⟨(List.range 11),[],rgjN6,rgjM6⟩ ⟨[],[.cells [.len (y9t aD v8 v2).length,.keep,.keep,.keep],.rowed 4 (y9t aD v8 v2).length (Zz (y9t aD v8 v2)),.keep,.keep,.keep,.keep,.keep,.keep,.keep,.keep,.keep],[]⟩ [true] (pp (xL aD.length (y9t aD v8 v2).length) (pp (xL aD.length (y9t aD v8 v2).length) (pp (xS aD.length (Xh (Zz aD) (0+(tn v8)) 2 [(ii v2)]) (Zz (y9t aD v8 v2))) (pp (pp (xF (Xh (Zz aD) (0+(tn v8)) 2 [(ii v2)])) (fl bW nn)) (ww o1 (ww o0 (tt k0 nn))))))))))) (fun k0=>(sl Kd 36 [] ⟨[2,3,4,5,0,6,7,8,9,1],[],j3h,j3i⟩ ⟨[],[],[]⟩ (bl 2 0) (pp (fl bW (fl aD nn)) (tt k0 nn)))))
theorem x9f (q:Op) (l0:List R4) (l1:List R4):Xu prog (Zy prog (nRg q)) (rgjC q l0 l1) (Za prog (nRg q) [(.dat l0.length (Zz l0)),(.dat l1.length (Zz l1))] true []) (y3s q l0 l1):=by cases q <;> exact (lo fun bN=>(lb (fun k0=>(lr 11 3 [1,1,1,1,0] 1 16 [(4,.nils),(5,(ii (y2i (cvT l0))))] (sl Kd 65 [] ⟨[],[],[some [4,5]],[]⟩ ⟨[],[],[]⟩ [true,true] (tt k0 (tt k0 (pp (pp (xr l0) (xw bN)) nn)))))) (fun k0=>(lo fun aE=>(lb (fun k1=>(lr 11 3 [1,1,1,1,0] 1 16 [(4,.nils),(5,(ii (y2i (cvT l1))))] (sl Kd 67 [] ⟨[],[],[some [4,5]],[]⟩ ⟨[],[],[]⟩ [false,true] (tt k1 (pp (pp (xr l1) (xw aE)) (tt k0 (pp (pp (xr l0) (xw bN)) nn))))))) (fun k1=>(sl Kd 108 [(3,1,Zz ([]:List Int))] ⟨[5,4,6,0,1,2,3,7],[],rgjN0,rgjM0⟩ ⟨[],[.keep,.keep,.cells [.grow 7 1],.keep,.keep,.keep,.keep,.keep],[]⟩ [false,false,true] (pp (fl ([]:List Int) nn) (tt k1 (pp (pp (xr l1) (xw aE)) (tt k0 (pp (pp (xr l0) (xw bN)) nn))))))))))))
theorem u1d (q:Op) (l0:List R4) (l1:List R4) (n:Nat) (vs:List AVal) (h:Yx (Yt q l0 l1) n (y3s q l0 l1)=.ret vs):Ur prog (Zy prog (nRg q)) (Za prog (nRg q) [(.dat l0.length (Zz l0)),(.dat l1.length (Zz l1))] true []) vs:=by have:=Zc (w7u q l0 l1) n _ (x9f q l0 l1);rwa [h] at this
def y7s (E:Int→Int) (cs:List Int):Nat→Nat→Int
 | 0,_=>0
 | k+1,i=>bif E (rd cs i) != 0 then E (rd cs i) else y7s E cs k (i+1)
def eJ (e:Int) (n:Nat):Int:=bif e != 0 then e else x6c n
theorem w4b {α:Type} [Xk α] (L:List α):z9p (eJ 0 L.length) L=z1t L:=(y6z L).symm
theorem z9h {n:Nat} (h:x6c n=0):n≤400:=by
 grind [x6c]
theorem x5v {α:Type} {e:Int} (L:List α) (h:(e != 0)=false):y8b e L=L:=by unfold y8b;rw [h];rfl
def rgS (q:Op) (a b:List R4) (x:Int):List R2:=spJ q.k (D4.inn a x) (D4.inn b x)
def rgA (q:Op) (a b:List R4) (x:Int):Int:=spE q.k (D4.inn a x) (D4.inn b x)
theorem j3k (q:Op) (a b:List R4) (x:Int) (h:(rgA q a b x != 0)=false):(rgS q a b x).length ≤1000:=by
 have h:rgA q a b x=0:=by simpa using h
 unfold rgA spE at h;cases g1:(y9l (D4.inn a x) != 0) with
 | true=>grind
 | false=>
  cases g2:(y9l (D4.inn b x) != 0) with
  | true=>grind
  | false=>rw [g1,g2,Ac,Ac] at h;exact AE (z9h h) (by omega)
section
variable (q:Op) (a b:List R4) (ha:a.length≤400) (hb:b.length≤400)
include ha hb
theorem u7z (i:Nat) (out:List R4) (last:List R2) (first fin x x':Int): ∀(k j:Nat) (acc:List R2),j+k=a.length→acc.length≤j→
  ∃n,∀N,Yx (Yt q a b) (N+n) (.to (.h3 (i:Int) (j:Int) out last first fin ((D4.cuts (a++b)).length) (Wn (Xa (D4.ends (a++b)))) x x' acc))=Yx (Yt q a b) N (.to (.h4 (i:Int) 0 out last first fin ((D4.cuts (a++b)).length) (Wn (Xa (D4.ends (a++b)))) x x' (acc++D4.inn (a.drop j) x) []))
 | 0,j,acc,h,h'=>by
  have _u:=ha;have _v:=hb;refine ⟨1,fun N=> ?_⟩;rw [As (by omega),show D4.inn ([]:List R4) x=[] from rfl,AF,Zw]
  grind [Yt]
 | k+1,j,acc,h,h'=>by
  have hj:j<a.length:=by omega
  obtain ⟨n,hn⟩:=u7z i out last first fin x x' k (j+1) (acc++D4.inn [rd a j] x) (by omega) (by have:=D4.inn_length [rd a j] x;grind)
  refine ⟨n+1,fun N=> ?_⟩;have e:D4.inn (a.drop j) x=D4.inn [rd a j] x++D4.inn (a.drop (j+1)) x:=by rw [Yq hj,←D4.inn_append];rfl
  rw [e,←AC,Zw,←AN,←hn N];by_cases h1:D4.lo (rd a j)≤x
  ·by_cases h2:x<D4.hi (rd a j)
   ·rw [D4.inn_t _ _ h1 h2];simp only [D4] at h1 h2 ⊢;simp (disch:=omega) only [Yt,Xo,Zd,Zq,Zs,Zt,Yb,Yw,Yu,Zf,Zk,Zx,Yc,Zj,Af,Ao,Ah,Ak,Ae,Ac]
   ·rw [D4.inn_f2 _ _ h2,AF];simp only [D4] at h1 h2;simp (disch:=omega) only [Yt,Xo,Yf,Zd,Zq,Zs,Zt,Yb,Yw,Yu,Zf,Zk,Zx,Yc,Zj,Af,Ao,Ah,Ak,Ae,Ac]
  ·rw [D4.inn_f1 _ _ h1,AF];simp only [D4] at h1;simp (disch:=omega) only [Yt,w9t,Zd,Zq,Zs,Zt,Yb,Yw,Yu,Zf,Zk,Zx,Yc,Zj,Af,Ao,Ah,Ak,Ae,Ac]
theorem u7y (i:Nat) (out:List R4) (last:List R2) (first fin x x':Int) (o1:List R2): ∀(k j:Nat) (acc:List R2),j+k=b.length→acc.length≤j→
  ∃n,∀N,Yx (Yt q a b) (N+n) (.to (.h4 (i:Int) (j:Int) out last first fin ((D4.cuts (a++b)).length) (Wn (Xa (D4.ends (a++b)))) x x' o1 acc))=Yx (Yt q a b) N (.to (.h4 (i:Int) (b.length:Int) out last first fin ((D4.cuts (a++b)).length) (Wn (Xa (D4.ends (a++b)))) x x' o1 (acc++D4.inn (b.drop j) x)))
 | 0,j,acc,h,h'=>by have _u:=ha;have _v:=hb;refine ⟨0,fun N=> ?_⟩;rw [As (by omega),show D4.inn ([]:List R4) x=[] from rfl,AF,A7,show j=b.length by omega]
 | k+1,j,acc,h,h'=>by
  have hj:j<b.length:=by omega
  obtain ⟨n,hn⟩:=u7y i out last first fin x x' o1 k (j+1) (acc++D4.inn [rd b j] x) (by omega) (by have:=D4.inn_length [rd b j] x;grind)
  refine ⟨n+1,fun N=> ?_⟩;have e:D4.inn (b.drop j) x=D4.inn [rd b j] x++D4.inn (b.drop (j+1)) x:=by rw [Yq hj,←D4.inn_append];rfl
  rw [e,←AC,Zw,←AN,←hn N];by_cases h1:D4.lo (rd b j)≤x
  ·by_cases h2:x<D4.hi (rd b j)
   ·rw [D4.inn_t _ _ h1 h2];simp only [D4] at h1 h2 ⊢;simp (disch:=omega) only [Yt,Xo,Zd,Zq,Zs,Zt,Yb,Yw,Yu,Zf,Zk,Zx,Yc,Zj,Af,Ao,Ah,Ak,Ae,Ac]
   ·rw [D4.inn_f2 _ _ h2,AF];simp only [D4] at h1 h2;simp (disch:=omega) only [Yt,Xo,Yf,Zd,Zq,Zs,Zt,Yb,Yw,Yu,Zf,Zk,Zx,Yc,Zj,Af,Ao,Ah,Ak,Ae,Ac]
  ·rw [D4.inn_f1 _ _ h1,AF];simp only [D4] at h1;simp (disch:=omega) only [Yt,w9t,Zd,Zq,Zs,Zt,Yb,Yw,Yu,Zf,Zk,Zx,Yc,Zj,Af,Ao,Ah,Ak,Ae,Ac]
theorem u7x (i:Nat) (hi:i≤2000) (x x':Int) (s:List R2) (first:Int) (o1 o2:List R2) (hs:s.length≤1000): ∀(k j:Nat) (out:List R4),j+k=s.length→out.length≤10000000+j→
  ∃n,∀N,Yx (Yt q a b) (N+n) (.to (.h5 x x' s (s.length:Int) (j:Int) (i:Int) out first ((D4.cuts (a++b)).length) (Wn (Xa (D4.ends (a++b)))) o1 o2))=Yx (Yt q a b) N (.to (.h2 ((i+1:Nat):Int) (out++(s.drop j).map (D4.put x x')) s first x' ((D4.cuts (a++b)).length) (Wn (Xa (D4.ends (a++b))))))
 | 0,j,out,h,ho=>by
  have _u:=ha;have _v:=hb;refine ⟨1,fun N=> ?_⟩
  grind [Zw,Yt,Zk]
 | k+1,j,out,h,ho=>by
  obtain ⟨n,hn⟩:=u7x i hi x x' s first o1 o2 hs k (j+1) (out++[D4.put x x' (rd s j)]) (by omega) (by simp;omega)
  refine ⟨n+1,fun N=> ?_⟩;have:=hn N;rw [Yq (show j<s.length by omega),AU,←AC,Zw];simp (disch:=omega) only [Yt,Zd,Zq,Zs,Zt,Yb,Yw,Yu,Zf,Zk,Zx,Yc,Zj,Af,Ao,Ah,Ak,Ae,Ac];rw [AN] at this;exact this
theorem u7w (i:Nat) (hi:i≤2000) (x x' fin:Int) (s last:List R2) (first:Int) (o1 o2:List R2): ∀(k j:Nat) (out:List R4),j+k=out.length→out.length≤10000000→
  ∃n,∀N,Yx (Yt q a b) (N+n) (.to (.h6 x' (j:Int) x s (i:Int) out last first fin ((D4.cuts (a++b)).length) (Wn (Xa (D4.ends (a++b)))) o1 o2))=Yx (Yt q a b) N (.to (.h2 ((i+1:Nat):Int) (D4.grow out j x') last first x' ((D4.cuts (a++b)).length) (Wn (Xa (D4.ends (a++b))))))
 | 0,j,out,h,ho=>by
  have _u:=ha;have _v:=hb;refine ⟨1,fun N=> ?_⟩;rw [D4.grow_nil _ _ _ (by omega),Zw]
  grind [Yt,Zk]
 | k+1,j,out,h,ho=>by
  obtain ⟨n,hn⟩:=u7w i hi x x' fin s last first o1 o2 k (j+1) (out.set j (D4.ext x' (rd out j))) (by simp;omega) (by grind)
  refine ⟨n+1,fun N=> ?_⟩;have:=hn N;rw [D4.grow_set out j _ (by omega)] at this;rw [←AC,Zw];simp (disch:=omega) only [Yt,Zd,Zq,Zs,Zt,Yb,Yw,Yu,Zf,Zk,Zx,Yc,Zj,Af,Ao,Ah,Ak,Ae,Ac];exact this
theorem v3q : ∀(k i:Nat) (s:Sw R4 R2),k=(D4.cuts (a++b)).length - 1 - i→i≤(D4.cuts (a++b)).length →s.out.length≤i*1000→s.last.length≤1000→s.first≤s.out.length→
  ∃n,Yx (Yt q a b) n (.to (.h2 ((i+1:Nat):Int) s.out s.last (s.first:Int) s.fin ((D4.cuts (a++b)).length) (Wn (Xa (D4.ends (a++b))))))=.ret (z9p (eJ (y7s (rgA q a b) (D4.cuts (a++b)) k i) (D4.goS (rgS q a b) (D4.cuts (a++b)) k i s).out.length) (D4.goS (rgS q a b) (D4.cuts (a++b)) k i s).out)
 | 0,i,s,h,hi,ho,hla,hf=>by
  have _u:=ha;have _v:=hb;have hc:=D4.cuts_length (a++b);refine ⟨1,?_⟩;rw [Zw,show D4.goS (rgS q a b) (D4.cuts (a++b)) 0 i s=s from rfl,show y7s (rgA q a b) (D4.cuts (a++b)) 0 i=0 from rfl,w4b]
  grind [z1t,Yt,Zp]
 | k +1,i,s,h,hi,ho,hla,hf=>by
  have hc:=D4.cuts_length (a++b);rw [AQ] at hc;have hi1:i+1<(D4.cuts (a++b)).length :=by omega
  have hpl:(Wn (Xa (D4.ends (a++b)))).length =2*(a.length+b.length):=by rw [Jy,Vm,D4.ends_length,AQ]
  have r0:rd (Wn (Xa (D4.ends (a++b)))) i=rd (D4.cuts (a++b)) i:=z5z _ _ (by show i<(D4.cuts (a++b)).length;omega);have r1:rd (Wn (Xa (D4.ends (a++b)))) (i+1)=rd (D4.cuts (a++b)) (i+1):=z5z _ _ (by show i+1<(D4.cuts (a++b)).length;omega);have hbig:i*1000≤2000*1000:=Az _ (by omega);have hgo:D4.goS (rgS q a b) (D4.cuts (a++b)) (k+1) i s=D4.goS (rgS q a b) (D4.cuts (a++b)) k (i+1) (D4.oneS (rgS q a b (rd (D4.cuts (a++b)) i)) (rd (D4.cuts (a++b)) i) (rd (D4.cuts (a++b)) (i+1)) s):=rfl;have hfe: ∀x,x=rd (D4.cuts (a++b)) i→(rgA q a b x != 0)=false→y7s (rgA q a b) (D4.cuts (a++b)) (k+1) i=y7s (rgA q a b) (D4.cuts (a++b)) k (i+1):=fun x hx z=>by
   show (bif rgA q a b (rd (D4.cuts (a++b)) i) != 0 then _ else _)=_
   grind
  revert hgo hfe r0;generalize hx:rd (D4.cuts (a++b)) i=x;generalize hx':rd (D4.cuts (a++b)) (i+1)=x' at r1;intro r0 hgo hfe;obtain ⟨n3,h3⟩:=u7z q a b ha hb (i+1) s.out s.last (s.first:Int) s.fin x x' a.length 0 [] (Af _) (Aq _);simp only [AT,A8,z7e] at h3;obtain ⟨n4,h4⟩:=u7y q a b ha hb (i+1) s.out s.last (s.first:Int) s.fin x x' (D4.inn a x) b.length 0 [] (Af _) (Aq _);simp only [AT,A8,z7e] at h4;have st0: ∀N,Yx (Yt q a b) (N+n4+n3+1) (.to (.h2 ((i+1:Nat):Int) s.out s.last (s.first:Int) s.fin ((D4.cuts (a++b)).length) (Wn (Xa (D4.ends (a++b))))))=Yx (Yt q a b) N (.to (.h4 ((i+1:Nat):Int) (b.length:Int) s.out s.last (s.first:Int) s.fin ((D4.cuts (a++b)).length) (Wn (Xa (D4.ends (a++b)))) x x' (D4.inn a x) (D4.inn b x))):=fun N=>by
   rw [←h4 N,←h3 (N+n4),Zw];have e1:wrap .i64 (((i+1:Nat):Int) - 1)=(i:Int):=by rw [Zn];exact Zk (by omega)
   simp (disch:=omega) only [Yt,e1,r0,r1,Zd,Zq,Zs,Zt,Yb,Yw,Yu,Zf,Zk,Zx,Yc,Zj,Af,Ao,Ah,Ak,Ae,Ac]
  have w1:x1k q (D4.inn a x) (D4.inn b x)=true:=rfl;have f1:z0v (Zz (D4.inn a x))=true:=Xm _;have f2:z0v (Zz (D4.inn b x))=true:=Xm _;rcases Yk (rgA q a b x != 0) with z | z
  ·have z':(w6o q (D4.inn a x) (D4.inn b x) != 0)=true:=z;refine ⟨1+n4+n3+1,?_⟩;rw [st0 1,Zw];have e:y7s (rgA q a b) (D4.cuts (a++b)) (k+1) i=rgA q a b x:=by show (bif rgA q a b (rd (D4.cuts (a++b)) i) != 0 then rgA q a b (rd (D4.cuts (a++b)) i) else _)=_;grind
   simp (disch:=omega) only [Yt,Yf,z',w1,f1,f2,Zd,Zq,Zs,Zt,Yb,Yw,Yu,Zf,Zk,Zx,Yc,Zj,Af,Ao,Ah,Ak,Ae,Ac,Zp];rw [e,show eJ (rgA q a b x) _=rgA q a b x by unfold eJ;rw [z];rfl,Vh _ z];rfl
  have z':(w6o q (D4.inn a x) (D4.inn b x) != 0)=false:=z;have v:z4j q (D4.inn a x) (D4.inn b x)=rgS q a b x:=x5v _ z;have hsl:=j3k q a b x z;have w2:Ve s.last (rgS q a b x)=true:=An (by omega);rw [hgo,hfe x rfl z];have ol:(D4.oneS (rgS q a b x) x x' s).out.length ≤s.out.length+(rgS q a b x).length :=by
   grind [Dim.oneS,Dim.grow_length]
  rcases Yk (decide (0<(rgS q a b x).length)&&((s.fin == x)&&D4.same s.last (rgS q a b x))) with g | g
  ·obtain ⟨n6,h6⟩:=u7w q a b ha hb (i+1) (by omega) x x' s.fin (rgS q a b x) s.last (s.first:Int) (D4.inn a x) (D4.inn b x) (s.out.length - s.first) s.first s.out (by omega) (by omega)
   have e:D4.oneS (rgS q a b x) x x' s=⟨D4.grow s.out s.first x',s.last,s.first,x'⟩:=by unfold Dim.oneS;rw [g];rfl
   obtain ⟨n0,h0⟩:=v3q k (i+1) (D4.oneS (rgS q a b x) x x' s) (by omega) (by omega) (by omega) (by grind) (by grind [Dim.grow_length]);refine ⟨n0+n6+1+n4+n3+1,?_⟩;rw [st0 (n0+n6+1),Zw];simp only [Ad,Ar] at g;obtain ⟨g1,g2,g3⟩:=g;have g3':Qm s.last (rgS q a b x)=true:=g3;simp (disch:=omega) only [Yt,Yf,Xy,z',v,g2,g3',w1,f1,f2,w2,Zd,Zq,Zs,Zt,Yb,Yw,Yu,Zf,Zk,Zx,Yc,Zj,Af,Ao,Ah,Ak,Ae,Ac]
   grind
  ·obtain ⟨n5,h5⟩:=u7x q a b ha hb (i+1) (by omega) x x' (rgS q a b x) (s.out.length:Int) (D4.inn a x) (D4.inn b x) hsl (rgS q a b x).length 0 s.out (Af _) (by omega);simp only [AT,z7e] at h5;have e:D4.oneS (rgS q a b x) x x' s=⟨s.out++(rgS q a b x).map (D4.put x x'),rgS q a b x,s.out.length,x'⟩:=by unfold Dim.oneS;rw [g];rfl
   obtain ⟨n0,h0⟩:=v3q k (i+1) (D4.oneS (rgS q a b x) x x' s) (by omega) (by omega) (by omega) (by grind) (by rw [e];simp);have hg:Yx (Yt q a b) 1 (.to (.h4 ((i+1:Nat):Int) (b.length:Int) s.out s.last (s.first:Int) s.fin ((D4.cuts (a++b)).length) (Wn (Xa (D4.ends (a++b)))) x x' (D4.inn a x) (D4.inn b x)))=.to (.h5 x x' (rgS q a b x) ((rgS q a b x).length :Int) 0 ((i+1:Nat):Int) s.out (s.out.length:Int) ((D4.cuts (a++b)).length) (Wn (Xa (D4.ends (a++b)))) (D4.inn a x) (D4.inn b x)):=by
    rw [show (1:Nat)=0+1 from rfl,Zw];have e3:D4.same s.last (rgS q a b x)=Qm s.last (rgS q a b x):=rfl;rw [e3] at g;by_cases g1:0<(rgS q a b x).length
    ·rw [An g1,Ak] at g;rcases Yk (s.fin == x) with g2 | g2
     ·rw [g2,Ak] at g;simp (disch:=omega) only [Yt,Yf,Xy,z',v,g2,g,w1,f1,f2,w2,Zd,Zq,Zs,Zt,Yb,Yw,Yu,Zf,Zk,Zx,Yc,Zj,Af,Ao,Ah,Ak,Ae,Ac];rfl
     ·simp (disch:=omega) only [Yt,Yf,Xy,z',v,g2,w1,f1,f2,w2,Zd,Zq,Zs,Zt,Yb,Yw,Yu,Zf,Zk,Zx,Yc,Zj,Af,Ao,Ah,Ak,Ae,Ac];rfl
    ·simp (disch:=omega) only [Yt,Yf,Xt,z',v,w1,f1,f2,w2,Zd,Zq,Zs,Zt,Yb,Yw,Yu,Zf,Zk,Zx,Yc,Zj,Af,Ao,Ah,Ak,Ae,Ac];rfl
   refine ⟨n0+n5+1+n4+n3+1,?_⟩;simp_all [z8u]
theorem u8a : ∀(k i:Nat) (acc:List Int),i+k=b.length→acc=D4.ends (a++b.take i)→ ∃n,Yx (Yt q a b) n (.to (.h1 (i:Int) acc))=.ret (z9p (eJ (y7s (rgA q a b) (D4.cuts (a++b)) ((D4.cuts (a++b)).length - 1) 0) (D4.goS (rgS q a b) (D4.cuts (a++b)) ((D4.cuts (a++b)).length - 1) 0 ⟨[],[],0,0⟩).out.length) (D4.goS (rgS q a b) (D4.cuts (a++b)) ((D4.cuts (a++b)).length - 1) 0 ⟨[],[],0,0⟩).out)
 | 0,i,acc,h,h'=>by
  have _u:=ha;have _v:=hb;have e:acc=D4.ends (a++b):=by grind
  subst e;have hle:=D4.ends_length (a++b);rw [AQ] at hle;obtain ⟨n,hn⟩:=v3q q a b ha hb ((D4.cuts (a++b)).length - 1) 0 ⟨[],[],0,0⟩ (by omega) (AB _) (AB _) (AB _) (AB _);refine ⟨n+1,?_⟩;rw [Zw];simp (disch:=omega) only [Yt,Jo,z0n,y0w,Yf,Yw,Yu,Ao,Ae,Ac];exact hn
 | k+1,i,acc,h,h'=>by
  have hle:acc.length≤2*(400+i):=by rw [h',D4.ends_length];grind
  obtain ⟨n,hn⟩:=u8a k (i+1) (acc++D4.ends [rd b i]) (by omega) (by
   rw [h',A2]
   grind [Yo,Dim.ends])
  refine ⟨n+1,?_⟩;rw [Zw];simp (disch:=omega) only [Yt,Zd,Zq,Zs,Zt,Yb,Yw,Yu,Zf,Zk,Zx,Yc,Zj,Af,Ao,Ah,Ak,Ae,Ac];exact hn
theorem u8b : ∀(k i:Nat) (acc:List Int),i+k=a.length→acc=D4.ends (a.take i)→ ∃n,Yx (Yt q a b) n (.to (.h0 (i:Int) acc))=.ret (z9p (eJ (y7s (rgA q a b) (D4.cuts (a++b)) ((D4.cuts (a++b)).length - 1) 0) (D4.goS (rgS q a b) (D4.cuts (a++b)) ((D4.cuts (a++b)).length - 1) 0 ⟨[],[],0,0⟩).out.length) (D4.goS (rgS q a b) (D4.cuts (a++b)) ((D4.cuts (a++b)).length - 1) 0 ⟨[],[],0,0⟩).out)
 | 0,i,acc,h,h'=>by
  have _u:=ha;have _v:=hb;obtain ⟨n,hn⟩:=u8a q a b ha hb b.length 0 acc (Af _) (by grind);refine ⟨n+1,?_⟩
  grind [Zw,Yt]
 | k+1,i,acc,h,h'=>by
  have hle:acc.length≤2*(400+i):=by rw [h',D4.ends_length];grind
  obtain ⟨n,hn⟩:=u8b k (i+1) (acc++D4.ends [rd a i]) (by omega) (by
   rw [h',A2]
   grind [Yo,Dim.ends])
  refine ⟨n+1,?_⟩;rw [Zw];simp (disch:=omega) only [Yt,Zd,Zq,Zs,Zt,Yb,Yw,Yu,Zf,Zk,Zx,Yc,Zj,Af,Ao,Ah,Ak,Ae,Ac];exact hn
end
def rgE (q:Op) (a b:List R4):Int:=bif y2i a != 0 then y2i a else bif y2i b != 0 then y2i b else eJ (y7s (rgA q a b) (D4.cuts (a++b)) ((D4.cuts (a++b)).length - 1) 0) (rgJ q.k a b).length
def Wy (q:Op) (a b:List R4):List R4:=y8b (rgE q a b) (rgJ q.k a b)
def Kq (q:Op) (a b:List R4):Int:=rgE q a b
def Jh (q:Op) (a b:List R4):Bool:=true
theorem w4a {l:List R4} (h:(y2i l != 0)=false):l.length≤400:=by
 grind [y2i]
theorem rg_run (q:Op) (a b:List R4) (h:Jh q a b=true): ∃n,Yx (Yt q a b) n (y3s q a b)=.ret (z9p (rgE q a b) (rgJ q.k a b)):=by
 unfold y3s;have o: ∀l,z4r l=true:=fun _=>rfl;simp only [Zd,o,Ae];rcases Yk (y2i a != 0) with q1 | q1
 ·exact ⟨0,by simp only [rgE,q1,Ae,Vh _ q1];rfl⟩
 rcases Yk (y2i b != 0) with q2 | q2
 ·exact ⟨0,by simp only [rgE,q1,q2,Ae,Ac,Vh _ q2];rfl⟩
 obtain ⟨n,hn⟩:=u8b q a b (w4a q1) (w4a q2) a.length 0 [] (Af _) rfl;refine ⟨n,?_⟩;simp only [rgE,q1,q2,Ac];exact hn
def fRg (q:Op):List AVal→Option (AVal×Bool)
 | [a0,a1]=>match asL R4 a0,asL R4 a1 with
  | some (L0,g0,n0),some (L1,g1,n1)=>some (.tup [.dat (Wy q L0 L1).length (Zz (Wy q L0 L1)),.int .i64 (Kq q L0 L1)],isT R4 n0 g0&&(isT R4 n1 g1&&(Jh q L0 L1)))
  | _,_=>none
 | _=>none
theorem v6t (q:Op) {S:Specs} (hS:Zu prog S):Zu prog (S.with (nRg q) (fRg q)):=by
 refine v6j hS (by cases q <;> kernel_rfl) fun args v h=> ?_;unfold fRg at h;split at h
 ·rename_i a0 a1;split at h
  ·rename_i L0 g0 n0 L1 g1 n1 e0 e1;simp only [Ab,Aa,Ad] at h;obtain ⟨rfl,ho0,ho1,hw⟩:=h;obtain ⟨N,hN⟩:=rg_run q L0 L1 hw;exact ⟨_,_,(.cons (Yi e0 ho0) (.cons (Yi e1 ho1) .nil)),z1k _ _,u1d q L0 L1 N _ hN,3,z6q _ _⟩
  ·cases h
 ·cases h
def Ud :Specs:=((Uc.with (nRg .u) (fRg .u)).with (nRg .e) (fRg .e)).with (nRg .d) (fRg .d)
theorem Kz :Zu prog Ud:=v6t .d (v6t .e (v6t .u Kd))
inductive sljS where
 | h0 (v16:Int) (aC:List Int)
 | h1 (v16:Int) (aC:List Int)
 | h2 (v4:Int) (aJ:List R6) (aX:List R4) (bG:Int) (bH:Int) (aI:Nat) (aL:List Int)
 | h3 (v4:Int) (v38:Int) (aJ:List R6) (aX:List R4) (bG:Int) (bH:Int) (aI:Nat) (aL:List Int) (aF:Int) (bC:Int) (aB:List R4)
 | h4 (v4:Int) (v38:Int) (aJ:List R6) (aX:List R4) (bG:Int) (bH:Int) (aI:Nat) (aL:List Int) (aF:Int) (bC:Int) (aB:List R4) (aG:List R4)
 | h5 (v1:Int) (v2:Int) (v72:List R4) (v73:Int) (v74:Int) (bD:Int) (aD:List R6) (bF:Int) (aI:Nat) (aL:List Int) (aF:List R4) (bC:List R4)
 | h6 (v2:Int) (v8:Int) (cH:Int) (bX:List R4) (bD:Int) (aD:List R6) (bJ:List R4) (bF:Int) (bT:Int) (bP:Nat) (bW:List Int) (aB:List R4) (aG:List R4)
def y5k (q:Op) (l0:List R6) (l1:List R6):AFr:=⟨⟨12,0,true⟩,(Vj prog (nSl q) [1,0] 3),(Zb prog (nSl q) [1,0] 1),none,(Zy prog 16),Yg [(6,(.dat l0.length (Zz l0))),(7,(.dat l1.length (Zz l1))),(8,(.agg [(.fn (nRg q) [])]))]⟩
abbrev y8y (aD:List R6) (v8:Int) (v2:Int):=(aD.set (0+(tn v8)) (R6.mk (rd aD (0+(tn v8))).a (rd aD (0+(tn v8))).b (rd aD (0+(tn v8))).c (rd aD (0+(tn v8))).d (rd aD (0+(tn v8))).e v2))
def w3l (q:Op):AFr:=⟨⟨27,0,true⟩,(Vj prog 66 [1,1,1,0] 4),(Zb prog 66 [1,1,1,0] 1),none,(Zy prog 10),Yg [(20,(.agg [(.fn (nRg q) [])])),(23,(.sl 8 0 2 (.un 1)))]⟩
def v2h :=(y4a [(0,⟨.ready,none,65,Yg [(2,(.ptr 1 0)),(4,(.ptr 2 0)),(5,(.ptr 3 0)),(6,(.ptr 4 0))],[15],(Wo prog 93 [1,1,0,1,0,0]),(Wo prog 93 [1,1,0,1,0,1])⟩)])
abbrev y8x (aC:List Int):=(Wn (Yd aC.length (cOf (Zz (Xa (Yd aC.length (cOf (Zz aC))))))))
def v2g :AFr:=⟨⟨65,0,true⟩,none,(.inRangeFunc 0::(Zb prog 93 [1,1,0,1,0] 1)),none,(Zy prog 93),Yg [(4,(.ptr 2 0)),(5,(.ptr 3 0)),(6,(.ptr 4 0))]⟩
abbrev y8w (aB:List R4) (l0:List R6) (v38:Int):=(aB++[(R4.mk (rd l0 (tn v38)).a (rd l0 (tn v38)).b (rd l0 (tn v38)).d (rd l0 (tn v38)).e)])
abbrev y8v (aG:List R4) (l1:List R6) (v38:Int):=(aG++[(R4.mk (rd l1 (tn v38)).a (rd l1 (tn v38)).b (rd l1 (tn v38)).d (rd l1 (tn v38)).e)])
abbrev y8u (aD:List R6) (v72:List R4) (v74:Int) (v1:Int) (v2:Int):=(aD++[(R6.mk (rd v72 (tn v74)).a (rd v72 (tn v74)).b v1 (rd v72 (tn v74)).c (rd v72 (tn v74)).d v2)])
def y5j (l0:List R6) (l1:List R6):ABlk:=⟨[(.dat l0.length (Zz l0)),(.dat l1.length (Zz l1))],32,none⟩
def v2k :AFr:=⟨⟨65,0,true⟩,(Vj prog 93 [1,1,0,0] 1),(Zb prog 93 [1,1,0,0] 1),none,(Zy prog 93),Yg [(2,(.ptr 3 0)),(4,(.ptr 4 0)),(5,(.ptr 5 0)),(6,(.ptr 6 0)),(13,(.sl 1 0 2 (.un 1)))]⟩
def v2j (q:Op):AFr:=⟨⟨27,0,true⟩,(Vj prog 66 [1,1,1,0] 4),(Zb prog 66 [1,1,1,0] 1),none,(Zy prog 10),Yg [(20,(.agg [(.fn (nRg q) [])])),(23,(.sl 1 0 2 (.un 1)))]⟩
def z6j (q:Op):ABlk:=⟨[(.fn (nRg q) [])],101,none⟩
abbrev z9y (aC:List Int) (l0:List R6) (v16:Int):=(aC++[(rd l0 (tn v16)).c,(rd l0 (tn v16)).f])
abbrev z9x (aC:List Int) (l1:List R6) (v16:Int):=(aC++[(rd l1 (tn v16)).c,(rd l1 (tn v16)).f])
def x1l :ABlk:=⟨[(.sl 8 0 2 (.un 1))],177,none⟩
def v2i :=(Zb prog 162 [1,0,0,1,0,0,1,0,1,0,0,1,1,0,0,1,1,0,0] 0)
def sljC (q:Op) (l0:List R6) (l1:List R6):sljS→Cfg
 | .h0 v16 aC=>⟨⟨36,0,true⟩,none,(Zb prog 135 [1,1,0,1,0,0,1,1,0,0,1,1,0,0] 0),none,(Zy prog 9),⟨Yg [(1,(.ptr 0 0)),(3,(.ptr 2 0)),(8,(.sl 1 0 2 (.un 1))),(9,(ii 2)),(10,(ii 0)),(14,(.dat l0.length (Zz l0))),(15,(ii (l0.length:Int))),(16,(ii v16))],Wt [⟨[(.sl 1 0 2 (.un 1))],177,none⟩,(y5j l0 l1),⟨[(.sla 7 1 0 aC.length (.un 1))],125,none⟩,(z6j q),⟨[.nils],33,none⟩,⟨[(ii 0)],24,none⟩,⟨[.nils,.nils,(ii 0),(ii 0)],179,none⟩,⟨Ym aC.length (Zz aC),3,some ⟨1,aC.length,(Zz aC)⟩⟩] 0,8,[],true⟩,[v2k,(v2j q),(y5k q l0 l1)],.leaf⟩
 | .h1 v16 aC=>⟨⟨36,0,true⟩,none,(Zb prog 135 [1,1,0,1,0,0,1,1,0,0,1,1,0,0] 0),none,(Zy prog 9),⟨Yg [(1,(.ptr 0 0)),(3,(.ptr 2 0)),(8,(.sl 1 0 2 (.un 1))),(9,(ii 2)),(10,(ii 1)),(14,(.dat l1.length (Zz l1))),(15,(ii (l1.length:Int))),(16,(ii v16))],Wt [⟨[(.sl 1 0 2 (.un 1))],177,none⟩,(y5j l0 l1),⟨[(.sla 7 1 0 aC.length (.un 1))],125,none⟩,(z6j q),⟨[.nils],33,none⟩,⟨[(ii 0)],24,none⟩,⟨[.nils,.nils,(ii 0),(ii 0)],179,none⟩,⟨Ym aC.length (Zz aC),3,some ⟨1,aC.length,(Zz aC)⟩⟩] 0,8,[],true⟩,[v2k,(v2j q),(y5k q l0 l1)],.leaf⟩
 | .h2 v4 aJ aX bG bH aI aL=>⟨⟨86,0,true⟩,none,(Zb prog 162 [1,0,0] 0),none,[],⟨Yg [(0,(.yld 0)),(1,(.ptr 5 0)),(2,(.ptr 7 0)),(4,(ii v4))],z7i [(1,(z6j q)),(2,⟨[.nils],33,none⟩),(3,⟨[(ii 0)],24,none⟩),(4,⟨[(.sla 9 6 0 aJ.length (.un 6)),(.dat aX.length (Zz aX)),(ii bG),(ii bH)],179,none⟩),(5,⟨[(.sla 6 1 0 aI (.un 1))],125,none⟩),(6,⟨Ym aL.length (Zz aL),3,some ⟨1,aL.length,(Zz aL)⟩⟩),(7,x1l),(8,(y5j l0 l1)),(9,⟨Ym aJ.length (Zz aJ),57,some ⟨6,aJ.length,(Zz aJ)⟩⟩)],10,[],true⟩,[v2g,(w3l q),(y5k q l0 l1)],v2h⟩
 | .h3 v4 v38 aJ aX bG bH aI aL aF bC aB=>⟨⟨86,0,true⟩,none,v2i,none,[],⟨Yg [(0,(.yld 0)),(1,(.ptr 5 0)),(2,(.ptr 7 0)),(4,(ii v4)),(5,(.ptr 9 0)),(6,(ii 0)),(29,(.sl 8 0 2 (.un 1))),(30,(ii 2)),(31,(ii 0)),(36,(.dat l0.length (Zz l0))),(37,(ii (l0.length:Int))),(38,(ii v38))],z7i [(1,(z6j q)),(2,⟨[.nils],33,none⟩),(3,⟨[(ii 0)],24,none⟩),(4,⟨[(.sla 12 6 0 aJ.length (.un 6)),(.dat aX.length (Zz aX)),(ii bG),(ii bH)],179,none⟩),(5,⟨[(.sla 6 1 0 aI (.un 1))],125,none⟩),(6,⟨Ym aL.length (Zz aL),3,some ⟨1,aL.length,(Zz aL)⟩⟩),(7,x1l),(8,(y5j l0 l1)),(9,⟨[(ii aF),(ii bC),(.sl 10 0 2 (.ex 2))],184,none⟩),(10,⟨[(.sla 11 4 0 aB.length (.un 4)),.nils],80,none⟩),(11,⟨Ym aB.length (Zz aB),116,some ⟨4,aB.length,(Zz aB)⟩⟩),(12,⟨Ym aJ.length (Zz aJ),57,some ⟨6,aJ.length,(Zz aJ)⟩⟩)],13,[],true⟩,[v2g,(w3l q),(y5k q l0 l1)],v2h⟩
 | .h4 v4 v38 aJ aX bG bH aI aL aF bC aB aG=>⟨⟨86,0,true⟩,none,v2i,none,[],⟨Yg [(0,(.yld 0)),(1,(.ptr 5 0)),(2,(.ptr 7 0)),(4,(ii v4)),(5,(.ptr 9 0)),(6,(ii 1)),(29,(.sl 8 0 2 (.un 1))),(30,(ii 2)),(31,(ii 1)),(36,(.dat l1.length (Zz l1))),(37,(ii (l1.length:Int))),(38,(ii v38))],z7i [(1,(z6j q)),(2,⟨[.nils],33,none⟩),(3,⟨[(ii 0)],24,none⟩),(4,⟨[(.sla 13 6 0 aJ.length (.un 6)),(.dat aX.length (Zz aX)),(ii bG),(ii bH)],179,none⟩),(5,⟨[(.sla 6 1 0 aI (.un 1))],125,none⟩),(6,⟨Ym aL.length (Zz aL),3,some ⟨1,aL.length,(Zz aL)⟩⟩),(7,x1l),(8,(y5j l0 l1)),(9,⟨[(ii aF),(ii bC),(.sl 10 0 2 (.ex 2))],184,none⟩),(10,⟨[(.sla 11 4 0 aB.length (.un 4)),(.sla 12 4 0 aG.length (.un 4))],80,none⟩),(11,⟨Ym aB.length (Zz aB),116,some ⟨4,aB.length,(Zz aB)⟩⟩),(12,⟨Ym aG.length (Zz aG),116,some ⟨4,aG.length,(Zz aG)⟩⟩),(13,⟨Ym aJ.length (Zz aJ),57,some ⟨6,aJ.length,(Zz aJ)⟩⟩)],14,[],true⟩,[v2g,(w3l q),(y5k q l0 l1)],v2h⟩
 | .h5 v1 v2 v72 v73 v74 bD aD bF aI aL aF bC=>⟨⟨101,0,true⟩,none,(Zb prog 136 [1,1,1,0,0] 0),none,[],⟨Yg [(0,(.ptr 0 0)),(1,(ii v1)),(2,(ii v2)),(72,(.dat v72.length (Zz v72))),(73,(ii v73)),(74,(ii v74))],z7i [(0,⟨[(.sla 10 6 0 aD.length (.un 6)),(.dat v72.length (Zz v72)),(ii bF),(ii v2)],179,none⟩),(2,(z6j q)),(3,⟨[.nils],33,none⟩),(4,⟨[(ii 0)],24,none⟩),(5,⟨[(.sla 6 1 0 aI (.un 1))],125,none⟩),(6,⟨Ym aL.length (Zz aL),3,some ⟨1,aL.length,(Zz aL)⟩⟩),(7,x1l),(8,(y5j l0 l1)),(9,⟨[(.dat aF.length (Zz aF)),(.dat bC.length (Zz bC))],80,none⟩),(10,⟨Ym aD.length (Zz aD),57,some ⟨6,aD.length,(Zz aD)⟩⟩)],11,[],true⟩,[⟨⟨65,0,true⟩,(Vj prog 93 [1,1,0,1,0,1,0,1,1,1] 5),(Zb prog 93 [1,1,0,1,0,1,0,1,1,1] 1),(some 1),[],Yg [(6,(.ptr 0 0)),(54,(ii v1)),(56,(ii v2)),(57,(.dat v72.length (Zz v72)))]⟩,⟨⟨86,0,true⟩,(Vj prog 162 [1,0,0,1,0,0,1,1,0] 2),(Zb prog 162 [1,0,0,1,0,0,1,1,0] 1),none,[],Yg [(0,(.yld 1)),(1,(.ptr 5 0)),(2,(.ptr 7 0)),(4,(ii bD)),(82,(.yld 1)),(83,(.agg [(ii v1),(ii v2),(.sl 9 0 2 (.ex 2))]))]⟩,⟨⟨65,0,true⟩,none,(.inRangeFunc 1::(Zb prog 93 [1,1,0,1,0] 1)),none,(Zy prog 93),Yg [(4,(.ptr 3 0)),(5,(.ptr 4 0)),(6,(.ptr 0 0))]⟩,(w3l q),(y5k q l0 l1)],(y4a [(1,⟨.busy,none,65,Yg [(2,(.ptr 2 0)),(4,(.ptr 3 0)),(5,(.ptr 4 0)),(6,(.ptr 0 0))],[15],(Wo prog 93 [1,1,0,1,0,0]),(Wo prog 93 [1,1,0,1,0,1])⟩)])⟩
 | .h6 v2 v8 cH bX bD aD bJ bF bT bP bW aB aG=>⟨⟨101,0,true⟩,none,(Zb prog 136 [0,1,0,0,1,0,0] 0),none,[],⟨Yg [(0,(.ptr 0 0)),(2,(ii v2)),(8,(ii v8))],z7i [(0,⟨[(.sla 1 6 0 aD.length (.un 6)),(.dat bJ.length (Zz bJ)),(ii bF),(ii bT)],179,none⟩),(1,⟨Ym aD.length (Zz aD),57,some ⟨6,aD.length,(Zz aD)⟩⟩),(3,(z6j q)),(4,⟨[.nils],33,none⟩),(5,⟨[(ii 0)],24,none⟩),(6,⟨[(.sla 7 1 0 bP (.un 1))],125,none⟩),(7,⟨Ym bW.length (Zz bW),3,some ⟨1,bW.length,(Zz bW)⟩⟩),(8,⟨[(.sl 9 0 2 (.un 1))],177,none⟩),(9,(y5j l0 l1)),(10,⟨[(.dat aB.length (Zz aB)),(.dat aG.length (Zz aG))],80,none⟩)],11,[],true⟩,[⟨⟨65,0,true⟩,(Vj prog 93 [1,1,0,1,0,1,0,1,1,1] 5),(Zb prog 93 [1,1,0,1,0,1,0,1,1,1] 1),(some 2),[],Yg [(6,(.ptr 0 0)),(54,(ii cH)),(56,(ii v2)),(57,(.dat bX.length (Zz bX)))]⟩,⟨⟨86,0,true⟩,(Vj prog 162 [1,0,0,1,0,0,1,1,0] 2),(Zb prog 162 [1,0,0,1,0,0,1,1,0] 1),none,[],Yg [(0,(.yld 2)),(1,(.ptr 6 0)),(2,(.ptr 8 0)),(4,(ii bD)),(82,(.yld 2)),(83,(.agg [(ii cH),(ii v2),(.sl 10 0 2 (.ex 2))]))]⟩,⟨⟨65,0,true⟩,none,(.inRangeFunc 2::(Zb prog 93 [1,1,0,1,0] 1)),none,(Zy prog 93),Yg [(4,(.ptr 4 0)),(5,(.ptr 5 0)),(6,(.ptr 0 0))]⟩,⟨⟨27,0,true⟩,(Vj prog 66 [1,1,1,0] 4),(Zb prog 66 [1,1,1,0] 1),none,(Zy prog 10),Yg [(20,(.agg [(.fn (nRg q) [])])),(23,(.sl 9 0 2 (.un 1)))]⟩,(y5k q l0 l1)],(y4a [(2,⟨.busy,none,65,Yg [(2,(.ptr 3 0)),(4,(.ptr 4 0)),(5,(.ptr 5 0)),(6,(.ptr 0 0))],[15],(Wo prog 93 [1,1,0,1,0,0]),(Wo prog 93 [1,1,0,1,0,1])⟩)])⟩
def sljN0 :List (Option (List Nat)):=[some [1,3,8,9,10,14,15,16],some [2,4,5,6,13],some [20,23],some [6,7,8]]
def sljM0 :List (Option (List Nat)):=[]
def sljN1 :List (Option (List Nat)):=[some [1,3,8,9,10,14,15,16],some [2,4,5,6,13],some [20,23],some [6,7,8]]
def sljM1 :List (Option (List Nat)):=[]
def j1g :List (Option (List Nat)):=[some [0,1,2,4],some [4,5,6],some [20,23],some [6,7,8]]
def j1h :List (Option (List Nat)):=[some [2,4,5,6],none,none,none,none,none,none,none,none,none]
def v9j :List (Option (List Nat)):=[some [0,1,2,4,5,6,29,30,31,36,37,38],some [4,5,6],some [20,23],some [6,7,8]]
def v9m :List (Option (List Nat)):=[some [2,4,5,6],none,none,none,none,none,none,none,none,none,none,none,none]
def v9i :List (Option (List Nat)):=[some [0,1,2,4,5,6,29,30,31,36,37,38],some [4,5,6],some [20,23],some [6,7,8]]
def v9l :List (Option (List Nat)):=[some [2,4,5,6],none,none,none,none,none,none,none,none,none,none,none,none,none]
def v9h :List (Option (List Nat)):=[some [0,1,2,72,73,74],some [6,54,56,57],some [0,1,2,4,82,83],some [4,5,6],some [20,23],some [6,7,8]]
def v9k :List (Option (List Nat)):=[none,some [2,4,5,6],none,none,none,none,none,none,none,none,none]
def sljN6 :List (Option (List Nat)):=[some [0,2,8],some [6,54,56,57],some [0,1,2,4,82,83],some [4,5,6],some [20,23],some [6,7,8]]
def sljM6 :List (Option (List Nat)):=[none,none,some [2,4,5,6],none,none,none,none,none,none,none,none]
def Yn (q:Op) (l0:List R6) (l1:List R6):sljS→Xw sljS
 | .h0 v16 aC=>(bif (decide (v16<(l0.length:Int))) then (bif ((decide (0≤v16∧v16<(l0.length:Int)))&&true) then (bif (Nat.beq 1 1&&((decide (0+aC.length=aC.length))&&decide ((aC.length+2+1)*(8+1)≤Kj))) then (.to (.h0 (wrap .i64 (v16+1)) (aC++[(rd l0 v16.toNat).c,(rd l0 v16.toNat).f]))) else .stuck) else .stuck) else (.to (.h1 0 aC)))
 | .h1 v16 aC=>(bif (decide (v16<(l1.length:Int))) then (bif ((decide (0≤v16∧v16<(l1.length:Int)))&&true) then (bif (Nat.beq 1 1&&((decide (0+aC.length=aC.length))&&decide ((aC.length+2+1)*(8+1)≤Kj))) then (.to (.h1 (wrap .i64 (v16+1)) (aC++[(rd l1 v16.toNat).c,(rd l1 v16.toNat).f]))) else .stuck) else .stuck) else (bif (decide (aC.length<4611686018427387904)) then (bif (decide (aC.length=aC.length)) then (.to (.h2 1 ([]:List R6) ([]:List R4) 0 0 (v7q (Yd aC.length (cOf (Zz (Xa (Yd aC.length (cOf (Zz aC)))))))) (Wn (Yd aC.length (cOf (Zz (Xa (Yd aC.length (cOf (Zz aC)))))))))) else .stuck) else .stuck))
 | .h2 v4 aJ aX bG bH aI aL=>(bif (decide (v4<((aI:Nat):Int))) then (bif ((decide (0≤(wrap .i64 (v4 - 1))∧(wrap .i64 (v4 - 1))<((aI:Nat):Int)))&&true) then (bif (decide ((0+(Int.toNat (wrap .i64 (v4 - 1))))<aL.length)) then (bif ((decide (0≤v4∧v4<((aI:Nat):Int)))&&true) then (bif (decide ((0+v4.toNat)<aL.length)) then (.to (.h3 v4 0 aJ aX bG bH aI aL (rd aL (0+(Int.toNat (wrap .i64 (v4 - 1))))) (rd aL (0+v4.toNat)) ([]:List R4))) else .stuck) else .stuck) else .stuck) else .stuck) else (bif (decide ((aJ.length:Int)>400)) then (.ret [.nils,(.int .i64 4)]) else (.ret [(.dat aJ.length (Zz aJ)),(.int .i64 0)])))
 | .h3 v4 v38 aJ aX bG bH aI aL aF bC aB=>(bif (decide (v38<(l0.length:Int))) then (bif ((decide (0≤v38∧v38<(l0.length:Int)))&&true) then (bif (decide ((rd l0 v38.toNat).c ≤aF)) then (bif (decide (aF<(rd l0 v38.toNat).f)) then (bif (Nat.beq 4 4&&((decide (0+aB.length=aB.length))&&decide ((aB.length+1+1)*(32+1)≤Kj))) then (.to (.h3 v4 (wrap .i64 (v38+1)) aJ aX bG bH aI aL aF bC (aB++[(R4.mk (rd l0 v38.toNat).a (rd l0 v38.toNat).b (rd l0 v38.toNat).d (rd l0 v38.toNat).e)]))) else .stuck) else (.to (.h3 v4 (wrap .i64 (v38+1)) aJ aX bG bH aI aL aF bC aB))) else (.to (.h3 v4 (wrap .i64 (v38+1)) aJ aX bG bH aI aL aF bC aB))) else .stuck) else (.to (.h4 v4 0 aJ aX bG bH aI aL aF bC aB ([]:List R4))))
 | .h4 v4 v38 aJ aX bG bH aI aL aF bC aB aG=>(bif (decide (v38<(l1.length:Int))) then (bif ((decide (0≤v38∧v38<(l1.length:Int)))&&true) then (bif (decide ((rd l1 v38.toNat).c ≤aF)) then (bif (decide (aF<(rd l1 v38.toNat).f)) then (bif (Nat.beq 4 4&&((decide (0+aG.length=aG.length))&&decide ((aG.length+1+1)*(32+1)≤Kj))) then (.to (.h4 v4 (wrap .i64 (v38+1)) aJ aX bG bH aI aL aF bC aB (aG++[(R4.mk (rd l1 v38.toNat).a (rd l1 v38.toNat).b (rd l1 v38.toNat).d (rd l1 v38.toNat).e)]))) else .stuck) else (.to (.h4 v4 (wrap .i64 (v38+1)) aJ aX bG bH aI aL aF bC aB aG))) else (.to (.h4 v4 (wrap .i64 (v38+1)) aJ aX bG bH aI aL aF bC aB aG))) else .stuck) else (bif (Jc (cvT aB)) then (bif ((We (cvT aB)) == 0) then (bif (Jc (cvT aG)) then (bif ((We (cvT aG)) == 0) then (bif ((Jh q) (cvT (Ze (cvT aB))) (cvT (Ze (cvT aG)))) then (bif (((Kq q) (cvT (Ze (cvT aB))) (cvT (Ze (cvT aG)))) != 0) then (.ret [.nils,(.int .i64 ((Kq q) (cvT (Ze (cvT aB))) (cvT (Ze (cvT aG)))))]) else (bif (decide (((((Wy q) (cvT (Ze (cvT aB))) (cvT (Ze (cvT aG)))).length :Nat):Int)>0)) then (bif (bH == aF) then (bif (Wm (cvT aX) (cvT ((Wy q) (cvT (Ze (cvT aB))) (cvT (Ze (cvT aG)))))) then (bif (Uf (cvT aX) (cvT ((Wy q) (cvT (Ze (cvT aB))) (cvT (Ze (cvT aG)))))) then (.to (.h6 bC bG aF ((Wy q) (cvT (Ze (cvT aB))) (cvT (Ze (cvT aG)))) v4 aJ aX bG bH aI aL aB aG)) else (.to (.h5 aF bC ((Wy q) (cvT (Ze (cvT aB))) (cvT (Ze (cvT aG)))) ((((Wy q) (cvT (Ze (cvT aB))) (cvT (Ze (cvT aG)))).length :Nat):Int) 0 v4 aJ (aJ.length:Int) aI aL aB aG))) else .stuck) else (.to (.h5 aF bC ((Wy q) (cvT (Ze (cvT aB))) (cvT (Ze (cvT aG)))) ((((Wy q) (cvT (Ze (cvT aB))) (cvT (Ze (cvT aG)))).length :Nat):Int) 0 v4 aJ (aJ.length:Int) aI aL aB aG))) else (.to (.h5 aF bC ((Wy q) (cvT (Ze (cvT aB))) (cvT (Ze (cvT aG)))) ((((Wy q) (cvT (Ze (cvT aB))) (cvT (Ze (cvT aG)))).length :Nat):Int) 0 v4 aJ (aJ.length:Int) aI aL aB aG)))) else .stuck) else (.ret [.nils,(.int .i64 (We (cvT aG)))])) else .stuck) else (.ret [.nils,(.int .i64 (We (cvT aB)))])) else .stuck))
 | .h5 v1 v2 v72 v73 v74 bD aD bF aI aL aF bC=>(bif (decide (v74<v73)) then (bif ((decide (0≤v74∧v74<(v72.length:Int)))&&true) then (bif (Nat.beq 6 6&&((decide (0+aD.length=aD.length))&&decide ((aD.length+1+1)*(48+1)≤Kj))) then (.to (.h5 v1 v2 v72 v73 (wrap .i64 (v74+1)) bD (aD++[(R6.mk (rd v72 v74.toNat).a (rd v72 v74.toNat).b v1 (rd v72 v74.toNat).c (rd v72 v74.toNat).d v2)]) bF aI aL aF bC)) else .stuck) else .stuck) else (.to (.h2 (wrap .i64 (bD+1)) aD v72 bF v2 aI aL)))
 | .h6 v2 v8 cH bX bD aD bJ bF bT bP bW aB aG=>(bif (decide (v8<(aD.length:Int))) then (bif ((decide (0≤v8∧v8<(aD.length:Int)))&&true) then (bif (decide ((0+v8.toNat)<aD.length)) then (.to (.h6 v2 (wrap .i64 (v8+1)) cH bX bD (aD.set (0+v8.toNat) (R6.mk (rd aD (0+v8.toNat)).a (rd aD (0+v8.toNat)).b (rd aD (0+v8.toNat)).c (rd aD (0+v8.toNat)).d (rd aD (0+v8.toNat)).e v2)) bJ bF bT bP bW aB aG)) else .stuck) else .stuck) else (.to (.h2 (wrap .i64 (bD+1)) aD bJ bF v2 bP bW)))
def y2y (q:Op) (l0:List R6) (l1:List R6):Xw sljS:=(bif (Vg (cvT l0)) then (bif ((Zr (cvT l0)) != 0) then (.ret [.nils,(.int .i64 (Zr (cvT l0)))]) else (bif (Vg (cvT l1)) then (bif ((Zr (cvT l1)) != 0) then (.ret [.nils,(.int .i64 (Zr (cvT l1)))]) else (.to (.h0 0 ([]:List Int)))) else .stuck)) else .stuck)
theorem w6r (q:Op) (l0:List R6) (l1:List R6): ∀s,Xu prog (Zy prog (nSl q)) (sljC q l0 l1) (sljC q l0 l1 s) (Yn q l0 l1 s):=by cases q <;> refine (?f: ∀q:Op,∀s,Xu prog (Zy prog (nSl q)) (sljC q l0 l1) (sljC q l0 l1 s) (Yn q l0 l1 s)) _ <;> exact fun q=>fun
 | .h0 v16 aC=>(lb (fun k0=>(lo fun o0=>(lo fun o1=>(sl Kz 34 [] ⟨[0,1,2,3,4,5,6,10],[],sljN0,sljM0⟩ ⟨[],[.keep,.keep,.cells [.len (z9y aC l0 v16).length],.keep,.keep,.keep,.keep,.rowed 1 (z9y aC l0 v16).length (Zz (z9y aC l0 v16))],[]⟩ [true] (pp (xL (aC.length+2) (z9y aC l0 v16).length) (pp (xL (aC.length+2) (z9y aC l0 v16).length) (pp (xS (aC.length+2) (Yy (Zz aC) 0 aC.length 1 [(ii (rd l0 (tn v16)).c),(ii (rd l0 (tn v16)).f)]) (Zz (z9y aC l0 v16))) (pp (pp (xF (Yy (Zz aC) 0 aC.length 1 [(ii (rd l0 (tn v16)).c),(ii (rd l0 (tn v16)).f)])) nn) (ww o1 (ww o0 (tt k0 nn))))))))))) (fun k0=>(sl Kz 36 [] ⟨(List.range 8),[],sljN1,sljM1⟩ ⟨[],[],[]⟩ (bl 2 2) (pp (fl aC nn) (tt k0 nn)))))
 | .h1 v16 aC=>(lb (fun k0=>(lo fun o0=>(lo fun o1=>(sl Kz 34 [] ⟨[0,1,2,3,4,5,6,10],[],sljN1,sljM1⟩ ⟨[],[.keep,.keep,.cells [.len (z9x aC l1 v16).length],.keep,.keep,.keep,.keep,.rowed 1 (z9x aC l1 v16).length (Zz (z9x aC l1 v16))],[]⟩ [true] (pp (xL (aC.length+2) (z9x aC l1 v16).length) (pp (xL (aC.length+2) (z9x aC l1 v16).length) (pp (xS (aC.length+2) (Yy (Zz aC) 0 aC.length 1 [(ii (rd l1 (tn v16)).c),(ii (rd l1 (tn v16)).f)]) (Zz (z9x aC l1 v16))) (pp (pp (xF (Yy (Zz aC) 0 aC.length 1 [(ii (rd l1 (tn v16)).c),(ii (rd l1 (tn v16)).f)])) nn) (ww o1 (ww o0 (tt k0 nn))))))))))) (fun k0=>(lo fun o0=>(lo fun o1=>(sl Kz 46 [(57,6,Zz ([]:List R6))] ⟨[8,3,4,5,6,2,7,0,1,9],[],j1g,j1h⟩ ⟨[],(kpB 4 [.cells [.grow 9 6,.list 0 (Zz ([]:List R4)),.keep,.keep],.keep,.rowed 1 (y8x aC).length (Zz (y8x aC)),.keep,.keep,.keep]),[]⟩ (bl 2 0) (pp (xL aC.length (y8x aC).length (by first | exact z2p _ _ | exact Un rfl)) (pp (xS aC.length (Zz (y8x aC)) (Zz (y8x aC))) (pp (fl (y8x aC) (fl ([]:List R6) nn)) (pp (pp (xG (Nat.beq 1 1)) (pp (xG (Nat.beq 1 1)) (pp (xG (Nat.beq 0 0)) (pp (xG (decide (aC.length=aC.length))) (pp (xG (isI (Zz (Xa (Yd aC.length (cOf (Zz aC))))))) (xG (decide (aC.length<4611686018427387904)))))))) (pp (pp (xG (Nat.beq 1 1)) (pp (xG (Nat.beq 1 1)) (pp (xG (Nat.beq 0 0)) (pp (xG (decide (aC.length=aC.length))) (pp (xG (isI (Zz aC))) (xG (decide (aC.length<4611686018427387904)))))))) (tt k0 nn)))))))))))
 | .h2 v4 aJ aX bG bH aI aL=>(lb (fun k0=>(lo fun o0=>(lo fun o1=>(lo fun o2=>(lo fun o3=>(sl Kz 48 [(116,4,Zz ([]:List R4))] ⟨[0,1,2,3,4,5,6,7,8,10,11,12,9],[],v9j,v9m⟩ ⟨[],(kpB 10 [.cells [.grow 11 4,.keep],.keep,.keep]),[]⟩ (trs 3 []) (pp (fl aL (fl ([]:List R4) (fl aJ nn))) (ww o3 (ww o2 (ww o1 (ww o0 (tt k0 nn)))))))))))) (fun k0=>(lb (fun k1=>(lr 12 3 [1,1,1,1,0] 1 16 [(4,.nils),(5,(ii 4))] (sl Kz 39 [] ⟨[],[],[some [4,5]],[]⟩ ⟨[],[],[]⟩ (bl 2 2) (tt k1 (tt k0 nn))))) (fun k1=>(lr 12 3 [1,1,1,1,0] 1 16 [(4,(.dat aJ.length (Zz aJ))),(5,(ii 0))] (sl Kz 42 [] ⟨[],[9],[some [4,5]],[]⟩ ⟨[(4,.frz aJ.length aJ.length (Zz aJ) (Zz aJ))],[],[]⟩ (bl 2 0) (pp (xZ (z7j 6 6 0 aJ.length aJ.length (Zz aJ)) aJ.length (Zz aJ)) (pp (xL aJ.length aJ.length) (pp (xS aJ.length (Zz aJ) (Zz aJ)) (pp (fl aJ nn) (tt k1 (tt k0 nn))))))))))))
 | .h3 v4 v38 aJ aX bG bH aI aL aF bC aB=>(lb (fun k0=>(lo fun aE=>(lb (fun k1=>(lb (fun k2=>(lo fun o0=>(sl Kz 41 [] ⟨[0,1,2,3,4,5,6,7,8,9,10,15,12],[],v9j,v9m⟩ ⟨[],(kpB 10 [.cells [.len (y8w aB l0 v38).length,.keep],.rowed 4 (y8w aB l0 v38).length (Zz (y8w aB l0 v38)),.keep]),[]⟩ (trs 8 []) (pp (xL (aB.length+1) (y8w aB l0 v38).length) (pp (xL (aB.length+1) (y8w aB l0 v38).length) (pp (xS (aB.length+1) (Yy (Zz aB) 0 aB.length 4 [(ii (rd l0 (tn v38)).a),(ii (rd l0 (tn v38)).b),(ii (rd l0 (tn v38)).d),(ii (rd l0 (tn v38)).e)]) (Zz (y8w aB l0 v38))) (pp (fl aL (pp (xF (Yy (Zz aB) 0 aB.length 4 [(ii (rd l0 (tn v38)).a),(ii (rd l0 (tn v38)).b),(ii (rd l0 (tn v38)).d),(ii (rd l0 (tn v38)).e)])) (fl aJ nn))) (ww o0 (tt k2 (tt k1 (ww aE (tt k0 nn)))))))))))) (fun k2=>(sl Kz 41 [] ⟨(List.range 13),[],v9j,v9m⟩ ⟨[],[],[]⟩ (trs 7 [false]) (pp (fl aL (fl aB (fl aJ nn))) (tt k2 (tt k1 (ww aE (tt k0 nn))))))))) (fun k1=>(sl Kz 41 [] ⟨(List.range 13),[],v9j,v9m⟩ ⟨[],[],[]⟩ (bl 8 1) (pp (fl aL (fl aB (fl aJ nn))) (tt k1 (ww aE (tt k0 nn))))))))) (fun k0=>(sl Kz 38 [(116,4,Zz ([]:List R4))] ⟨[0,1,2,3,4,5,6,7,8,9,10,11,13,12],[],v9i,v9l⟩ ⟨[],(kpB 10 [.cells [.keep,.grow 12 4],.keep,.keep,.keep]),[]⟩ (bl 2 2) (pp (fl aL (fl aB (fl ([]:List R4) (fl aJ nn)))) (tt k0 nn)))))
 | .h4 v4 v38 aJ aX bG bH aI aL aF bC aB aG=>(lb (fun k0=>(lo fun aE=>(lb (fun k1=>(lb (fun k2=>(lo fun o0=>(sl Kz 41 [] ⟨[0,1,2,3,4,5,6,7,8,9,10,11,16,13],[],v9i,v9l⟩ ⟨[],(kpB 10 [.cells [.keep,.len (y8v aG l1 v38).length],.keep,.rowed 4 (y8v aG l1 v38).length (Zz (y8v aG l1 v38)),.keep]),[]⟩ (trs 8 []) (pp (xL (aG.length+1) (y8v aG l1 v38).length) (pp (xL (aG.length+1) (y8v aG l1 v38).length) (pp (xS (aG.length+1) (Yy (Zz aG) 0 aG.length 4 [(ii (rd l1 (tn v38)).a),(ii (rd l1 (tn v38)).b),(ii (rd l1 (tn v38)).d),(ii (rd l1 (tn v38)).e)]) (Zz (y8v aG l1 v38))) (pp (fl aL (fl aB (pp (xF (Yy (Zz aG) 0 aG.length 4 [(ii (rd l1 (tn v38)).a),(ii (rd l1 (tn v38)).b),(ii (rd l1 (tn v38)).d),(ii (rd l1 (tn v38)).e)])) (fl aJ nn)))) (ww o0 (tt k2 (tt k1 (ww aE (tt k0 nn)))))))))))) (fun k2=>(sl Kz 41 [] ⟨(List.range 14),[],v9i,v9l⟩ ⟨[],[],[]⟩ (trs 7 [false]) (pp (fl aL (fl aB (fl aG (fl aJ nn)))) (tt k2 (tt k1 (ww aE (tt k0 nn))))))))) (fun k1=>(sl Kz 41 [] ⟨(List.range 14),[],v9i,v9l⟩ ⟨[],[],[]⟩ (bl 8 1) (pp (fl aL (fl aB (fl aG (fl aJ nn)))) (tt k1 (ww aE (tt k0 nn))))))))) (fun k0=>(Xd (sl Kz (C':=⟨⟨65,0,true⟩,(Vj prog 93 [1,1,0,1,0,1,0,0] 4),(Zb prog 93 [1,1,0,1,0,1,0,0] 1),(some 0),[],⟨Yg [(2,(.ptr 1 0)),(4,(.ptr 2 0)),(5,(.ptr 3 0)),(6,(.ptr 4 0)),(7,(.ptr 6 0)),(20,(.dat aB.length (Zz aB)))],z7i [(1,⟨[(.fn (nRg q) [])],101,none⟩),(2,⟨[.nils],33,none⟩),(3,⟨[(ii 0)],24,none⟩),(4,⟨[(.sla 5 6 0 aJ.length (.un 6)),(.dat aX.length (Zz aX)),(ii bG),(ii bH)],179,none⟩),(5,⟨Ym aJ.length (Zz aJ),57,some ⟨6,aJ.length,(Zz aJ)⟩⟩),(6,⟨[(ii aF),(ii bC),(.sl 7 0 2 (.ex 2))],184,none⟩),(7,⟨[(.dat aB.length (Zz aB)),(.sla 8 4 0 aG.length (.un 4))],80,none⟩),(8,⟨Ym aG.length (Zz aG),116,some ⟨4,aG.length,(Zz aG)⟩⟩),(9,⟨[(.sla 10 1 0 aI (.un 1))],125,none⟩),(10,⟨Ym aL.length (Zz aL),3,some ⟨1,aL.length,(Zz aL)⟩⟩),(11,⟨[(.sl 12 0 2 (.un 1))],177,none⟩),(12,⟨[(.dat l0.length (Zz l0)),(.dat l1.length (Zz l1))],32,none⟩)],13,[],true⟩,[⟨⟨86,0,true⟩,(Vj prog 162 [1,0,0,1,0,0,1,1,0] 2),(Zb prog 162 [1,0,0,1,0,0,1,1,0] 1),none,[],Yg [(0,(.yld 0)),(1,(.ptr 9 0)),(2,(.ptr 11 0)),(4,(ii v4)),(82,(.yld 0)),(83,(.agg [(ii aF),(ii bC),(.sl 7 0 2 (.ex 2))]))]⟩,⟨⟨65,0,true⟩,none,(.inRangeFunc 0::(Zb prog 93 [1,1,0,1,0] 1)),none,(Zy prog 93),Yg [(4,(.ptr 2 0)),(5,(.ptr 3 0)),(6,(.ptr 4 0))]⟩,⟨⟨27,0,true⟩,(Vj prog 66 [1,1,1,0] 4),(Zb prog 66 [1,1,1,0] 1),none,(Zy prog 10),Yg [(20,(.agg [(.fn (nRg q) [])])),(23,(.sl 12 0 2 (.un 1)))]⟩,⟨⟨12,0,true⟩,(Vj prog (nSl q) [1,0] 3),(Zb prog (nSl q) [1,0] 1),none,(Zy prog 16),Yg [(6,(.dat l0.length (Zz l0))),(7,(.dat l1.length (Zz l1))),(8,(.agg [(.fn (nRg q) [])]))]⟩],(y4a [(0,⟨.busy,none,65,Yg [(2,(.ptr 1 0)),(4,(.ptr 2 0)),(5,(.ptr 3 0)),(6,(.ptr 4 0))],[15],(Wo prog 93 [1,1,0,1,0,0]),(Wo prog 93 [1,1,0,1,0,1])⟩)])⟩) 37 [] ⟨[0,1,2,3,4,13,14,10,12,5,6,7,8],[11],[some [2,4,5,6,7,20],some [0,1,2,4,82,83],some [4,5,6],some [20,23],some [6,7,8]],[some [2,4,5,6],none,none,none,none,none,none,none,none,none,none,none,none]⟩ ⟨[(20,.frz aB.length aB.length (Zz aB) (Zz aB))],[.keep,.keep,.keep,.keep,.keep,.keep,.keep,.cells [.frz aB.length aB.length (Zz aB) (Zz aB),.keep],.keep,.keep,.keep,.keep,.keep],[]⟩ (bl 2 0) (pp (xZ (z7j 4 4 0 aB.length aB.length (Zz aB)) aB.length (Zz aB)) (pp (xL aB.length aB.length) (pp (xS aB.length (Zz aB) (Zz aB)) (pp (xZ (z7j 4 4 0 aB.length aB.length (Zz aB)) aB.length (Zz aB)) (pp (xL aB.length aB.length) (pp (xS aB.length (Zz aB) (Zz aB)) (pp (fl aJ (fl aG (fl aL nn))) (pp (fl aB nn) (tt k0 nn)))))))))) (lo fun aE=>(lb (fun k1=>(Xd (sl Kz (C':=⟨⟨65,0,true⟩,(Vj prog 93 [1,1,0,1,0,1,0,1,0,1,0,0,1,1,0,0,1,1,0,1,0] 1),(Zb prog 93 [1,1,0,1,0,1,0,1,0,1,0,0,1,1,0,0,1,1,0,1,0] 1),(some 0),[],⟨Yg [(2,(.ptr 1 0)),(4,(.ptr 2 0)),(5,(.ptr 3 0)),(6,(.ptr 4 0)),(7,(.ptr 6 0)),(8,(.dat (Ze (cvT aB)).length (Zz (Ze (cvT aB))))),(26,(.sl 7 1 1 (.ex 1))),(27,(ii 1)),(28,(ii 0)),(35,(.dat aG.length (Zz aG)))],z7i [(1,⟨[(.fn (nRg q) [])],101,none⟩),(2,⟨[.nils],33,none⟩),(3,⟨[(ii 0)],24,none⟩),(4,⟨[(.sla 5 6 0 aJ.length (.un 6)),(.dat aX.length (Zz aX)),(ii bG),(ii bH)],179,none⟩),(5,⟨Ym aJ.length (Zz aJ),57,some ⟨6,aJ.length,(Zz aJ)⟩⟩),(6,⟨[(ii aF),(ii bC),(.sl 7 0 2 (.ex 2))],184,none⟩),(7,⟨[(.dat aB.length (Zz aB)),(.dat aG.length (Zz aG))],80,none⟩),(8,⟨[(.sla 9 1 0 aI (.un 1))],125,none⟩),(9,⟨Ym aL.length (Zz aL),3,some ⟨1,aL.length,(Zz aL)⟩⟩),(10,⟨[(.sl 11 0 2 (.un 1))],177,none⟩),(11,⟨[(.dat l0.length (Zz l0)),(.dat l1.length (Zz l1))],32,none⟩)],12,[],true⟩,[⟨⟨86,0,true⟩,(Vj prog 162 [1,0,0,1,0,0,1,1,0] 2),(Zb prog 162 [1,0,0,1,0,0,1,1,0] 1),none,[],Yg [(0,(.yld 0)),(1,(.ptr 8 0)),(2,(.ptr 10 0)),(4,(ii v4)),(82,(.yld 0)),(83,(.agg [(ii aF),(ii bC),(.sl 7 0 2 (.ex 2))]))]⟩,⟨⟨65,0,true⟩,none,(.inRangeFunc 0::(Zb prog 93 [1,1,0,1,0] 1)),none,(Zy prog 93),Yg [(4,(.ptr 2 0)),(5,(.ptr 3 0)),(6,(.ptr 4 0))]⟩,⟨⟨27,0,true⟩,(Vj prog 66 [1,1,1,0] 4),(Zb prog 66 [1,1,1,0] 1),none,(Zy prog 10),Yg [(20,(.agg [(.fn (nRg q) [])])),(23,(.sl 11 0 2 (.un 1)))]⟩,⟨⟨12,0,true⟩,(Vj prog (nSl q) [1,0] 3),(Zb prog (nSl q) [1,0] 1),none,(Zy prog 16),Yg [(6,(.dat l0.length (Zz l0))),(7,(.dat l1.length (Zz l1))),(8,(.agg [(.fn (nRg q) [])]))]⟩],(y4a [(0,⟨.busy,none,65,Yg [(2,(.ptr 1 0)),(4,(.ptr 2 0)),(5,(.ptr 3 0)),(6,(.ptr 4 0))],[15],(Wo prog 93 [1,1,0,1,0,0]),(Wo prog 93 [1,1,0,1,0,1])⟩)])⟩) 46 [] ⟨[0,1,2,3,4,5,6,7,9,10,11,12],[8],[some [2,4,5,6,7,8,26,27,28,35],some [0,1,2,4,82,83],some [4,5,6],some [20,23],some [6,7,8]],[some [2,4,5,6],none,none,none,none,none,none,none,none,none,none,none]⟩ ⟨[(35,.frz aG.length aG.length (Zz aG) (Zz aG))],[.keep,.keep,.keep,.keep,.keep,.keep,.keep,.cells [.keep,.frz aG.length aG.length (Zz aG) (Zz aG)],.keep,.keep,.keep,.keep],[]⟩ (bl 2 3) (pp (xZ (z7j 4 4 0 aG.length aG.length (Zz aG)) aG.length (Zz aG)) (pp (xL aG.length aG.length) (pp (xS aG.length (Zz aG) (Zz aG)) (pp (xZ (z7j 4 4 0 aG.length aG.length (Zz aG)) aG.length (Zz aG)) (pp (xL aG.length aG.length) (pp (xS aG.length (Zz aG) (Zz aG)) (pp (fl aJ (fl aL nn)) (pp (fl aG nn) (tt k1 (pp (pp (xr aB) (xw aE)) nn))))))))))) (lo fun bU=>(lb (fun k2=>(lo fun bZ=>(lb (fun k3=>(lr 12 3 [1,1,1,1,0] 1 16 [(4,.nils),(5,(ii ((Kq q) (cvT (Ze (cvT aB))) (cvT (Ze (cvT aG))))))] (sl Kz 69 [] ⟨[],[],[some [4,5]],[]⟩ ⟨[],[],[]⟩ (bl 4 13) (tt k3 (pp (pp (xI R4 (Ze (cvT aB)).length (Zz (Ze (cvT aB)))) (pp (xI R4 (Ze (cvT aG)).length (Zz (Ze (cvT aG)))) (xw bZ))) (tt k2 (pp (pp (xr aG) (xw bU)) nn))))))) (fun k3=>(lb (fun k4=>(lb (fun k5=>(lo fun dO=>(lb (fun k6=>(sl Kz 88 [] ⟨[4,5,0,1,2,3,8,9,10,11,7],[],sljN6,sljM6⟩ ⟨[],[],[]⟩ (bl 16 65529) (pp (fl aJ (fl aL nn)) (tt k6 (pp (pp (xr aX) (pp (xI R4 ((Wy q) (cvT (Ze (cvT aB))) (cvT (Ze (cvT aG)))).length (Zz ((Wy q) (cvT (Ze (cvT aB))) (cvT (Ze (cvT aG)))))) (xw dO))) (tt k5 (tt k4 (tt k3 (pp (pp (xI R4 (Ze (cvT aB)).length (Zz (Ze (cvT aB)))) (pp (xI R4 (Ze (cvT aG)).length (Zz (Ze (cvT aG)))) (xw bZ))) (tt k2 (pp (pp (xr aG) (xw bU)) nn))))))))))) (fun k6=>(sl Kz 108 [] ⟨[4,0,1,2,3,8,9,10,11,7,5],[],v9h,v9k⟩ ⟨[],[],[]⟩ (bl 16 32761) (pp (fl aL (fl aJ nn)) (tt k6 (pp (pp (xr aX) (pp (xI R4 ((Wy q) (cvT (Ze (cvT aB))) (cvT (Ze (cvT aG)))).length (Zz ((Wy q) (cvT (Ze (cvT aB))) (cvT (Ze (cvT aG)))))) (xw dO))) (tt k5 (tt k4 (tt k3 (pp (pp (xI R4 (Ze (cvT aB)).length (Zz (Ze (cvT aB)))) (pp (xI R4 (Ze (cvT aG)).length (Zz (Ze (cvT aG)))) (xw bZ))) (tt k2 (pp (pp (xr aG) (xw bU)) nn)))))))))))))) (fun k5=>(sl Kz 108 [] ⟨[4,0,1,2,3,8,9,10,11,7,5],[],v9h,v9k⟩ ⟨[],[],[]⟩ (bl 16 505) (pp (fl aL (fl aJ nn)) (tt k5 (tt k4 (tt k3 (pp (pp (xI R4 (Ze (cvT aB)).length (Zz (Ze (cvT aB)))) (pp (xI R4 (Ze (cvT aG)).length (Zz (Ze (cvT aG)))) (xw bZ))) (tt k2 (pp (pp (xr aG) (xw bU)) nn))))))))))) (fun k4=>(sl Kz 108 [] ⟨[4,0,1,2,3,8,9,10,11,7,5],[],v9h,v9k⟩ ⟨[],[],[]⟩ (bl 16 1) (pp (fl aL (fl aJ nn)) (tt k4 (tt k3 (pp (pp (xI R4 (Ze (cvT aB)).length (Zz (Ze (cvT aB)))) (pp (xI R4 (Ze (cvT aG)).length (Zz (Ze (cvT aG)))) (xw bZ))) (tt k2 (pp (pp (xr aG) (xw bU)) nn))))))))))))) (fun k2=>(lr 12 3 [1,1,1,1,0] 1 16 [(4,.nils),(5,(ii (We (cvT aG))))] (sl Kz 58 [] ⟨[],[],[some [4,5]],[]⟩ ⟨[],[],[]⟩ (bl 4 12) (yt (v0b k2) (tt k2 (pp (pp (xr aG) (xw bU)) nn)))))))))) (fun k1=>(lr 12 3 [1,1,1,1,0] 1 16 [(4,.nils),(5,(ii (We (cvT aB))))] (sl Kz 84 [] ⟨[],[],[some [4,5]],[]⟩ ⟨[],[],[]⟩ (bl 5 25) (yt (v0b k1) (tt k1 (pp (pp (xr aB) (xw aE)) nn)))))))))))
 | .h5 v1 v2 v72 v73 v74 bD aD bF aI aL aF bC=>(lb (fun k0=>(lo fun o0=>(lo fun o1=>(sl Kz 23 [] ⟨[0,1,2,3,4,5,6,7,8,9,13],[],v9h,v9k⟩ ⟨[],[.cells [.len (y8u aD v72 v74 v1 v2).length,.keep,.keep,.keep],.keep,.keep,.keep,.keep,.keep,.keep,.keep,.keep,.keep,.rowed 6 (y8u aD v72 v74 v1 v2).length (Zz (y8u aD v72 v74 v1 v2))],[]⟩ [true] (pp (xL (aD.length+1) (y8u aD v72 v74 v1 v2).length) (pp (xL (aD.length+1) (y8u aD v72 v74 v1 v2).length) (pp (xS (aD.length+1) (Yy (Zz aD) 0 aD.length 6 [(ii (rd v72 (tn v74)).a),(ii (rd v72 (tn v74)).b),(ii v1),(ii (rd v72 (tn v74)).c),(ii (rd v72 (tn v74)).d),(ii v2)]) (Zz (y8u aD v72 v74 v1 v2))) (pp (fl aL (pp (xF (Yy (Zz aD) 0 aD.length 6 [(ii (rd v72 (tn v74)).a),(ii (rd v72 (tn v74)).b),(ii v1),(ii (rd v72 (tn v74)).c),(ii (rd v72 (tn v74)).d),(ii v2)])) nn)) (ww o1 (ww o0 (tt k0 nn))))))))))) (fun k0=>(sl Kz 22 [] ⟨[1,2,3,4,0,5,6,7,8,10],[],j1g,j1h⟩ ⟨[],[],[]⟩ (bl 2 0) (pp (fl aL (fl aD nn)) (tt k0 nn)))))
 | .h6 v2 v8 cH bX bD aD bJ bF bT bP bW aB aG=>(lb (fun k0=>(lo fun o0=>(lo fun o1=>(sl Kz 34 [] ⟨(List.range 11),[],sljN6,sljM6⟩ ⟨[],[.cells [.len (y8y aD v8 v2).length,.keep,.keep,.keep],.rowed 6 (y8y aD v8 v2).length (Zz (y8y aD v8 v2)),.keep,.keep,.keep,.keep,.keep,.keep,.keep,.keep,.keep],[]⟩ [true] (pp (xL aD.length (y8y aD v8 v2).length) (pp (xL aD.length (y8y aD v8 v2).length) (pp (xS aD.length (Xh (Zz aD) (0+(tn v8)) 5 [(ii v2)]) (Zz (y8y aD v8 v2))) (pp (pp (xF (Xh (Zz aD) (0+(tn v8)) 5 [(ii v2)])) (fl bW nn)) (ww o1 (ww o0 (tt k0 nn))))))))))) (fun k0=>(sl Kz 36 [] ⟨[2,3,4,5,0,6,7,8,9,1],[],j1g,j1h⟩ ⟨[],[],[]⟩ (bl 2 0) (pp (fl bW (fl aD nn)) (tt k0 nn)))))
theorem x7u (q:Op) (l0:List R6) (l1:List R6):Xu prog (Zy prog (nSl q)) (sljC q l0 l1) (Za prog (nSl q) [(.dat l0.length (Zz l0)),(.dat l1.length (Zz l1))] true []) (y2y q l0 l1):=by cases q <;> exact (lo fun bN=>(lb (fun k0=>(lr 12 3 [1,1,1,1,0] 1 16 [(4,.nils),(5,(ii (Zr (cvT l0))))] (sl Kz 42 [] ⟨[],[],[some [4,5]],[]⟩ ⟨[],[],[]⟩ [true] (tt k0 (pp (pp (xr l0) (xw bN)) nn))))) (fun k0=>(lo fun aE=>(lb (fun k1=>(lr 12 3 [1,1,1,1,0] 1 16 [(4,.nils),(5,(ii (Zr (cvT l1))))] (sl Kz 56 [] ⟨[],[],[some [4,5]],[]⟩ ⟨[],[],[]⟩ [false,true] (tt k1 (pp (pp (xr l1) (xw aE)) (tt k0 (pp (pp (xr l0) (xw bN)) nn))))))) (fun k1=>(sl Kz 108 [(3,1,Zz ([]:List Int))] ⟨[6,1,7,2,3,4,5,8],[],sljN0,sljM0⟩ ⟨[],[.keep,.keep,.cells [.grow 7 1],.keep,.keep,.keep,.keep,.keep],[]⟩ [false,false,true] (pp (fl ([]:List Int) nn) (tt k1 (pp (pp (xr l1) (xw aE)) (tt k0 (pp (pp (xr l0) (xw bN)) nn))))))))))))
theorem v9g (q:Op) (l0:List R6) (l1:List R6) (n:Nat) (vs:List AVal) (h:Yx (Yn q l0 l1) n (y2y q l0 l1)=.ret vs):Ur prog (Zy prog (nSl q)) (Za prog (nSl q) [(.dat l0.length (Zz l0)),(.dat l1.length (Zz l1))] true []) vs:=by have:=Zc (w6r q l0 l1) n _ (x7u q l0 l1);rwa [h] at this
theorem y0b (l:List R4):(We l == 0)= !(We l != 0):=by grind
def slS (q:Op) (a b:List R6) (x:Int):List R4:=rgJ q.k (Ze (D6.inn a x)) (Ze (D6.inn b x))
def slA (q:Op) (a b:List R6) (x:Int):Int:=bif We (D6.inn a x) != 0 then We (D6.inn a x) else bif We (D6.inn b x) != 0 then We (D6.inn b x) else rgE q (Ze (D6.inn a x)) (Ze (D6.inn b x))
theorem u1n {q:Op} {a b:List R4} (h:rgE q a b=0):y2i a=0∧y2i b=0∧(rgJ q.k a b).length ≤400:=by
 unfold rgE at h;cases g1:(y2i a != 0) with
 | true=>grind
 | false=>
  cases g2:(y2i b != 0) with
  | true=>grind
  | false=>
   rw [g1,g2,Ac,Ac] at h;unfold eJ at h;refine ⟨by grind,by grind,?_⟩;revert h;generalize y7s (rgA q a b) _ _ _=e;intro h;cases g3:(e != 0) with
   | true=>grind
   | false=>simp_all [z9h]
theorem w3m {q:Op} {a b:List R6} {x:Int} (h:slA q a b x=0):We (D6.inn a x)=0∧We (D6.inn b x)=0∧rgE q (Ze (D6.inn a x)) (Ze (D6.inn b x))=0:=by
 grind [slA]
theorem j1k (q:Op) (a b:List R6) (x:Int) (h:(slA q a b x != 0)=false):(slS q a b x).length ≤1000:=
 AE (u1n (w3m (by simpa using h)).2.2).2.2 (by omega)
section
variable (q:Op) (a b:List R6) (ha:a.length≤400) (hb:b.length≤400)
include ha hb
theorem u5z (i:Nat) (out:List R6) (last:List R4) (first fin x x':Int): ∀(k j:Nat) (acc:List R4),j+k=a.length→acc.length≤j→
  ∃n,∀N,Yx (Yn q a b) (N+n) (.to (.h3 (i:Int) (j:Int) out last first fin ((D6.cuts (a++b)).length) (Wn (Xa (D6.ends (a++b)))) x x' acc))=Yx (Yn q a b) N (.to (.h4 (i:Int) 0 out last first fin ((D6.cuts (a++b)).length) (Wn (Xa (D6.ends (a++b)))) x x' (acc++D6.inn (a.drop j) x) []))
 | 0,j,acc,h,h'=>by
  have _u:=ha;have _v:=hb;refine ⟨1,fun N=> ?_⟩;rw [As (by omega),show D6.inn ([]:List R6) x=[] from rfl,AF,Zw]
  grind [Yn]
 | k+1,j,acc,h,h'=>by
  have hj:j<a.length:=by omega
  obtain ⟨n,hn⟩:=u5z i out last first fin x x' k (j+1) (acc++D6.inn [rd a j] x) (by omega) (by have:=D6.inn_length [rd a j] x;grind)
  refine ⟨n+1,fun N=> ?_⟩;have e:D6.inn (a.drop j) x=D6.inn [rd a j] x++D6.inn (a.drop (j+1)) x:=by rw [Yq hj,←D6.inn_append];rfl
  rw [e,←AC,Zw,←AN,←hn N];by_cases h1:D6.lo (rd a j)≤x
  ·by_cases h2:x<D6.hi (rd a j)
   ·rw [D6.inn_t _ _ h1 h2];simp only [D6] at h1 h2 ⊢;simp (disch:=omega) only [Yn,Xo,Zd,Zq,Zs,Zt,Yb,Yw,Yu,Zf,Zk,Zx,Yc,Zj,Af,Ao,Ah,Ak,Ae,Ac]
   ·rw [D6.inn_f2 _ _ h2,AF];simp only [D6] at h1 h2;simp (disch:=omega) only [Yn,Xo,Yf,Zd,Zq,Zs,Zt,Yb,Yw,Yu,Zf,Zk,Zx,Yc,Zj,Af,Ao,Ah,Ak,Ae,Ac]
  ·rw [D6.inn_f1 _ _ h1,AF];simp only [D6] at h1;simp (disch:=omega) only [Yn,w9t,Zd,Zq,Zs,Zt,Yb,Yw,Yu,Zf,Zk,Zx,Yc,Zj,Af,Ao,Ah,Ak,Ae,Ac]
theorem u5y (i:Nat) (out:List R6) (last:List R4) (first fin x x':Int) (o1:List R4): ∀(k j:Nat) (acc:List R4),j+k=b.length→acc.length≤j→
  ∃n,∀N,Yx (Yn q a b) (N+n) (.to (.h4 (i:Int) (j:Int) out last first fin ((D6.cuts (a++b)).length) (Wn (Xa (D6.ends (a++b)))) x x' o1 acc))=Yx (Yn q a b) N (.to (.h4 (i:Int) (b.length:Int) out last first fin ((D6.cuts (a++b)).length) (Wn (Xa (D6.ends (a++b)))) x x' o1 (acc++D6.inn (b.drop j) x)))
 | 0,j,acc,h,h'=>by have _u:=ha;have _v:=hb;refine ⟨0,fun N=> ?_⟩;rw [As (by omega),show D6.inn ([]:List R6) x=[] from rfl,AF,A7,show j=b.length by omega]
 | k+1,j,acc,h,h'=>by
  have hj:j<b.length:=by omega
  obtain ⟨n,hn⟩:=u5y i out last first fin x x' o1 k (j+1) (acc++D6.inn [rd b j] x) (by omega) (by have:=D6.inn_length [rd b j] x;grind)
  refine ⟨n+1,fun N=> ?_⟩;have e:D6.inn (b.drop j) x=D6.inn [rd b j] x++D6.inn (b.drop (j+1)) x:=by rw [Yq hj,←D6.inn_append];rfl
  rw [e,←AC,Zw,←AN,←hn N];by_cases h1:D6.lo (rd b j)≤x
  ·by_cases h2:x<D6.hi (rd b j)
   ·rw [D6.inn_t _ _ h1 h2];simp only [D6] at h1 h2 ⊢;simp (disch:=omega) only [Yn,Xo,Zd,Zq,Zs,Zt,Yb,Yw,Yu,Zf,Zk,Zx,Yc,Zj,Af,Ao,Ah,Ak,Ae,Ac]
   ·rw [D6.inn_f2 _ _ h2,AF];simp only [D6] at h1 h2;simp (disch:=omega) only [Yn,Xo,Yf,Zd,Zq,Zs,Zt,Yb,Yw,Yu,Zf,Zk,Zx,Yc,Zj,Af,Ao,Ah,Ak,Ae,Ac]
  ·rw [D6.inn_f1 _ _ h1,AF];simp only [D6] at h1;simp (disch:=omega) only [Yn,w9t,Zd,Zq,Zs,Zt,Yb,Yw,Yu,Zf,Zk,Zx,Yc,Zj,Af,Ao,Ah,Ak,Ae,Ac]
theorem u5x (i:Nat) (hi:i≤2000) (x x':Int) (s:List R4) (first:Int) (o1 o2:List R4) (hs:s.length≤1000): ∀(k j:Nat) (out:List R6),j+k=s.length→out.length≤10000000+j→
  ∃n,∀N,Yx (Yn q a b) (N+n) (.to (.h5 x x' s (s.length:Int) (j:Int) (i:Int) out first ((D6.cuts (a++b)).length) (Wn (Xa (D6.ends (a++b)))) o1 o2))=Yx (Yn q a b) N (.to (.h2 ((i+1:Nat):Int) (out++(s.drop j).map (D6.put x x')) s first x' ((D6.cuts (a++b)).length) (Wn (Xa (D6.ends (a++b))))))
 | 0,j,out,h,ho=>by
  have _u:=ha;have _v:=hb;refine ⟨1,fun N=> ?_⟩
  grind [Zw,Yn,Zk]
 | k+1,j,out,h,ho=>by
  obtain ⟨n,hn⟩:=u5x i hi x x' s first o1 o2 hs k (j+1) (out++[D6.put x x' (rd s j)]) (by omega) (by simp;omega)
  refine ⟨n+1,fun N=> ?_⟩;have:=hn N;rw [Yq (show j<s.length by omega),AU,←AC,Zw];simp (disch:=omega) only [Yn,Zd,Zq,Zs,Zt,Yb,Yw,Yu,Zf,Zk,Zx,Yc,Zj,Af,Ao,Ah,Ak,Ae,Ac];rw [AN] at this;exact this
theorem u5w (i:Nat) (hi:i≤2000) (x x' fin:Int) (s last:List R4) (first:Int) (o1 o2:List R4): ∀(k j:Nat) (out:List R6),j+k=out.length→out.length≤10000000→
  ∃n,∀N,Yx (Yn q a b) (N+n) (.to (.h6 x' (j:Int) x s (i:Int) out last first fin ((D6.cuts (a++b)).length) (Wn (Xa (D6.ends (a++b)))) o1 o2))=Yx (Yn q a b) N (.to (.h2 ((i+1:Nat):Int) (D6.grow out j x') last first x' ((D6.cuts (a++b)).length) (Wn (Xa (D6.ends (a++b))))))
 | 0,j,out,h,ho=>by
  have _u:=ha;have _v:=hb;refine ⟨1,fun N=> ?_⟩;rw [D6.grow_nil _ _ _ (by omega),Zw]
  grind [Yn,Zk]
 | k+1,j,out,h,ho=>by
  obtain ⟨n,hn⟩:=u5w i hi x x' fin s last first o1 o2 k (j+1) (out.set j (D6.ext x' (rd out j))) (by simp;omega) (by grind)
  refine ⟨n+1,fun N=> ?_⟩;have:=hn N;rw [D6.grow_set out j _ (by omega)] at this;rw [←AC,Zw];simp (disch:=omega) only [Yn,Zd,Zq,Zs,Zt,Yb,Yw,Yu,Zf,Zk,Zx,Yc,Zj,Af,Ao,Ah,Ak,Ae,Ac];exact this
theorem v2f : ∀(k i:Nat) (s:Sw R6 R4),k=(D6.cuts (a++b)).length - 1 - i→i≤(D6.cuts (a++b)).length →s.out.length≤i*1000→s.last.length≤1000→s.first≤s.out.length→
  ∃n,Yx (Yn q a b) n (.to (.h2 ((i+1:Nat):Int) s.out s.last (s.first:Int) s.fin ((D6.cuts (a++b)).length) (Wn (Xa (D6.ends (a++b))))))=.ret (z9p (eJ (y7s (slA q a b) (D6.cuts (a++b)) k i) (D6.goS (slS q a b) (D6.cuts (a++b)) k i s).out.length) (D6.goS (slS q a b) (D6.cuts (a++b)) k i s).out)
 | 0,i,s,h,hi,ho,hla,hf=>by
  have _u:=ha;have _v:=hb;have hc:=D6.cuts_length (a++b);refine ⟨1,?_⟩;rw [Zw,show D6.goS (slS q a b) (D6.cuts (a++b)) 0 i s=s from rfl,show y7s (slA q a b) (D6.cuts (a++b)) 0 i=0 from rfl,w4b]
  grind [z1t,Yn,Zp]
 | k +1,i,s,h,hi,ho,hla,hf=>by
  have hc:=D6.cuts_length (a++b);rw [AQ] at hc;have hi1:i+1<(D6.cuts (a++b)).length :=by omega
  have hpl:(Wn (Xa (D6.ends (a++b)))).length =2*(a.length+b.length):=by rw [Jy,Vm,D6.ends_length,AQ]
  have r0:rd (Wn (Xa (D6.ends (a++b)))) i=rd (D6.cuts (a++b)) i:=z5z _ _ (by show i<(D6.cuts (a++b)).length;omega);have r1:rd (Wn (Xa (D6.ends (a++b)))) (i+1)=rd (D6.cuts (a++b)) (i+1):=z5z _ _ (by show i+1<(D6.cuts (a++b)).length;omega);have hbig:i*1000≤2000*1000:=Az _ (by omega);have hgo:D6.goS (slS q a b) (D6.cuts (a++b)) (k+1) i s=D6.goS (slS q a b) (D6.cuts (a++b)) k (i+1) (D6.oneS (slS q a b (rd (D6.cuts (a++b)) i)) (rd (D6.cuts (a++b)) i) (rd (D6.cuts (a++b)) (i+1)) s):=rfl;have hfe: ∀x,x=rd (D6.cuts (a++b)) i→(slA q a b x != 0)=false→y7s (slA q a b) (D6.cuts (a++b)) (k+1) i=y7s (slA q a b) (D6.cuts (a++b)) k (i+1):=fun x hx z=>by
   show (bif slA q a b (rd (D6.cuts (a++b)) i) != 0 then _ else _)=_
   grind
  revert hgo hfe r0;generalize hx:rd (D6.cuts (a++b)) i=x;generalize hx':rd (D6.cuts (a++b)) (i+1)=x' at r1;intro r0 hgo hfe;obtain ⟨n3,h3⟩:=u5z q a b ha hb (i+1) s.out s.last (s.first:Int) s.fin x x' a.length 0 [] (Af _) (Aq _);simp only [AT,A8,z7e] at h3;obtain ⟨n4,h4⟩:=u5y q a b ha hb (i+1) s.out s.last (s.first:Int) s.fin x x' (D6.inn a x) b.length 0 [] (Af _) (Aq _);simp only [AT,A8,z7e] at h4;have st0: ∀N,Yx (Yn q a b) (N+n4+n3+1) (.to (.h2 ((i+1:Nat):Int) s.out s.last (s.first:Int) s.fin ((D6.cuts (a++b)).length) (Wn (Xa (D6.ends (a++b))))))=Yx (Yn q a b) N (.to (.h4 ((i+1:Nat):Int) (b.length:Int) s.out s.last (s.first:Int) s.fin ((D6.cuts (a++b)).length) (Wn (Xa (D6.ends (a++b)))) x x' (D6.inn a x) (D6.inn b x))):=fun N=>by
   rw [←h4 N,←h3 (N+n4),Zw];have e1:wrap .i64 (((i+1:Nat):Int) - 1)=(i:Int):=by rw [Zn];exact Zk (by omega)
   simp (disch:=omega) only [Yn,e1,r0,r1,Zd,Zq,Zs,Zt,Yb,Yw,Yu,Zf,Zk,Zx,Yc,Zj,Af,Ao,Ah,Ak,Ae,Ac]
  have w1:Jc (D6.inn a x)=true:=rfl;have w3:Jc (D6.inn b x)=true:=rfl;have w4:Jh q (Ze (D6.inn a x)) (Ze (D6.inn b x))=true:=rfl;rcases Yk (slA q a b x != 0) with z | z
  ·refine ⟨1+n4+n3+1,?_⟩;rw [st0 1,Zw];have e:y7s (slA q a b) (D6.cuts (a++b)) (k+1) i=slA q a b x:=by show (bif slA q a b (rd (D6.cuts (a++b)) i) != 0 then slA q a b (rd (D6.cuts (a++b)) i) else _)=_;grind
   rw [e,show eJ (slA q a b x) _=slA q a b x by unfold eJ;rw [z];rfl,Vh _ z];unfold slA at z ⊢;rcases Yk (We (D6.inn a x) != 0) with y1 | y1
   ·simp (disch:=omega) only [Yn,Yf,y0b,y1,Av,w1,w3,w4,Zd,Zq,Zs,Zt,Yb,Yw,Yu,Zf,Zk,Zx,Yc,Zj,Af,Ao,Ah,Ak,Ae,Ac,Zp]
   ·rcases Yk (We (D6.inn b x) != 0) with y2 | y2
    ·simp (disch:=omega) only [Yn,Yf,y0b,y1,y2,Av,AA,w1,w3,w4,Zd,Zq,Zs,Zt,Yb,Yw,Yu,Zf,Zk,Zx,Yc,Zj,Af,Ao,Ah,Ak,Ae,Ac,Zp]
    ·rw [y1,y2,Ac,Ac] at z;have z':(Kq q (Ze (D6.inn a x)) (Ze (D6.inn b x)) != 0)=true:=z;simp (disch:=omega) only [Yn,Yf,y0b,y1,y2,z',AA,w1,w3,w4,Zd,Zq,Zs,Zt,Yb,Yw,Yu,Zf,Zk,Zx,Yc,Zj,Af,Ao,Ah,Ak,Ae,Ac,Zp];rfl
  obtain ⟨y1,y2,y3⟩:=w3m (show slA q a b x=0 by simpa using z);have y1:(We (D6.inn a x) == 0)=true:=by rw [y1];rfl
  have y2:(We (D6.inn b x) == 0)=true:=by rw [y2];rfl
  have z':(Kq q (Ze (D6.inn a x)) (Ze (D6.inn b x)) != 0)=false:=by show (rgE q _ _ != 0)=false;rw [y3];rfl
  have v:Wy q (Ze (D6.inn a x)) (Ze (D6.inn b x))=slS q a b x:=x5v _ z';have hsl:=j1k q a b x z;have w2:Wm s.last (slS q a b x)=true:=An (by omega);rw [hgo,hfe x rfl z];have ol:(D6.oneS (slS q a b x) x x' s).out.length ≤s.out.length+(slS q a b x).length :=by
   grind [Dim.oneS,Dim.grow_length]
  rcases Yk (decide (0<(slS q a b x).length)&&((s.fin == x)&&D6.same s.last (slS q a b x))) with g | g
  ·obtain ⟨n6,h6⟩:=u5w q a b ha hb (i+1) (by omega) x x' s.fin (slS q a b x) s.last (s.first:Int) (D6.inn a x) (D6.inn b x) (s.out.length - s.first) s.first s.out (by omega) (by omega)
   have e:D6.oneS (slS q a b x) x x' s=⟨D6.grow s.out s.first x',s.last,s.first,x'⟩:=by unfold Dim.oneS;rw [g];rfl
   obtain ⟨n0,h0⟩:=v2f k (i+1) (D6.oneS (slS q a b x) x x' s) (by omega) (by omega) (by omega) (by grind) (by grind [Dim.grow_length]);refine ⟨n0+n6+1+n4+n3+1,?_⟩;rw [st0 (n0+n6+1),Zw];simp only [Ad,Ar] at g;obtain ⟨g1,g2,g3⟩:=g;have g3':Uf s.last (slS q a b x)=true:=g3;simp (disch:=omega) only [Yn,Yf,Xy,y1,y2,z',v,g2,g3',w1,w3,w4,w2,Zd,Zq,Zs,Zt,Yb,Yw,Yu,Zf,Zk,Zx,Yc,Zj,Af,Ao,Ah,Ak,Ae,Ac]
   grind
  ·obtain ⟨n5,h5⟩:=u5x q a b ha hb (i+1) (by omega) x x' (slS q a b x) (s.out.length:Int) (D6.inn a x) (D6.inn b x) hsl (slS q a b x).length 0 s.out (Af _) (by omega);simp only [AT,z7e] at h5;have e:D6.oneS (slS q a b x) x x' s=⟨s.out++(slS q a b x).map (D6.put x x'),slS q a b x,s.out.length,x'⟩:=by unfold Dim.oneS;rw [g];rfl
   obtain ⟨n0,h0⟩:=v2f k (i+1) (D6.oneS (slS q a b x) x x' s) (by omega) (by omega) (by omega) (by grind) (by rw [e];simp);have hg:Yx (Yn q a b) 1 (.to (.h4 ((i+1:Nat):Int) (b.length:Int) s.out s.last (s.first:Int) s.fin ((D6.cuts (a++b)).length) (Wn (Xa (D6.ends (a++b)))) x x' (D6.inn a x) (D6.inn b x)))=.to (.h5 x x' (slS q a b x) ((slS q a b x).length :Int) 0 ((i+1:Nat):Int) s.out (s.out.length:Int) ((D6.cuts (a++b)).length) (Wn (Xa (D6.ends (a++b)))) (D6.inn a x) (D6.inn b x)):=by
    rw [show (1:Nat)=0+1 from rfl,Zw];have e3:D6.same s.last (slS q a b x)=Uf s.last (slS q a b x):=rfl;rw [e3] at g;by_cases g1:0<(slS q a b x).length
    ·rw [An g1,Ak] at g;rcases Yk (s.fin == x) with g2 | g2
     ·rw [g2,Ak] at g;simp (disch:=omega) only [Yn,Yf,Xy,y1,y2,z',v,g2,g,w1,w3,w4,w2,Zd,Zq,Zs,Zt,Yb,Yw,Yu,Zf,Zk,Zx,Yc,Zj,Af,Ao,Ah,Ak,Ae,Ac];rfl
     ·simp (disch:=omega) only [Yn,Yf,Xy,y1,y2,z',v,g2,w1,w3,w4,w2,Zd,Zq,Zs,Zt,Yb,Yw,Yu,Zf,Zk,Zx,Yc,Zj,Af,Ao,Ah,Ak,Ae,Ac];rfl
    ·simp (disch:=omega) only [Yn,Yf,Xt,y1,y2,z',v,w1,w3,w4,w2,Zd,Zq,Zs,Zt,Yb,Yw,Yu,Zf,Zk,Zx,Yc,Zj,Af,Ao,Ah,Ak,Ae,Ac];rfl
   refine ⟨n0+n5+1+n4+n3+1,?_⟩;simp_all [z8u]
theorem u6a : ∀(k i:Nat) (acc:List Int),i+k=b.length→acc=D6.ends (a++b.take i)→ ∃n,Yx (Yn q a b) n (.to (.h1 (i:Int) acc))=.ret (z9p (eJ (y7s (slA q a b) (D6.cuts (a++b)) ((D6.cuts (a++b)).length - 1) 0) (D6.goS (slS q a b) (D6.cuts (a++b)) ((D6.cuts (a++b)).length - 1) 0 ⟨[],[],0,0⟩).out.length) (D6.goS (slS q a b) (D6.cuts (a++b)) ((D6.cuts (a++b)).length - 1) 0 ⟨[],[],0,0⟩).out)
 | 0,i,acc,h,h'=>by
  have _u:=ha;have _v:=hb;have e:acc=D6.ends (a++b):=by grind
  subst e;have hle:=D6.ends_length (a++b);rw [AQ] at hle;obtain ⟨n,hn⟩:=v2f q a b ha hb ((D6.cuts (a++b)).length - 1) 0 ⟨[],[],0,0⟩ (by omega) (AB _) (AB _) (AB _) (AB _);refine ⟨n+1,?_⟩;rw [Zw];simp (disch:=omega) only [Yn,Jo,z0n,y0w,Yf,Yw,Yu,Ao,Ae,Ac];exact hn
 | k+1,i,acc,h,h'=>by
  have hle:acc.length≤2*(400+i):=by rw [h',D6.ends_length];grind
  obtain ⟨n,hn⟩:=u6a k (i+1) (acc++D6.ends [rd b i]) (by omega) (by
   rw [h',A2]
   grind [Yo,Dim.ends])
  refine ⟨n+1,?_⟩;rw [Zw];simp (disch:=omega) only [Yn,Zd,Zq,Zs,Zt,Yb,Yw,Yu,Zf,Zk,Zx,Yc,Zj,Af,Ao,Ah,Ak,Ae,Ac];exact hn
theorem u6b : ∀(k i:Nat) (acc:List Int),i+k=a.length→acc=D6.ends (a.take i)→ ∃n,Yx (Yn q a b) n (.to (.h0 (i:Int) acc))=.ret (z9p (eJ (y7s (slA q a b) (D6.cuts (a++b)) ((D6.cuts (a++b)).length - 1) 0) (D6.goS (slS q a b) (D6.cuts (a++b)) ((D6.cuts (a++b)).length - 1) 0 ⟨[],[],0,0⟩).out.length) (D6.goS (slS q a b) (D6.cuts (a++b)) ((D6.cuts (a++b)).length - 1) 0 ⟨[],[],0,0⟩).out)
 | 0,i,acc,h,h'=>by
  have _u:=ha;have _v:=hb;obtain ⟨n,hn⟩:=u6a q a b ha hb b.length 0 acc (Af _) (by grind);refine ⟨n+1,?_⟩
  grind [Zw,Yn]
 | k+1,i,acc,h,h'=>by
  have hle:acc.length≤2*(400+i):=by rw [h',D6.ends_length];grind
  obtain ⟨n,hn⟩:=u6b k (i+1) (acc++D6.ends [rd a i]) (by omega) (by
   rw [h',A2]
   grind [Yo,Dim.ends])
  refine ⟨n+1,?_⟩;rw [Zw];simp (disch:=omega) only [Yn,Zd,Zq,Zs,Zt,Yb,Yw,Yu,Zf,Zk,Zx,Yc,Zj,Af,Ao,Ah,Ak,Ae,Ac];exact hn
end
def slJ (q:Op) (a b:List R6):List R6:=(D6.goS (slS q a b) (D6.cuts (a++b)) ((D6.cuts (a++b)).length - 1) 0 ⟨[],[],0,0⟩).out
def slE (q:Op) (a b:List R6):Int:=bif Zr a != 0 then Zr a else bif Zr b != 0 then Zr b else eJ (y7s (slA q a b) (D6.cuts (a++b)) ((D6.cuts (a++b)).length - 1) 0) (slJ q a b).length
def z2f (q:Op) (a b:List R6):List R6:=y8b (slE q a b) (slJ q a b)
def z5u (q:Op) (a b:List R6):Int:=slE q a b
def y2z (q:Op) (a b:List R6):Bool:=true
theorem z5f {l:List R6} (h:(Zr l != 0)=false):l.length≤400:=by
 grind [Zr]
theorem sl_run (q:Op) (a b:List R6) (h:y2z q a b=true): ∃n,Yx (Yn q a b) n (y2y q a b)=.ret (z9p (slE q a b) (slJ q a b)):=by
 unfold y2y;have o: ∀l,Vg l=true:=fun _=>rfl;simp only [Zd,o,Ae];rcases Yk (Zr a != 0) with q1 | q1
 ·exact ⟨0,by simp only [slE,q1,Ae,Vh _ q1];rfl⟩
 rcases Yk (Zr b != 0) with q2 | q2
 ·exact ⟨0,by simp only [slE,q1,q2,Ae,Ac,Vh _ q2];rfl⟩
 obtain ⟨n,hn⟩:=u6b q a b (z5f q1) (z5f q2) a.length 0 [] (Af _) rfl;refine ⟨n,?_⟩;simp only [slE,q1,q2,Ac];exact hn
def fSl (q:Op):List AVal→Option (AVal×Bool)
 | [a0,a1]=>match asL R6 a0,asL R6 a1 with
  | some (L0,g0,n0),some (L1,g1,n1)=>some (.tup [.dat (z2f q L0 L1).length (Zz (z2f q L0 L1)),.int .i64 (z5u q L0 L1)],isT R6 n0 g0&&(isT R6 n1 g1&&(y2z q L0 L1)))
  | _,_=>none
 | _=>none
theorem v6l (q:Op) {S:Specs} (hS:Zu prog S):Zu prog (S.with (nSl q) (fSl q)):=by
 refine v6j hS (by cases q <;> kernel_rfl) fun args v h=> ?_;unfold fSl at h;split at h
 ·rename_i a0 a1;split at h
  ·rename_i L0 g0 n0 L1 g1 n1 e0 e1;simp only [Ab,Aa,Ad] at h;obtain ⟨rfl,ho0,ho1,hw⟩:=h;obtain ⟨N,hN⟩:=sl_run q L0 L1 hw;exact ⟨_,_,(.cons (Yi e0 ho0) (.cons (Yi e1 ho1) .nil)),z1k _ _,v9g q L0 L1 N _ hN,3,z6q _ _⟩
  ·cases h
 ·cases h
structure R7 where
 (a b c d e f g:Int)
instance : Xk R7 where
 w:=7
 d:=⟨0,0,0,0,0,0,0⟩
 cells x:=[.int .u8 x.a,.int .i64 x.b,.int .i64 x.c,.int .i64 x.d,.int .i64 x.e,.int .i64 x.f,.int .i64 x.g]
 of l:=⟨iOf (l.getD 0 .undef),iOf (l.getD 1 .undef),iOf (l.getD 2 .undef),iOf (l.getD 3 .undef),iOf (l.getD 4 .undef),iOf (l.getD 5 .undef),iOf (l.getD 6 .undef)⟩
 len _:=rfl
 pos:=by decide
 flat _:=rfl
 sc _:=rfl
 back _:=rfl
inductive Ax where
 | x | y | z
def Ax.lo (q:Ax) (r:R6):Int:=match q with
 | .x =>r.a
 | .y =>r.b
 | .z =>r.c
def Ax.hi (q:Ax) (r:R6):Int:=match q with
 | .x =>r.d
 | .y =>r.e
 | .z =>r.f
def Ax.rc (q:Ax) (r:R6):R4:=match q with
 | .x =>⟨r.b,r.c,r.e,r.f⟩
 | .y =>⟨r.a,r.c,r.d,r.f⟩
 | .z =>⟨r.a,r.b,r.d,r.e⟩
def Ax.ix (q:Ax):Int:=match q with
 | .x =>0
 | .y =>1
 | .z =>2
def z6c (q:Ax) (L:List R6) (p:Int):List R4:=(L.filter fun r=>decide (q.lo r≤p)&&decide (p<q.hi r)).map q.rc
structure Pa where
 (a b c d e f:Int)
 s:List R6
instance : Xk Pa where
 w:=7
 d:=⟨0,0,0,0,0,0,[]⟩
 cells x:=[.int .i64 x.a,.int .i64 x.b,.int .i64 x.c,.int .i64 x.d,.int .i64 x.e,.int .i64 x.f,.dat x.s.length (Zz x.s)]
 of l:=⟨iOf (l.getD 0 .undef),iOf (l.getD 1 .undef),iOf (l.getD 2 .undef),iOf (l.getD 3 .undef),iOf (l.getD 4 .undef),iOf (l.getD 5 .undef),match l.getD 6 .undef with
  | .dat n g=>lst R6 n g
  | _=>[]⟩
 len _:=rfl
 pos:=by decide
 flat _:=rfl
 sc _:=rfl
 back x:=by show Pa.mk x.a x.b x.c x.d x.e x.f (lst R6 x.s.length (Zz x.s))=x;rw [Zq]
abbrev u9e :Nat:=81
abbrev nFlat :Nat:=82
abbrev nBack :Nat:=80
abbrev w4l :Nat:=54
abbrev u8v :Nat:=56
abbrev nSCut :Nat:=47
abbrev v5a :Nat:=20
abbrev v4x :Nat:=44
abbrev v4z :Nat:=14
abbrev nSkin :Nat:=16
abbrev nStep :Nat:=18
abbrev nRvb :Nat:=60
abbrev nRcm :Nat:=61
abbrev nRib :Nat:=30
abbrev nRlc :Nat:=21
abbrev nRln :Nat:=9
abbrev v5c :Nat:=29
abbrev v5b :Nat:=23
abbrev w0b :Nat:=26
abbrev w4r :Nat:=64
abbrev w4p :Nat:=37
def Va :Specs:=((Ud.with (nSl .u) (fSl .u)).with (nSl .e) (fSl .e)).with (nSl .d) (fSl .d)
theorem Ys :Zu prog Va:=v6l .d (v6l .e (v6l .u Kz))
inductive finS where
def finC (aH:Int) (aO:Int) (aN:Int):finS→Cfg
 :=nofun
def w1l (aH:Int) (aO:Int) (aN:Int):finS→Xw finS
 :=nofun
def y4i (aH:Int) (aO:Int) (aN:Int):Xw finS:=(bif (decide ((z0o (z0o aH aO) aN)≥(-1000000))) then (.ret [(.bool (decide ((Qh (Qh aH aO) aN)≤1000000)))]) else (.ret [(.bool false)]))
theorem w9i (aH:Int) (aO:Int) (aN:Int): ∀s,Xu prog (Zy prog 101) (finC aH aO aN) (finC aH aO aN s) (w1l aH aO aN s)
 :=nofun
theorem w1m (aH:Int) (aO:Int) (aN:Int):Xu prog (Zy prog 101) (finC aH aO aN) (Za prog 101 [(.agg [(.int .i64 aH),(.int .i64 aO),(.int .i64 aN)])] true []) (y4i aH aO aN):=(lb (fun k0=>(lr 21 3 [1,1,1,1,0] 1 9 [(2,(.bool (decide ((Qh (Qh aH aO) aN)≤1000000))))] (sl Ys 27 [] ⟨[],[],[some [2]],[]⟩ ⟨[],[],[]⟩ (trs 8 []) (tt k0 nn)))) (fun k0=>(lr 21 3 [1,1,1,1,0] 1 9 [(2,(.bool false))] (sl Ys 27 [] ⟨[],[],[some [2]],[]⟩ ⟨[],[],[]⟩ [false,false,false,false,false,false,false,false] (tt k0 nn)))))
theorem u3s (aH:Int) (aO:Int) (aN:Int) (n:Nat) (vs:List AVal) (h:Yx (w1l aH aO aN) n (y4i aH aO aN)=.ret vs):Ur prog (Zy prog 101) (Za prog 101 [(.agg [(.int .i64 aH),(.int .i64 aO),(.int .i64 aN)])] true []) vs:=by have:=Zc (w9i aH aO aN) n _ (w1m aH aO aN);rwa [h] at this
-- start: index into an array (choices [false, false, false])
inductive marS where
def marC (aH:Int) (aO:Int) (aN:Int) (aT:Int) (aV:Int) (aU:Int) (cY:Int):marS→Cfg
 :=nofun
def w0f (aH:Int) (aO:Int) (aN:Int) (aT:Int) (aV:Int) (aU:Int) (cY:Int):marS→Xw marS
 :=nofun
def y3x (aH:Int) (aO:Int) (aN:Int) (aT:Int) (aV:Int) (aU:Int) (cY:Int):Xw marS:=(bif (decide ((wrap IntKind.u8 (Int.tdiv aH 2))=Int.ofNat 0)) then (.ret [(.int .i64 (wrap .i64 ((wrap .i64 (aU - aN))*(wrap .i64 (cY - aT)))))]) else (bif (decide ((wrap IntKind.u8 (Int.tdiv aH 2))=Int.ofNat 1)) then (.ret [(.int .i64 (wrap .i64 ((wrap .i64 (aV - aO))*(wrap .i64 (cY - aT)))))]) else (bif (decide ((wrap IntKind.u8 (Int.tdiv aH 2))=Int.ofNat 2)) then (.ret [(.int .i64 (wrap .i64 ((wrap .i64 (aV - aO))*(wrap .i64 (aU - aN)))))]) else .stuck)))
theorem w8m (aH:Int) (aO:Int) (aN:Int) (aT:Int) (aV:Int) (aU:Int) (cY:Int): ∀s,Xu prog (Zy prog 70) (marC aH aO aN aT aV aU cY) (marC aH aO aN aT aV aU cY s) (w0f aH aO aN aT aV aU cY s)
 :=nofun
theorem w0g (aH:Int) (aO:Int) (aN:Int) (aT:Int) (aV:Int) (aU:Int) (cY:Int):Xu prog (Zy prog 70) (marC aH aO aN aT aV aU cY) (Za prog 70 [(.agg [(.int .u8 aH),(.int .i64 aO),(.int .i64 aN),(.int .i64 aT),(.int .i64 aV),(.int .i64 aU),(.int .i64 cY)])] true []) (y3x aH aO aN aT aV aU cY):=(lb (fun k0=>(lr 25 3 [1,1,1,1,0] 1 9 [(2,(ii (wr ((wr (aU - aN))*(wr (cY - aT))))))] (sl Ys 22 [] ⟨[],[],[some [2]],[]⟩ ⟨[],[],[]⟩ [false] (ww k0 nn)))) (fun k0=>(lb (fun k1=>(lr 25 3 [1,1,1,1,0] 1 9 [(2,(ii (wr ((wr (aV - aO))*(wr (cY - aT))))))] (sl Ys 22 [] ⟨[],[],[some [2]],[]⟩ ⟨[],[],[]⟩ [true,false] (ww k1 nn)))) (fun k1=>(lb (fun k2=>(lr 25 3 [1,1,1,1,0] 1 9 [(2,(ii (wr ((wr (aV - aO))*(wr (aU - aN))))))] (sl Ys 22 [] ⟨[],[],[some [2]],[]⟩ ⟨[],[],[]⟩ [true,true,false] (ww k2 nn)))) (fun k2=>trivial))))))
theorem u2r (aH:Int) (aO:Int) (aN:Int) (aT:Int) (aV:Int) (aU:Int) (cY:Int) (n:Nat) (vs:List AVal) (h:Yx (w0f aH aO aN aT aV aU cY) n (y3x aH aO aN aT aV aU cY)=.ret vs):Ur prog (Zy prog 70) (Za prog 70 [(.agg [(.int .u8 aH),(.int .i64 aO),(.int .i64 aN),(.int .i64 aT),(.int .i64 aV),(.int .i64 aU),(.int .i64 cY)])] true []) vs:=by have:=Zc (w8m aH aO aN aT aV aU cY) n _ (w0g aH aO aN aT aV aU cY);rwa [h] at this
inductive svoS where
 | h0 (v5:Int) (v18:Int)
def svoC (l0:List R6):svoS→Cfg
 | .h0 v5 v18=>⟨⟨37,0,true⟩,none,(Zb prog 63 [1,1,1,0,1,0,0] 0),none,(Zy prog 14),⟨Yg [(5,(ii v5)),(16,(.dat l0.length (Zz l0))),(17,(ii (l0.length:Int))),(18,(ii v18))],Wt [] 0,0,[],true⟩,[],.leaf⟩
def svoN0 :List (Option (List Nat)):=[some [5,16,17,18]]
def svoM0 :List (Option (List Nat)):=[]
def z9t (l0:List R6):svoS→Xw svoS
 | .h0 v5 v18=>(bif (decide (v18<(l0.length:Int))) then (bif ((decide (0≤v18∧v18<(l0.length:Int)))&&true) then (.to (.h0 (wrap .i64 (v5+(wrap .i64 ((wrap .i64 ((wrap .i64 ((rd l0 v18.toNat).d - (rd l0 v18.toNat).a))*(wrap .i64 ((rd l0 v18.toNat).e - (rd l0 v18.toNat).b))))*(wrap .i64 ((rd l0 v18.toNat).f - (rd l0 v18.toNat).c)))))) (wrap .i64 (v18+1)))) else .stuck) else (.ret [(.int .i64 v5),(.int .i64 0)]))
def y2u (l0:List R6):Xw svoS:=(bif (Vg (cvT l0)) then (bif ((Zr (cvT l0)) != 0) then (.ret [(.int .i64 0),(.int .i64 (Zr (cvT l0)))]) else (.to (.h0 0 0))) else .stuck)
theorem w6d (l0:List R6): ∀s,Xu prog (Zy prog 63) (svoC l0) (svoC l0 s) (z9t l0 s)
 | .h0 v5 v18=>(lb (fun k0=>(lo fun o0=>(sl Ys 54 [] ⟨[],[],svoN0,svoM0⟩ ⟨[],[],[]⟩ [true] (ww o0 (tt k0 nn))))) (fun k0=>(lr 37 3 [1,1,1,1,0] 1 14 [(2,(ii v5)),(3,(ii 0))] (sl Ys 13 [] ⟨[],[],[some [2,3]],[]⟩ ⟨[],[],[]⟩ [false] (tt k0 nn)))))
theorem x7j (l0:List R6):Xu prog (Zy prog 63) (svoC l0) (Za prog 63 [(.dat l0.length (Zz l0))] true []) (y2u l0):=(lo fun bN=>(lb (fun k0=>(lr 37 63 [1,0,1,1,0,0] 1 14 [(2,(ii 0)),(3,(ii (Zr (cvT l0))))] (sl Ys 24 [] ⟨[],[],[some [2,3]],[]⟩ ⟨[],[],[]⟩ [true] (tt k0 (pp (pp (xr l0) (xw bN)) nn))))) (fun k0=>(sl Ys 32 [] ⟨[],[],svoN0,svoM0⟩ ⟨[],[],[]⟩ [false] (tt k0 (pp (pp (xr l0) (xw bN)) nn))))))
theorem v8z (l0:List R6) (n:Nat) (vs:List AVal) (h:Yx (z9t l0) n (y2u l0)=.ret vs):Ur prog (Zy prog 63) (Za prog 63 [(.dat l0.length (Zz l0))] true []) vs:=by have:=Zc (w6d l0) n _ (x7j l0);rwa [h] at this
inductive pluS where
def pluC (aH:Int) (aO:Int) (aN:Int) (aP:Int) (aR:Int) (aQ:Int):pluS→Cfg
 :=nofun
def x9t (aH:Int) (aO:Int) (aN:Int) (aP:Int) (aR:Int) (aQ:Int):pluS→Xw pluS
 :=nofun
def x2k (aH:Int) (aO:Int) (aN:Int) (aP:Int) (aR:Int) (aQ:Int):Xw pluS:=(.ret [(.agg [(.int .i64 (wrap .i64 (aH+aP))),(.int .i64 (wrap .i64 (aO+aR))),(.int .i64 (wrap .i64 (aN+aQ)))])])
theorem w8e (aH:Int) (aO:Int) (aN:Int) (aP:Int) (aR:Int) (aQ:Int): ∀s,Xu prog (Zy prog 27) (pluC aH aO aN aP aR aQ) (pluC aH aO aN aP aR aQ s) (x9t aH aO aN aP aR aQ s)
 :=nofun
theorem x9u (aH:Int) (aO:Int) (aN:Int) (aP:Int) (aR:Int) (aQ:Int):Xu prog (Zy prog 27) (pluC aH aO aN aP aR aQ) (Za prog 27 [(.agg [(.int .i64 aH),(.int .i64 aO),(.int .i64 aN)]),(.agg [(.int .i64 aP),(.int .i64 aR),(.int .i64 aQ)])] true []) (x2k aH aO aN aP aR aQ):=(Vi ⟨⟨21,0,true⟩,none,(Zb prog 3 [1,1,1,1,0] 1),none,(Zy prog 27),⟨Yg [(4,(.ptr 0 0))],Wt [⟨[(ii (wr (aH+aP))),(ii (wr (aO+aR))),(ii (wr (aN+aQ)))],50,none⟩] 0,1,[],true⟩,[],.leaf⟩ (sl Ys 26 [] ⟨[2],[],[some [4]],[]⟩ ⟨[],[],[]⟩ [] nn) rfl (by kernel_rfl))
theorem u2a (aH:Int) (aO:Int) (aN:Int) (aP:Int) (aR:Int) (aQ:Int) (n:Nat) (vs:List AVal) (h:Yx (x9t aH aO aN aP aR aQ) n (x2k aH aO aN aP aR aQ)=.ret vs):Ur prog (Zy prog 27) (Za prog 27 [(.agg [(.int .i64 aH),(.int .i64 aO),(.int .i64 aN)]),(.agg [(.int .i64 aP),(.int .i64 aR),(.int .i64 aQ)])] true []) vs:=by have:=Zc (w8e aH aO aN aP aR aQ) n _ (x9u aH aO aN aP aR aQ);rwa [h] at this
inductive drcS where
def drcC (x0:Int):drcS→Cfg
 :=nofun
def w1v (x0:Int):drcS→Xw drcS
 :=nofun
def y4l (x0:Int):Xw drcS:=(bif ((Int.tmod x0 2) == 1) then (bif (decide (x0<2)) then (.ret [(.agg [(.int .i64 (-1)),(.int .i64 0),(.int .i64 0)])]) else (bif (decide (x0<4)) then (.ret [(.agg [(.int .i64 0),(.int .i64 (-1)),(.int .i64 0)])]) else (.ret [(.agg [(.int .i64 0),(.int .i64 0),(.int .i64 (-1))])]))) else (bif (decide (x0<2)) then (.ret [(.agg [(.int .i64 1),(.int .i64 0),(.int .i64 0)])]) else (bif (decide (x0<4)) then (.ret [(.agg [(.int .i64 0),(.int .i64 1),(.int .i64 0)])]) else (.ret [(.agg [(.int .i64 0),(.int .i64 0),(.int .i64 1)])]))))
theorem w9r (x0:Int): ∀s,Xu prog (Zy prog 28) (drcC x0) (drcC x0 s) (w1v x0 s)
 :=nofun
theorem w1w (x0:Int):Xu prog (Zy prog 28) (drcC x0) (Za prog 28 [(.int .i64 x0)] true []) (y4l x0):=(lb (fun k0=>(lb (fun k1=>(Vi ⟨⟨17,0,true⟩,none,(Zb prog 28 [1,1,1,0,1,0,0] 1),none,(Zy prog 28),⟨Yg [(2,(.ptr 0 0))],Wt [⟨[(ii (-1)),(ii 0),(ii 0)],50,none⟩] 0,1,[],true⟩,[],.leaf⟩ (sl Ys 32 [] ⟨[0],[],[some [2]],[]⟩ ⟨[],[],[]⟩ [true,true] (tt k1 (tt k0 nn))) rfl (by kernel_rfl))) (fun k1=>(lb (fun k2=>(Vi ⟨⟨17,0,true⟩,none,(Zb prog 28 [1,1,1,1,0,1,0,0] 1),none,(Zy prog 28),⟨Yg [(2,(.ptr 0 0))],Wt [⟨[(ii 0),(ii (-1)),(ii 0)],50,none⟩] 0,1,[],true⟩,[],.leaf⟩ (sl Ys 40 [] ⟨[0],[],[some [2]],[]⟩ ⟨[],[],[]⟩ [true,false,true] (tt k2 (tt k1 (tt k0 nn)))) rfl (by kernel_rfl))) (fun k2=>(Vi ⟨⟨17,0,true⟩,none,(Zb prog 3 [1,1,1,1,0] 1),none,(Zy prog 28),⟨Yg [(2,(.ptr 0 0))],Wt [⟨[(ii 0),(ii 0),(ii (-1))],50,none⟩] 0,1,[],true⟩,[],.leaf⟩ (sl Ys 41 [] ⟨[0],[],[some [2]],[]⟩ ⟨[],[],[]⟩ [true,false,false] (tt k2 (tt k1 (tt k0 nn)))) rfl (by kernel_rfl))))))) (fun k0=>(lb (fun k1=>(Vi ⟨⟨17,0,true⟩,none,(Zb prog 28 [1,1,1,0,1,0,0] 1),none,(Zy prog 28),⟨Yg [(2,(.ptr 0 0))],Wt [⟨[(ii 1),(ii 0),(ii 0)],50,none⟩] 0,1,[],true⟩,[],.leaf⟩ (sl Ys 30 [] ⟨[0],[],[some [2]],[]⟩ ⟨[],[],[]⟩ [false,true] (tt k1 (tt k0 nn))) rfl (by kernel_rfl))) (fun k1=>(lb (fun k2=>(Vi ⟨⟨17,0,true⟩,none,(Zb prog 28 [1,1,1,1,0,1,0,0] 1),none,(Zy prog 28),⟨Yg [(2,(.ptr 0 0))],Wt [⟨[(ii 0),(ii 1),(ii 0)],50,none⟩] 0,1,[],true⟩,[],.leaf⟩ (sl Ys 38 [] ⟨[0],[],[some [2]],[]⟩ ⟨[],[],[]⟩ [false,false,true] (tt k2 (tt k1 (tt k0 nn)))) rfl (by kernel_rfl))) (fun k2=>(Vi ⟨⟨17,0,true⟩,none,(Zb prog 3 [1,1,1,1,0] 1),none,(Zy prog 28),⟨Yg [(2,(.ptr 0 0))],Wt [⟨[(ii 0),(ii 0),(ii 1)],50,none⟩] 0,1,[],true⟩,[],.leaf⟩ (sl Ys 39 [] ⟨[0],[],[some [2]],[]⟩ ⟨[],[],[]⟩ [false,false,false] (tt k2 (tt k1 (tt k0 nn)))) rfl (by kernel_rfl))))))))
theorem u4g (x0:Int) (n:Nat) (vs:List AVal) (h:Yx (w1v x0) n (y4l x0)=.ret vs):Ur prog (Zy prog 28) (Za prog 28 [(.int .i64 x0)] true []) vs:=by have:=Zc (w9r x0) n _ (w1w x0);rwa [h] at this
-- start: index into an array (choices [false, false, false])
inductive algS where
def algC (aH:Int) (aP:Int) (aR:Int) (aQ:Int):algS→Cfg
 :=nofun
def w2o (aH:Int) (aP:Int) (aR:Int) (aQ:Int):algS→Xw algS
 :=nofun
def y4s (aH:Int) (aP:Int) (aR:Int) (aQ:Int):Xw algS:=(bif (decide (aH=Int.ofNat 0)) then (.ret [(.int .i64 aP)]) else (bif (decide (aH=Int.ofNat 1)) then (.ret [(.int .i64 aR)]) else (bif (decide (aH=Int.ofNat 2)) then (.ret [(.int .i64 aQ)]) else .stuck)))
theorem v0f (aH:Int) (aP:Int) (aR:Int) (aQ:Int): ∀s,Xu prog (Zy prog 81) (algC aH aP aR aQ) (algC aH aP aR aQ s) (w2o aH aP aR aQ s)
 :=nofun
theorem w2p (aH:Int) (aP:Int) (aR:Int) (aQ:Int):Xu prog (Zy prog 81) (algC aH aP aR aQ) (Za prog 81 [(.agg [(.int .i64 aH)]),(.agg [(.int .i64 aP),(.int .i64 aR),(.int .i64 aQ)])] true []) (y4s aH aP aR aQ):=(lb (fun k0=>(lr 15 3 [1,1,1,1,0] 1 6 [(4,(ii aP))] (sl Ys 20 [] ⟨[],[],[some [4]],[]⟩ ⟨[],[],[]⟩ [false] (ww k0 nn)))) (fun k0=>(lb (fun k1=>(lr 15 3 [1,1,1,1,0] 1 6 [(4,(ii aR))] (sl Ys 20 [] ⟨[],[],[some [4]],[]⟩ ⟨[],[],[]⟩ [true,false] (ww k1 nn)))) (fun k1=>(lb (fun k2=>(lr 15 3 [1,1,1,1,0] 1 6 [(4,(ii aQ))] (sl Ys 20 [] ⟨[],[],[some [4]],[]⟩ ⟨[],[],[]⟩ [true,true,false] (ww k2 nn)))) (fun k2=>trivial))))))
theorem u4u (aH:Int) (aP:Int) (aR:Int) (aQ:Int) (n:Nat) (vs:List AVal) (h:Yx (w2o aH aP aR aQ) n (y4s aH aP aR aQ)=.ret vs):Ur prog (Zy prog 81) (Za prog 81 [(.agg [(.int .i64 aH)]),(.agg [(.int .i64 aP),(.int .i64 aR),(.int .i64 aQ)])] true []) vs:=by have:=Zc (v0f aH aP aR aQ) n _ (w2p aH aP aR aQ);rwa [h] at this
-- start: index into an array (choices [false, false, false, false])
inductive fltS where
def fltC (aH:Int) (aP:Int) (aR:Int) (aQ:Int):fltS→Cfg
 :=nofun
def w1i (aH:Int) (aP:Int) (aR:Int) (aQ:Int):fltS→Xw fltS
 :=nofun
def y4h (aH:Int) (aP:Int) (aR:Int) (aQ:Int):Xw fltS:=(bif (aH == 0) then (.ret [(.int .i64 aR),(.int .i64 aQ)]) else (bif (decide (aH=Int.ofNat 0)) then (.ret [(.int .i64 aP),(.int .i64 0)]) else (bif (decide (aH=Int.ofNat 1)) then (.ret [(.int .i64 aP),(.int .i64 aQ)]) else (bif (decide (aH=Int.ofNat 2)) then (.ret [(.int .i64 aP),(.int .i64 aR)]) else .stuck))))
theorem w9f (aH:Int) (aP:Int) (aR:Int) (aQ:Int): ∀s,Xu prog (Zy prog 82) (fltC aH aP aR aQ) (fltC aH aP aR aQ s) (w1i aH aP aR aQ s)
 :=nofun
theorem w1j (aH:Int) (aP:Int) (aR:Int) (aQ:Int):Xu prog (Zy prog 82) (fltC aH aP aR aQ) (Za prog 82 [(.agg [(.int .i64 aH)]),(.agg [(.int .i64 aP),(.int .i64 aR),(.int .i64 aQ)])] true []) (y4h aH aP aR aQ):=(lb (fun k0=>(lr 23 82 [1,0,1,0,0] 1 16 [(4,(ii aR)),(5,(ii aQ))] (sl Ys 17 [] ⟨[],[],[some [4,5]],[]⟩ ⟨[],[],[]⟩ [true] (tt k0 nn)))) (fun k0=>(lb (fun k1=>(lr 23 3 [1,1,1,1,0] 1 16 [(4,(ii aP)),(5,(ii 0))] (sl Ys 18 [] ⟨[],[],[some [4,5]],[]⟩ ⟨[],[],[]⟩ [false,false] (ww k1 (tt k0 nn))))) (fun k1=>(lb (fun k2=>(lr 23 3 [1,1,1,1,0] 1 16 [(4,(ii aP)),(5,(ii aQ))] (sl Ys 18 [] ⟨[],[],[some [4,5]],[]⟩ ⟨[],[],[]⟩ [false,true,false] (ww k2 (tt k0 nn))))) (fun k2=>(lb (fun k3=>(lr 23 3 [1,1,1,1,0] 1 16 [(4,(ii aP)),(5,(ii aR))] (sl Ys 18 [] ⟨[],[],[some [4,5]],[]⟩ ⟨[],[],[]⟩ [false,true,true,false] (ww k3 (tt k0 nn))))) (fun k3=>trivial))))))))
theorem u3n (aH:Int) (aP:Int) (aR:Int) (aQ:Int) (n:Nat) (vs:List AVal) (h:Yx (w1i aH aP aR aQ) n (y4h aH aP aR aQ)=.ret vs):Ur prog (Zy prog 82) (Za prog 82 [(.agg [(.int .i64 aH)]),(.agg [(.int .i64 aP),(.int .i64 aR),(.int .i64 aQ)])] true []) vs:=by have:=Zc (w9f aH aP aR aQ) n _ (w1j aH aP aR aQ);rwa [h] at this
-- start: index into an array (choices [false, false, false])
inductive bckS where
def bckC (aH:Int) (x1:Int) (x2:Int) (x3:Int):bckS→Cfg
 :=nofun
def w2j (aH:Int) (x1:Int) (x2:Int) (x3:Int):bckS→Xw bckS
 :=nofun
def y4p (aH:Int) (x1:Int) (x2:Int) (x3:Int):Xw bckS:=(bif (decide (aH=Int.ofNat 0)) then (.ret [(.agg [(.int .i64 x1),(.int .i64 x2),(.int .i64 x3)])]) else (bif (decide (aH=Int.ofNat 1)) then (.ret [(.agg [(.int .i64 x2),(.int .i64 x1),(.int .i64 x3)])]) else (bif (decide (aH=Int.ofNat 2)) then (.ret [(.agg [(.int .i64 x2),(.int .i64 x3),(.int .i64 x1)])]) else .stuck)))
theorem v0d (aH:Int) (x1:Int) (x2:Int) (x3:Int): ∀s,Xu prog (Zy prog 80) (bckC aH x1 x2 x3) (bckC aH x1 x2 x3 s) (w2j aH x1 x2 x3 s)
 :=nofun
theorem w2k (aH:Int) (x1:Int) (x2:Int) (x3:Int):Xu prog (Zy prog 80) (bckC aH x1 x2 x3) (Za prog 80 [(.agg [(.int .i64 aH)]),(.int .i64 x1),(.int .i64 x2),(.int .i64 x3)] true []) (y4p aH x1 x2 x3):=(lb (fun k0=>(Vi ⟨⟨25,0,true⟩,none,(Zb prog 3 [1,1,1,1,0] 1),none,(Zy prog 80),⟨Yg [(8,(.ptr 0 0))],Wt [⟨[(ii x1),(ii x2),(ii x3)],50,none⟩] 0,1,[],true⟩,[],.leaf⟩ (sl Ys 25 [] ⟨[1],[],[some [8]],[]⟩ ⟨[],[],[]⟩ [false] (ww k0 nn)) rfl (by kernel_rfl))) (fun k0=>(lb (fun k1=>(Vi ⟨⟨25,0,true⟩,none,(Zb prog 3 [1,1,1,1,0] 1),none,(Zy prog 80),⟨Yg [(8,(.ptr 0 0))],Wt [⟨[(ii x2),(ii x1),(ii x3)],50,none⟩] 0,1,[],true⟩,[],.leaf⟩ (sl Ys 25 [] ⟨[1],[],[some [8]],[]⟩ ⟨[],[],[]⟩ [true,false] (ww k1 nn)) rfl (by kernel_rfl))) (fun k1=>(lb (fun k2=>(Vi ⟨⟨25,0,true⟩,none,(Zb prog 3 [1,1,1,1,0] 1),none,(Zy prog 80),⟨Yg [(8,(.ptr 0 0))],Wt [⟨[(ii x2),(ii x3),(ii x1)],50,none⟩] 0,1,[],true⟩,[],.leaf⟩ (sl Ys 25 [] ⟨[1],[],[some [8]],[]⟩ ⟨[],[],[]⟩ [true,true,false] (ww k2 nn)) rfl (by kernel_rfl))) (fun k2=>trivial))))))
theorem u4q (aH:Int) (x1:Int) (x2:Int) (x3:Int) (n:Nat) (vs:List AVal) (h:Yx (w2j aH x1 x2 x3) n (y4p aH x1 x2 x3)=.ret vs):Ur prog (Zy prog 80) (Za prog 80 [(.agg [(.int .i64 aH)]),(.int .i64 x1),(.int .i64 x2),(.int .i64 x3)] true []) vs:=by have:=Zc (v0d aH x1 x2 x3) n _ (w2k aH x1 x2 x3);rwa [h] at this
inductive insS where
def insC (aH:Int) (aO:Int) (aN:Int) (aT:Int) (aV:Int) (aU:Int) (aP:Int) (aR:Int) (aQ:Int) (bR:Int) (bS:Int) (bQ:Int):insS→Cfg
 :=nofun
def w0z (aH:Int) (aO:Int) (aN:Int) (aT:Int) (aV:Int) (aU:Int) (aP:Int) (aR:Int) (aQ:Int) (bR:Int) (bS:Int) (bQ:Int):insS→Xw insS
 :=nofun
def y4d (aH:Int) (aO:Int) (aN:Int) (aT:Int) (aV:Int) (aU:Int) (aP:Int) (aR:Int) (aQ:Int) (bR:Int) (bS:Int) (bQ:Int):Xw insS:=(bif (decide (aH≥aP)) then (bif (decide (aO≥aR)) then (bif (decide (aN≥aQ)) then (bif (decide (aT≤bR)) then (bif (decide (aV≤bS)) then (.ret [(.bool (decide (aU≤bQ)))]) else (.ret [(.bool false)])) else (.ret [(.bool false)])) else (.ret [(.bool false)])) else (.ret [(.bool false)])) else (.ret [(.bool false)]))
theorem w9a (aH:Int) (aO:Int) (aN:Int) (aT:Int) (aV:Int) (aU:Int) (aP:Int) (aR:Int) (aQ:Int) (bR:Int) (bS:Int) (bQ:Int): ∀s,Xu prog (Zy prog 54) (insC aH aO aN aT aV aU aP aR aQ bR bS bQ) (insC aH aO aN aT aV aU aP aR aQ bR bS bQ s) (w0z aH aO aN aT aV aU aP aR aQ bR bS bQ s)
 :=nofun
theorem w1a (aH:Int) (aO:Int) (aN:Int) (aT:Int) (aV:Int) (aU:Int) (aP:Int) (aR:Int) (aQ:Int) (bR:Int) (bS:Int) (bQ:Int):Xu prog (Zy prog 54) (insC aH aO aN aT aV aU aP aR aQ bR bS bQ) (Za prog 54 [(.agg [(.int .i64 aH),(.int .i64 aO),(.int .i64 aN),(.int .i64 aT),(.int .i64 aV),(.int .i64 aU)]),(.agg [(.int .i64 aP),(.int .i64 aR),(.int .i64 aQ),(.int .i64 bR),(.int .i64 bS),(.int .i64 bQ)])] true []) (y4d aH aO aN aT aV aU aP aR aQ bR bS bQ):=(lb (fun k0=>(lb (fun k1=>(lb (fun k2=>(lb (fun k3=>(lb (fun k4=>(lr 57 3 [1,1,1,1,0] 1 6 [(4,(.bool (decide (aU≤bQ))))] (sl Ys 62 [] ⟨[],[],[some [4]],[]⟩ ⟨[],[],[]⟩ (trs 35 []) (tt k4 (tt k3 (tt k2 (tt k1 (tt k0 nn)))))))) (fun k4=>(lr 57 3 [1,1,1,1,0] 1 6 [(4,(.bool false))] (sl Ys 62 [] ⟨[],[],[some [4]],[]⟩ ⟨[],[],[]⟩ (trs 28 [false,false,false,false,false,false,false]) (tt k4 (tt k3 (tt k2 (tt k1 (tt k0 nn)))))))))) (fun k3=>(lr 57 3 [1,1,1,1,0] 1 6 [(4,(.bool false))] (sl Ys 62 [] ⟨[],[],[some [4]],[]⟩ ⟨[],[],[]⟩ (trs 21 [false,false,false,false,false,false,false,false,false,false,false,false,false,false]) (tt k3 (tt k2 (tt k1 (tt k0 nn))))))))) (fun k2=>(lr 57 3 [1,1,1,1,0] 1 6 [(4,(.bool false))] (sl Ys 62 [] ⟨[],[],[some [4]],[]⟩ ⟨[],[],[]⟩ (trs 14 [false,false,false,false,false,false,false,false,false,false,false,false,false,false,false,false,false,false,false,false,false]) (tt k2 (tt k1 (tt k0 nn)))))))) (fun k1=>(lr 57 3 [1,1,1,1,0] 1 6 [(4,(.bool false))] (sl Ys 62 [] ⟨[],[],[some [4]],[]⟩ ⟨[],[],[]⟩ (trs 7 [false,false,false,false,false,false,false,false,false,false,false,false,false,false,false,false,false,false,false,false,false,false,false,false,false,false,false,false]) (tt k1 (tt k0 nn))))))) (fun k0=>(lr 57 3 [1,1,1,1,0] 1 6 [(4,(.bool false))] (sl Ys 62 [] ⟨[],[],[some [4]],[]⟩ ⟨[],[],[]⟩ [false,false,false,false,false,false,false,false,false,false,false,false,false,false,false,false,false,false,false,false,false,false,false,false,false,false,false,false,false,false,false,false,false,false,false] (tt k0 nn)))))
theorem u3i (aH:Int) (aO:Int) (aN:Int) (aT:Int) (aV:Int) (aU:Int) (aP:Int) (aR:Int) (aQ:Int) (bR:Int) (bS:Int) (bQ:Int) (n:Nat) (vs:List AVal) (h:Yx (w0z aH aO aN aT aV aU aP aR aQ bR bS bQ) n (y4d aH aO aN aT aV aU aP aR aQ bR bS bQ)=.ret vs):Ur prog (Zy prog 54) (Za prog 54 [(.agg [(.int .i64 aH),(.int .i64 aO),(.int .i64 aN),(.int .i64 aT),(.int .i64 aV),(.int .i64 aU)]),(.agg [(.int .i64 aP),(.int .i64 aR),(.int .i64 aQ),(.int .i64 bR),(.int .i64 bS),(.int .i64 bQ)])] true []) vs:=by have:=Zc (w9a aH aO aN aT aV aU aP aR aQ bR bS bQ) n _ (w1a aH aO aN aT aV aU aP aR aQ bR bS bQ);rwa [h] at this
inductive meeS where
def meeC (aH:Int) (aO:Int) (aN:Int) (aT:Int) (aV:Int) (aU:Int) (aP:Int) (aR:Int) (aQ:Int) (bR:Int) (bS:Int) (bQ:Int):meeS→Cfg
 :=nofun
def w0c (aH:Int) (aO:Int) (aN:Int) (aT:Int) (aV:Int) (aU:Int) (aP:Int) (aR:Int) (aQ:Int) (bR:Int) (bS:Int) (bQ:Int):meeS→Xw meeS
 :=nofun
def y3v (aH:Int) (aO:Int) (aN:Int) (aT:Int) (aV:Int) (aU:Int) (aP:Int) (aR:Int) (aQ:Int) (bR:Int) (bS:Int) (bQ:Int):Xw meeS:=(bif (decide (aH<bR)) then (bif (decide (aP<aT)) then (bif (decide (aO<bS)) then (bif (decide (aR<aV)) then (bif (decide (aN<bQ)) then (.ret [(.bool (decide (aQ<aU)))]) else (.ret [(.bool false)])) else (.ret [(.bool false)])) else (.ret [(.bool false)])) else (.ret [(.bool false)])) else (.ret [(.bool false)]))
theorem w8j (aH:Int) (aO:Int) (aN:Int) (aT:Int) (aV:Int) (aU:Int) (aP:Int) (aR:Int) (aQ:Int) (bR:Int) (bS:Int) (bQ:Int): ∀s,Xu prog (Zy prog 56) (meeC aH aO aN aT aV aU aP aR aQ bR bS bQ) (meeC aH aO aN aT aV aU aP aR aQ bR bS bQ s) (w0c aH aO aN aT aV aU aP aR aQ bR bS bQ s)
 :=nofun
theorem w0d (aH:Int) (aO:Int) (aN:Int) (aT:Int) (aV:Int) (aU:Int) (aP:Int) (aR:Int) (aQ:Int) (bR:Int) (bS:Int) (bQ:Int):Xu prog (Zy prog 56) (meeC aH aO aN aT aV aU aP aR aQ bR bS bQ) (Za prog 56 [(.agg [(.int .i64 aH),(.int .i64 aO),(.int .i64 aN),(.int .i64 aT),(.int .i64 aV),(.int .i64 aU)]),(.agg [(.int .i64 aP),(.int .i64 aR),(.int .i64 aQ),(.int .i64 bR),(.int .i64 bS),(.int .i64 bQ)])] true []) (y3v aH aO aN aT aV aU aP aR aQ bR bS bQ):=(lb (fun k0=>(lb (fun k1=>(lb (fun k2=>(lb (fun k3=>(lb (fun k4=>(lr 57 3 [1,1,1,1,0] 1 6 [(4,(.bool (decide (aQ<aU))))] (sl Ys 62 [] ⟨[],[],[some [4]],[]⟩ ⟨[],[],[]⟩ (trs 35 []) (tt k4 (tt k3 (tt k2 (tt k1 (tt k0 nn)))))))) (fun k4=>(lr 57 3 [1,1,1,1,0] 1 6 [(4,(.bool false))] (sl Ys 62 [] ⟨[],[],[some [4]],[]⟩ ⟨[],[],[]⟩ (trs 28 [false,false,false,false,false,false,false]) (tt k4 (tt k3 (tt k2 (tt k1 (tt k0 nn)))))))))) (fun k3=>(lr 57 3 [1,1,1,1,0] 1 6 [(4,(.bool false))] (sl Ys 62 [] ⟨[],[],[some [4]],[]⟩ ⟨[],[],[]⟩ (trs 21 [false,false,false,false,false,false,false,false,false,false,false,false,false,false]) (tt k3 (tt k2 (tt k1 (tt k0 nn))))))))) (fun k2=>(lr 57 3 [1,1,1,1,0] 1 6 [(4,(.bool false))] (sl Ys 62 [] ⟨[],[],[some [4]],[]⟩ ⟨[],[],[]⟩ (trs 14 [false,false,false,false,false,false,false,false,false,false,false,false,false,false,false,false,false,false,false,false,false]) (tt k2 (tt k1 (tt k0 nn)))))))) (fun k1=>(lr 57 3 [1,1,1,1,0] 1 6 [(4,(.bool false))] (sl Ys 62 [] ⟨[],[],[some [4]],[]⟩ ⟨[],[],[]⟩ (trs 7 [false,false,false,false,false,false,false,false,false,false,false,false,false,false,false,false,false,false,false,false,false,false,false,false,false,false,false,false]) (tt k1 (tt k0 nn))))))) (fun k0=>(lr 57 3 [1,1,1,1,0] 1 6 [(4,(.bool false))] (sl Ys 62 [] ⟨[],[],[some [4]],[]⟩ ⟨[],[],[]⟩ [false,false,false,false,false,false,false,false,false,false,false,false,false,false,false,false,false,false,false,false,false,false,false,false,false,false,false,false,false,false,false,false,false,false,false] (tt k0 nn)))))
theorem u2l (aH:Int) (aO:Int) (aN:Int) (aT:Int) (aV:Int) (aU:Int) (aP:Int) (aR:Int) (aQ:Int) (bR:Int) (bS:Int) (bQ:Int) (n:Nat) (vs:List AVal) (h:Yx (w0c aH aO aN aT aV aU aP aR aQ bR bS bQ) n (y3v aH aO aN aT aV aU aP aR aQ bR bS bQ)=.ret vs):Ur prog (Zy prog 56) (Za prog 56 [(.agg [(.int .i64 aH),(.int .i64 aO),(.int .i64 aN),(.int .i64 aT),(.int .i64 aV),(.int .i64 aU)]),(.agg [(.int .i64 aP),(.int .i64 aR),(.int .i64 aQ),(.int .i64 bR),(.int .i64 bS),(.int .i64 bQ)])] true []) vs:=by have:=Zc (w8j aH aO aN aT aV aU aP aR aQ bR bS bQ) n _ (w0d aH aO aN aT aV aU aP aR aQ bR bS bQ);rwa [h] at this
def axO (a:Int):Bool:=decide (a=Int.ofNat 0)||(decide (a=Int.ofNat 1)||decide (a=Int.ofNat 2))
def y1b (a x y z:Int):Int:=bif decide (a=Int.ofNat 0) then x else bif decide (a=Int.ofNat 1) then y else z
def Ux (a _ _ _:Int):Bool:=axO a
theorem j7t (a x y z:Int) (h:Ux a x y z=true): ∃N,Yx (w2o a x y z) N (y4s a x y z)=.ret [.int .i64 (y1b a x y z)]:=⟨0,by
 revert h;unfold Ux axO y4s y1b;cases decide (a=Int.ofNat 0) <;> cases decide (a=Int.ofNat 1) <;> cases decide (a=Int.ofNat 2) <;> intro h <;> first | rfl | cases h⟩
def z2u (a x y _z:Int):Int:=bif decide (a=Int.ofNat 0) then y else x
def z2t (a _x y z:Int):Int:=bif decide (a=Int.ofNat 0) then z else bif decide (a=Int.ofNat 1) then z else y
def z2s (a _ _ _:Int):Bool:=axO a
theorem j4z (a x y z:Int) (h:z2s a x y z=true): ∃N,Yx (w1i a x y z) N (y4h a x y z)=.ret [.int .i64 (z2u a x y z),.int .i64 (z2t a x y z)]:=⟨0,by
 revert h;have e:(a == 0)=decide (a=Int.ofNat 0):=rfl;unfold z2s axO y4h z2u z2t;rw [e];cases decide (a=Int.ofNat 0) <;> cases decide (a=Int.ofNat 1) <;> cases decide (a=Int.ofNat 2) <;> intro h <;> first | rfl | cases h⟩
def z2v (a p x y:Int):R3:=bif decide (a=Int.ofNat 0) then ⟨p,x,y⟩ else bif decide (a=Int.ofNat 1) then ⟨x,p,y⟩ else ⟨x,y,p⟩
def Kg (a _ _ _:Int):Bool:=axO a
theorem j7r (a p x y:Int) (h:Kg a p x y=true): ∃N,Yx (w2j a p x y) N (y4p a p x y)=.ret [.agg [.int .i64 (z2v a p x y).a,.int .i64 (z2v a p x y).b,.int .i64 (z2v a p x y).c]]:=⟨0,by
 revert h;unfold Kg axO y4p z2v;cases decide (a=Int.ofNat 0) <;> cases decide (a=Int.ofNat 1) <;> cases decide (a=Int.ofNat 2) <;> intro h <;> first | rfl | cases h⟩
def fAlg :List AVal→Option (AVal×Bool)
 | [.agg [.int .i64 aH],.agg [.int .i64 aP,.int .i64 aR,.int .i64 aQ]]=>some (.int .i64 (y1b aH aP aR aQ),Ux aH aP aR aQ)
 | _=>none
theorem j6t {S:Specs} (hS:Zu prog S):Zu prog (S.with u9e fAlg):=by
 refine Qi hS (by kernel_rfl) fun args v h=> ?_;unfold fAlg at h;split at h
 ·rename_i aH aP aR aQ;simp only [Ab,Aa,Ad] at h;obtain ⟨rfl,hw⟩:=h;obtain ⟨N,hN⟩:=j7t aH aP aR aQ hw;exact ⟨_,_,(.cons (.refl _) (.cons (.refl _) .nil)),rfl,u4u aH aP aR aQ N _ hN,3,rfl⟩
 ·cases h
def fFlt :List AVal→Option (AVal×Bool)
 | [.agg [.int .i64 aH],.agg [.int .i64 aP,.int .i64 aR,.int .i64 aQ]]=>some (.tup [.int .i64 (z2u aH aP aR aQ),.int .i64 (z2t aH aP aR aQ)],z2s aH aP aR aQ)
 | _=>none
theorem j6l {S:Specs} (hS:Zu prog S):Zu prog (S.with nFlat fFlt):=by
 refine Qi hS (by kernel_rfl) fun args v h=> ?_;unfold fFlt at h;split at h
 ·rename_i aH aP aR aQ;simp only [Ab,Aa,Ad] at h;obtain ⟨rfl,hw⟩:=h;obtain ⟨N,hN⟩:=j4z aH aP aR aQ hw;exact ⟨_,_,(.cons (.refl _) (.cons (.refl _) .nil)),rfl,u3n aH aP aR aQ N _ hN,3,rfl⟩
 ·cases h
def fBck :List AVal→Option (AVal×Bool)
 | [.agg [.int .i64 a],.int .i64 p,.int .i64 x,.int .i64 y]=>some (.agg [.int .i64 (z2v a p x y).a,.int .i64 (z2v a p x y).b,.int .i64 (z2v a p x y).c],Kg a p x y)
 | _=>none
theorem j6s {S:Specs} (hS:Zu prog S):Zu prog (S.with nBack fBck):=by
 refine Qi hS (by kernel_rfl) fun args v h=> ?_;unfold fBck at h;split at h
 ·rename_i a p x y;simp only [Ab,Aa] at h;obtain ⟨rfl,hw⟩:=h;obtain ⟨N,hN⟩:=j7r a p x y hw;exact ⟨_,_,(.cons (.refl _) (.cons (.refl _) (.cons (.refl _) (.cons (.refl _) .nil)))),rfl,u4q a p x y N _ hN,3,rfl⟩
 ·cases h
def j4t (a b c d e f a2 b2 c2 d2 e2 f2:Int):Bool:=decide (a≥a2)&&(decide (b≥b2)&&(decide (c≥c2)&&(decide (d≤d2)&&(decide (e≤e2)&&decide (f≤f2)))))
theorem j4r (a b c d e f a2 b2 c2 d2 e2 f2:Int): ∃N,Yx (w0z a b c d e f a2 b2 c2 d2 e2 f2) N (y4d a b c d e f a2 b2 c2 d2 e2 f2)=.ret [.bool (j4t a b c d e f a2 b2 c2 d2 e2 f2)]:=⟨0,by
 unfold y4d j4t;cases decide (a≥a2) <;> cases decide (b≥b2) <;> cases decide (c≥c2) <;> cases decide (d≤d2) <;> cases decide (e≤e2) <;> cases decide (f≤f2) <;> rfl⟩
def j4b (a b c d e f a2 b2 c2 d2 e2 f2:Int):Bool:=decide (a<d2)&&(decide (a2<d)&&(decide (b<e2)&&(decide (b2<e)&&(decide (c<f2)&&decide (c2<f)))))
theorem j4a (a b c d e f a2 b2 c2 d2 e2 f2:Int): ∃N,Yx (w0c a b c d e f a2 b2 c2 d2 e2 f2) N (y3v a b c d e f a2 b2 c2 d2 e2 f2)=.ret [.bool (j4b a b c d e f a2 b2 c2 d2 e2 f2)]:=⟨0,by
 unfold y3v j4b;cases decide (a<d2) <;> cases decide (a2<d) <;> cases decide (b<e2) <;> cases decide (b2<e) <;> cases decide (c<f2) <;> cases decide (c2<f) <;> rfl⟩
def fIns :List AVal→Option (AVal×Bool)
 | [.agg [.int .i64 aH,.int .i64 aO,.int .i64 aN,.int .i64 aT,.int .i64 aV,.int .i64 aU],.agg [.int .i64 aP,.int .i64 aR,.int .i64 aQ,.int .i64 bR,.int .i64 bS,.int .i64 bQ]]=>some (.bool (j4t aH aO aN aT aV aU aP aR aQ bR bS bQ),true)
 | _=>none
theorem j6i {S:Specs} (hS:Zu prog S):Zu prog (S.with w4l fIns):=by
 refine Qi hS (by kernel_rfl) fun args v h=> ?_;unfold fIns at h;split at h
 ·rename_i aH aO aN aT aV aU aP aR aQ bR bS bQ;simp only [Ab,Aa,Bd] at h;subst h;obtain ⟨N,hN⟩:=j4r aH aO aN aT aV aU aP aR aQ bR bS bQ;exact ⟨_,_,(.cons (.refl _) (.cons (.refl _) .nil)),rfl,u3i aH aO aN aT aV aU aP aR aQ bR bS bQ N _ hN,3,rfl⟩
 ·cases h
def fMee :List AVal→Option (AVal×Bool)
 | [.agg [.int .i64 aH,.int .i64 aO,.int .i64 aN,.int .i64 aT,.int .i64 aV,.int .i64 aU],.agg [.int .i64 aP,.int .i64 aR,.int .i64 aQ,.int .i64 bR,.int .i64 bS,.int .i64 bQ]]=>some (.bool (j4b aH aO aN aT aV aU aP aR aQ bR bS bQ),true)
 | _=>none
theorem j6d {S:Specs} (hS:Zu prog S):Zu prog (S.with u8v fMee):=by
 refine Qi hS (by kernel_rfl) fun args v h=> ?_;unfold fMee at h;split at h
 ·rename_i aH aO aN aT aV aU aP aR aQ bR bS bQ;simp only [Ab,Aa,Bd] at h;subst h;obtain ⟨N,hN⟩:=j4a aH aO aN aT aV aU aP aR aQ bR bS bQ;exact ⟨_,_,(.cons (.refl _) (.cons (.refl _) .nil)),rfl,u2l aH aO aN aT aV aU aP aR aQ bR bS bQ N _ hN,3,rfl⟩
 ·cases h
def Vb :Specs:=(((((Va.with u9e fAlg).with nFlat fFlt).with nBack fBck).with w4l fIns).with u8v fMee)
theorem Kc :Zu prog Vb:=(j6d (j6i (j6s (j6l (j6t Ys)))))
abbrev v5f :Nat:=27
abbrev u9c :Nat:=28
abbrev v5h :Nat:=31
abbrev v5i :Nat:=24
abbrev nFit4 :Nat:=25
def j5d (x y z:Int):Bool:=decide (z0o (z0o x y) z≥(-1000000))&&decide (Qh (Qh x y) z≤1000000)
theorem j5c (x y z:Int): ∃N,Yx (w1l x y z) N (y4i x y z)=.ret [.bool (j5d x y z)]:=⟨0,by
 unfold y4i j5d;cases decide (z0o (z0o x y) z≥(-1000000)) <;> rfl⟩
def fFin :List AVal→Option (AVal×Bool)
 | [.agg [.int .i64 aH,.int .i64 aO,.int .i64 aN]]=>some (.bool (j5d aH aO aN),true)
 | _=>none
theorem j6n {S:Specs} (hS:Zu prog S):Zu prog (S.with u8x fFin):=by
 refine Qi hS (by kernel_rfl) fun args v h=> ?_;unfold fFin at h;split at h
 ·rename_i aH aO aN;simp only [Ab,Aa,Bd] at h;subst h;obtain ⟨N,hN⟩:=j5c aH aO aN;exact ⟨_,_,(.cons (.refl _) .nil),rfl,u3s aH aO aN N _ hN,3,rfl⟩
 ·cases h
def marV (a b c d e f g:Int):Int:=wrap .i64 (if a<2 then wrap .i64 (f - c)*wrap .i64 (g - d) else if a<4 then wrap .i64 (e - b)*wrap .i64 (g - d) else wrap .i64 (e - b)*wrap .i64 (f - c))
def z2n (a b c d e f g:Int):Bool:=decide (0≤a)&&decide (a≤5)
theorem j4e (a b c d e f g:Int) (h:z2n a b c d e f g=true): ∃N,Yx (w0f a b c d e f g) N (y3x a b c d e f g)=.ret [.int .i64 (marV a b c d e f g)]:=⟨0,by
 simp only [z2n,Ad,Ar] at h;unfold y3x marV;have:a=0∨a=1∨a=2∨a=3∨a=4∨a=5:=by omega
 rcases this with rfl | rfl | rfl | rfl | rfl | rfl <;> rfl⟩
def fMar :List AVal→Option (AVal×Bool)
 | [.agg [.int .u8 a,.int .i64 b,.int .i64 c,.int .i64 d,.int .i64 e,.int .i64 f,.int .i64 g]]=>some (.int .i64 (marV a b c d e f g),z2n a b c d e f g)
 | _=>none
theorem j6f {S:Specs} (hS:Zu prog S):Zu prog (S.with u8w fMar):=by
 refine Qi hS (by kernel_rfl) fun args v h=> ?_;unfold fMar at h;split at h
 ·rename_i a b c d e f g;simp only [Ab,Aa] at h;obtain ⟨rfl,hw⟩:=h;obtain ⟨N,hN⟩:=j4e a b c d e f g hw;exact ⟨_,_,(.cons (.refl _) .nil),rfl,u2r a b c d e f g N _ hN,3,rfl⟩
 ·cases h
def z3w (L:List R6):Int:=bif Zr L != 0 then 0 else wrap .i64 (sm L bxV)
def z4i (L:List R6):Int:=Zr L
def z7m (L:List R6):Bool:=true
theorem u5g (L:List R6) (hl:L.length≤400): ∀(k i:Nat) (S:Int),i+k=L.length→ ∃N,Yx (z9t L) N (.to (.h0 (wrap .i64 S) (i:Int)))=.ret [.int .i64 (wrap .i64 (S+sm (L.drop i) bxV)),.int .i64 0]
 | 0,i,S,h=>by
  refine ⟨1,?_⟩
  grind [Zw,u5v,z9t,Zp]
 | k+1,i,S,h=>by
  have hi:i<L.length:=by omega
  obtain ⟨N,hN⟩:=u5g L hl k (i+1) (S+bxV (rd L i)) (by omega);refine ⟨N+1,?_⟩;have w:wrap .i64 (wrap .i64 S+wrap .i64 (wrap .i64 (wrap .i64 ((rd L i).d - (rd L i).a)*wrap .i64 ((rd L i).e - (rd L i).b))*wrap .i64 ((rd L i).f - (rd L i).c)))=wrap .i64 (S+bxV (rd L i)):=
   Cg.eq ((Cg.wrap S).add (Cg.w ((Cg.w ((Cg.wrap _).mul (Cg.wrap _))).mul (Cg.wrap _))))
  grind [Zk,Zw,Yq,v2d,z9t,Zj]
theorem j0t (L:List R6) (h:z7m L=true): ∃N,Yx (z9t L) N (y2u L)=.ret [.int .i64 (z3w L),.int .i64 (z4i L)]:=by
 unfold y2u z3w z4i;simp only [Zd,show Vg L=true from rfl,Ae];rcases Yk (Zr L != 0) with q1 | q1
 ·exact ⟨0,by simp only [q1,Ae];rfl⟩
 ·obtain ⟨N,hN⟩:=u5g L (z5f q1) L.length 0 0 (Af _);refine ⟨N,?_⟩;simp only [q1,Ac];rw [show Zr L=0 by grind];rw [AT,BM] at hN;exact hN
def fSvo :List AVal→Option (AVal×Bool)
 | [a0]=>match asL R6 a0 with
  | some (L0,g0,n0)=>some (.tup [.int .i64 (z3w L0),.int .i64 (z4i L0)],isT R6 n0 g0&&(z7m L0))
  | _=>none
 | _=>none
theorem j5k {S:Specs} (hS:Zu prog S):Zu prog (S.with u8r fSvo):=by
 refine Qi hS (by kernel_rfl) fun args v h=> ?_;unfold fSvo at h;split at h
 ·rename_i a0;split at h
  ·rename_i L0 g0 n0 e0;simp only [Ab,Aa,Ad] at h;obtain ⟨rfl,ho0,hw⟩:=h;obtain ⟨N,hN⟩:=j0t L0 hw;exact ⟨_,_,(.cons (Yi e0 ho0) .nil),rfl,v8z L0 N _ hN,3,rfl⟩
  ·cases h
 ·cases h
def x2l (a b c x y z:Int):R3:=⟨wrap .i64 (a+x),wrap .i64 (b+y),wrap .i64 (c+z)⟩
theorem j3u (a b c x y z:Int): ∃N,Yx (x9t a b c x y z) N (x2k a b c x y z)=.ret [.agg [.int .i64 (x2l a b c x y z).a,.int .i64 (x2l a b c x y z).b,.int .i64 (x2l a b c x y z).c]]:=⟨0,rfl⟩
def fPlu :List AVal→Option (AVal×Bool)
 | [.agg [.int .i64 a,.int .i64 b,.int .i64 c],.agg [.int .i64 x,.int .i64 y,.int .i64 z]]=>some (.agg [.int .i64 (x2l a b c x y z).a,.int .i64 (x2l a b c x y z).b,.int .i64 (x2l a b c x y z).c],true)
 | _=>none
theorem j6b {S:Specs} (hS:Zu prog S):Zu prog (S.with v5f fPlu):=by
 refine Qi hS (by kernel_rfl) fun args v h=> ?_;unfold fPlu at h;split at h
 ·rename_i a b c x y z;simp only [Ab,Aa,Bd] at h;subst h;obtain ⟨N,hN⟩:=j3u a b c x y z;exact ⟨_,_,(.cons (.refl _) (.cons (.refl _) .nil)),rfl,u2a a b c x y z N _ hN,3,rfl⟩
 ·cases h
def sgn2 (d:Int):Int:=bif Int.tmod d 2 == 1 then -1 else 1
def z1b (d:Int):R3:=bif decide (d<2) then ⟨sgn2 d,0,0⟩ else bif decide (d<4) then ⟨0,sgn2 d,0⟩ else ⟨0,0,sgn2 d⟩
theorem j7c (d:Int): ∃N,Yx (w1v d) N (y4l d)=.ret [.agg [.int .i64 (z1b d).a,.int .i64 (z1b d).b,.int .i64 (z1b d).c]]:=⟨0,by
 unfold y4l z1b sgn2;cases Int.tmod d 2 == 1 <;> cases decide (d<2) <;> cases decide (d<4) <;> rfl⟩
def fDrc :List AVal→Option (AVal×Bool)
 | [.int .i64 d]=>some (.agg [.int .i64 (z1b d).a,.int .i64 (z1b d).b,.int .i64 (z1b d).c],true)
 | _=>none
theorem j6o {S:Specs} (hS:Zu prog S):Zu prog (S.with u9c fDrc):=by
 refine Qi hS (by kernel_rfl) fun args v h=> ?_;unfold fDrc at h;split at h
 ·rename_i d;simp only [Ab,Aa,Bd] at h;subst h;obtain ⟨N,hN⟩:=j7c d;exact ⟨_,_,(.cons (.refl _) .nil),rfl,u4g d N _ hN,3,rfl⟩
 ·cases h
def W0 :Specs:=Va.with u8x fFin
theorem z3u :Zu prog W0:=j6n Ys
-- h0: index into an array (choices [true, false, false, false, false, false, false])
inductive mckS where
 | h0 (v14:Int)
def mckC (l0:List R7):mckS→Cfg
 | .h0 v14=>⟨⟨70,0,true⟩,none,(Zb prog 69 [1,1,1,0,1,0,0] 0),none,(Zy prog 9),⟨Yg [(3,(.ptr 0 0)),(12,(.dat l0.length (Zz l0))),(13,(ii (l0.length:Int))),(14,(ii v14))],Wt [⟨[(.fn 137 []),(.fn 138 []),(.fn 139 []),(.fn 140 []),(.fn 141 []),(.fn 142 []),(.fn 143 []),(.fn 144 []),(.fn 145 [])],136,none⟩] 0,1,[],true⟩,[],.leaf⟩
def u2p :List (Option (List Nat)):=[some [3,12,13,14]]
def u2q :List (Option (List Nat)):=[]
def z6v (l0:List R7):mckS→Xw mckS
 | .h0 v14=>(bif (decide (v14<(l0.length:Int))) then (bif ((decide (0≤v14∧v14<(l0.length:Int)))&&true) then (bif (decide ((rd l0 v14.toNat).a >5)) then (.ret [(.int .i64 8)]) else (bif (!(j5d (rd l0 v14.toNat).b (rd l0 v14.toNat).c (rd l0 v14.toNat).d)) then (.ret [(.int .i64 8)]) else (bif (!(j5d (rd l0 v14.toNat).e (rd l0 v14.toNat).f (rd l0 v14.toNat).g)) then (.ret [(.int .i64 8)]) else (bif (decide ((wrap IntKind.u8 (Int.tdiv (rd l0 v14.toNat).a 2))=Int.ofNat 0)) then (bif ((rd l0 v14.toNat).b != (rd l0 v14.toNat).e) then (.ret [(.int .i64 8)]) else (bif (decide ((rd l0 v14.toNat).c ≥(rd l0 v14.toNat).f)) then (.ret [(.int .i64 8)]) else (bif (decide ((rd l0 v14.toNat).d ≥(rd l0 v14.toNat).g)) then (.ret [(.int .i64 8)]) else (.to (.h0 (wrap .i64 (v14+1))))))) else (bif (decide ((wrap IntKind.u8 (Int.tdiv (rd l0 v14.toNat).a 2))=Int.ofNat 1)) then (bif ((rd l0 v14.toNat).c != (rd l0 v14.toNat).f) then (.ret [(.int .i64 8)]) else (bif (decide ((rd l0 v14.toNat).b ≥(rd l0 v14.toNat).e)) then (.ret [(.int .i64 8)]) else (bif (decide ((rd l0 v14.toNat).d ≥(rd l0 v14.toNat).g)) then (.ret [(.int .i64 8)]) else (.to (.h0 (wrap .i64 (v14+1))))))) else (bif (decide ((wrap IntKind.u8 (Int.tdiv (rd l0 v14.toNat).a 2))=Int.ofNat 2)) then (bif ((rd l0 v14.toNat).d != (rd l0 v14.toNat).g) then (.ret [(.int .i64 8)]) else (bif (decide ((rd l0 v14.toNat).b ≥(rd l0 v14.toNat).e)) then (.ret [(.int .i64 8)]) else (bif (decide ((rd l0 v14.toNat).c ≥(rd l0 v14.toNat).f)) then (.ret [(.int .i64 8)]) else (.to (.h0 (wrap .i64 (v14+1))))))) else .stuck)))))) else .stuck) else (.ret [(.int .i64 0)]))
def y3w (l0:List R7):Xw mckS:=(bif (decide ((l0.length:Int)>3000)) then (.ret [(.int .i64 4)]) else (.to (.h0 0)))
theorem w8k (l0:List R7): ∀s,Xu prog (Zy prog 69) (mckC l0) (mckC l0 s) (z6v l0 s)
 | .h0 v14=>(lb (fun k0=>(lo fun aE=>(lb (fun k1=>(lr 70 69 [1,1,1,0,1,0,0,1,1,0,0,1,0,1,0,0] 1 9 [(2,(ii 8))] (sl z3u 40 [] ⟨[],[],[some [2]],[]⟩ ⟨[],[],[]⟩ (trs 10 []) (tt k1 (ww aE (tt k0 nn)))))) (fun k1=>(lb (fun k2=>(lr 70 69 [1,1,1,0,1,0,0,1,1,0,0,1,0,1,0,0] 1 9 [(2,(ii 8))] (sl z3u 40 [] ⟨[],[],[some [2]],[]⟩ ⟨[],[],[]⟩ (bl 10 993) (tt k2 (tt k1 (ww aE (tt k0 nn))))))) (fun k2=>(lb (fun k3=>(lr 70 69 [1,1,1,0,1,0,0,1,1,0,0,1,0,1,0,0] 1 9 [(2,(ii 8))] (sl z3u 40 [] ⟨[],[],[some [2]],[]⟩ ⟨[],[],[]⟩ (bl 10 513) (tt k3 (tt k2 (tt k1 (ww aE (tt k0 nn)))))))) (fun k3=>(lb (fun k4=>(lb (fun k5=>(lr 70 69 [1,1,1,0,1,0,0,1,1,0,0,1,1,1,1,1,0,0] 1 9 [(2,(ii 8))] (sl z3u 124 [] ⟨[],[],[some [2]],[]⟩ ⟨[],[],[]⟩ (bl 22 4192257) (tt k5 (ww k4 (tt k3 (tt k2 (tt k1 (ww aE (tt k0 nn)))))))))) (fun k5=>(lb (fun k6=>(lr 70 69 [1,1,1,0,1,0,0,1,1,0,0,1,1,1,1,1,0,0] 1 9 [(2,(ii 8))] (sl z3u 124 [] ⟨[],[],[some [2]],[]⟩ ⟨[],[],[]⟩ (bl 22 4128769) (tt k6 (tt k5 (ww k4 (tt k3 (tt k2 (tt k1 (ww aE (tt k0 nn))))))))))) (fun k6=>(lb (fun k7=>(lr 70 69 [1,1,1,0,1,0,0,1,1,0,0,1,1,1,1,1,0,0] 1 9 [(2,(ii 8))] (sl z3u 124 [] ⟨[],[],[some [2]],[]⟩ ⟨[],[],[]⟩ (bl 22 2097153) (tt k7 (tt k6 (tt k5 (ww k4 (tt k3 (tt k2 (tt k1 (ww aE (tt k0 nn)))))))))))) (fun k7=>(sl z3u 127 [] ⟨[0],[],u2p,u2q⟩ ⟨[],[],[]⟩ (bl 22 1) (tt k7 (tt k6 (tt k5 (ww k4 (tt k3 (tt k2 (tt k1 (ww aE (tt k0 nn))))))))))))))))) (fun k4=>(lb (fun k5=>(lb (fun k6=>(lr 70 69 [1,1,1,0,1,0,0,1,1,0,0,1,1,1,1,1,0,0] 1 9 [(2,(ii 8))] (sl z3u 124 [] ⟨[],[],[some [2]],[]⟩ ⟨[],[],[]⟩ (bl 23 8385537) (tt k6 (ww k5 (tt k3 (tt k2 (tt k1 (ww aE (tt k0 nn)))))))))) (fun k6=>(lb (fun k7=>(lr 70 69 [1,1,1,0,1,0,0,1,1,0,0,1,1,1,1,1,0,0] 1 9 [(2,(ii 8))] (sl z3u 124 [] ⟨[],[],[some [2]],[]⟩ ⟨[],[],[]⟩ (bl 23 8258561) (tt k7 (tt k6 (ww k5 (tt k3 (tt k2 (tt k1 (ww aE (tt k0 nn))))))))))) (fun k7=>(lb (fun k8=>(lr 70 69 [1,1,1,0,1,0,0,1,1,0,0,1,1,1,1,1,0,0] 1 9 [(2,(ii 8))] (sl z3u 124 [] ⟨[],[],[some [2]],[]⟩ ⟨[],[],[]⟩ (bl 23 4195329) (tt k8 (tt k7 (tt k6 (ww k5 (tt k3 (tt k2 (tt k1 (ww aE (tt k0 nn)))))))))))) (fun k8=>(sl z3u 127 [] ⟨[0],[],u2p,u2q⟩ ⟨[],[],[]⟩ (bl 23 1025) (tt k8 (tt k7 (tt k6 (ww k5 (tt k3 (tt k2 (tt k1 (ww aE (tt k0 nn))))))))))))))))) (fun k5=>(lb (fun k6=>(lb (fun k7=>(lr 70 69 [1,1,1,0,1,0,0,1,1,0,0,1,1,1,1,1,0,0] 1 9 [(2,(ii 8))] (sl z3u 124 [] ⟨[],[],[some [2]],[]⟩ ⟨[],[],[]⟩ (bl 24 16772097) (tt k7 (ww k6 (tt k3 (tt k2 (tt k1 (ww aE (tt k0 nn)))))))))) (fun k7=>(lb (fun k8=>(lr 70 69 [1,1,1,0,1,0,0,1,1,0,0,1,1,1,1,1,0,0] 1 9 [(2,(ii 8))] (sl z3u 124 [] ⟨[],[],[some [2]],[]⟩ ⟨[],[],[]⟩ (bl 24 16518145) (tt k8 (tt k7 (ww k6 (tt k3 (tt k2 (tt k1 (ww aE (tt k0 nn))))))))))) (fun k8=>(lb (fun k9=>(lr 70 69 [1,1,1,0,1,0,0,1,1,0,0,1,1,1,1,1,0,0] 1 9 [(2,(ii 8))] (sl z3u 124 [] ⟨[],[],[some [2]],[]⟩ ⟨[],[],[]⟩ (bl 24 8391681) (tt k9 (tt k8 (tt k7 (ww k6 (tt k3 (tt k2 (tt k1 (ww aE (tt k0 nn)))))))))))) (fun k9=>(sl z3u 127 [] ⟨[0],[],u2p,u2q⟩ ⟨[],[],[]⟩ (bl 24 3073) (tt k9 (tt k8 (tt k7 (ww k6 (tt k3 (tt k2 (tt k1 (ww aE (tt k0 nn))))))))))))))))) (fun k6=>trivial)))))))))))))) (fun k0=>(lr 70 3 [1,1,1,1,0] 1 9 [(2,(ii 0))] (sl z3u 11 [] ⟨[],[],[some [2]],[]⟩ ⟨[],[],[]⟩ [false] (tt k0 nn)))))
theorem w0e (l0:List R7):Xu prog (Zy prog 69) (mckC l0) (Za prog 69 [(.dat l0.length (Zz l0))] true []) (y3w l0):=(lb (fun k0=>(lr 70 69 [1,0,1,0,0] 1 9 [(2,(ii 4))] (sl z3u 16 [] ⟨[],[],[some [2]],[]⟩ ⟨[],[],[]⟩ [true] (tt k0 nn)))) (fun k0=>(sl z3u 41 [] ⟨[1],[],u2p,u2q⟩ ⟨[],[],[]⟩ [false] (tt k0 nn))))
theorem u2o (l0:List R7) (n:Nat) (vs:List AVal) (h:Yx (z6v l0) n (y3w l0)=.ret vs):Ur prog (Zy prog 69) (Za prog 69 [(.dat l0.length (Zz l0))] true []) vs:=by have:=Zc (w8k l0) n _ (w0e l0);rwa [h] at this
def v8m (r:R7):Bool:=decide (r.a≤5)&&(j5d r.b r.c r.d&&(j5d r.e r.f r.g&&
 (bif decide (r.a<2) then (r.b == r.e)&&(decide (r.c<r.f)&&decide (r.d<r.g)) else bif decide (r.a<4) then (r.c == r.f)&&(decide (r.b<r.e)&&decide (r.d<r.g)) else (r.d == r.g)&&(decide (r.b<r.e)&&decide (r.c<r.f)))))
def w8l (L:List R7):Int:=bif decide (3000<L.length) then 4 else bif L.all v8m then 0 else 8
def z0u (L:List R7):Bool:=L.all fun r=>decide (0≤r.a)&&decide (r.a<256)
theorem j0k {a:Int} (h0:0≤a) (h5:a≤5):wrap IntKind.u8 (Int.tdiv a 2)=(if a<2 then 0 else if a<4 then 1 else 2):=by
 have:a=0∨a=1∨a=2∨a=3∨a=4∨a=5:=by omega
 rcases this with rfl | rfl | rfl | rfl | rfl | rfl <;> rfl
theorem u9f (L:List R7) (hl:L.length≤3000) (ho:z0u L=true): ∀(k i:Nat),i+k=L.length→ ∃N,Yx (z6v L) N (.to (.h0 (i:Int)))=.ret [.int .i64 (bif (L.drop i).all v8m then 0 else 8)]
 | 0,i,h=>by refine ⟨1,?_⟩;rw [Zw,As (by omega)];simp (disch:=omega) only [z6v,Yf,Ac];rfl
 | k+1,i,h=>by
  have hi:i<L.length:=by omega
  obtain ⟨N,hN⟩:=u9f L hl ho k (i+1) (by omega);have hb:0≤(rd L i).a ∧(rd L i).a <256:=by
   have:=At.1 ho (rd L i) (by grind [Yo])
   grind
  refine ⟨N+1,?_⟩;rw [Zw,Yq hi,List.all_cons];have e:z6v L (.h0 (i:Int))=bif v8m (rd L i) then .to (.h0 ((i+1:Nat):Int)) else .ret [.int .i64 8]:=by
   have hw:wrap .i64 ((i:Int)+1)=((i+1:Nat):Int):=Zk (by omega);simp (disch:=omega) only [z6v,Zs,Zt,hw,Zj,Ah,Ae];unfold v8m;by_cases h5:(rd L i).a ≤5;all_goals grind [j0k]
  rw [e];rcases Yk (v8m (rd L i)) with q | q;all_goals grind [Zp]
theorem j4c (L:List R7) (h:z0u L=true): ∃N,Yx (z6v L) N (y3w L)=.ret [.int .i64 (w8l L)]:=by
 unfold y3w w8l;by_cases g:3000<L.length
 ·refine ⟨0,?_⟩;rw [Xy (by omega),An g];rfl
 ·obtain ⟨N,hN⟩:=u9f L (by omega) h L.length 0 (Af _)
  grind
def fMck :List AVal→Option (AVal×Bool)
 | [a0]=>match asL R7 a0 with
  | some (L0,g0,n0)=>some (.int .i64 (w8l L0),isT R7 n0 g0&&(z0u L0))
  | _=>none
 | _=>none
theorem j6e {S:Specs} (hS:Zu prog S):Zu prog (S.with v5g fMck):=by
 refine Qi hS (by kernel_rfl) fun args v h=> ?_;unfold fMck at h;split at h
 ·rename_i a0;split at h
  ·rename_i L0 g0 n0 e0;simp only [Ab,Aa,Ad] at h;obtain ⟨rfl,ho0,hw⟩:=h;obtain ⟨N,hN⟩:=j4c L0 hw;exact ⟨_,_,(.cons (Yi e0 ho0) .nil),rfl,u2o L0 N _ hN,3,rfl⟩
  ·cases h
 ·cases h
theorem u2n {l:List R7} (h:w8l l=0):l.length≤3000∧ ∀r∈l,v8m r=true:=by
 grind [w8l]
theorem val7_a {r:R7} (h:v8m r=true):r.a≤5:=by
 grind [v8m]
def W1 :Specs:=(W0.with v5g fMck).with u8w fMar
theorem u4x :Zu prog W1:=j6f (j6e z3u)
inductive mArS where
 | h0 (v5:Int) (v15:Int)
def mArC (l0:List R7):mArS→Cfg
 | .h0 v5 v15=>⟨⟨25,0,true⟩,none,(Zb prog 36 [1,1,1,0,1,0,0] 0),none,(Zy prog 14),⟨Yg [(5,(ii v5)),(13,(.dat l0.length (Zz l0))),(14,(ii (l0.length:Int))),(15,(ii v15))],Wt [] 0,0,[],true⟩,[],.leaf⟩
def mArN0 :List (Option (List Nat)):=[some [5,13,14,15]]
def mArM0 :List (Option (List Nat)):=[]
def y0n (l0:List R7):mArS→Xw mArS
 | .h0 v5 v15=>(bif (decide (v15<(l0.length:Int))) then (bif ((decide (0≤v15∧v15<(l0.length:Int)))&&true) then (bif (z2n (rd l0 v15.toNat).a (rd l0 v15.toNat).b (rd l0 v15.toNat).c (rd l0 v15.toNat).d (rd l0 v15.toNat).e (rd l0 v15.toNat).f (rd l0 v15.toNat).g) then (.to (.h0 (wrap .i64 (v5+(marV (rd l0 v15.toNat).a (rd l0 v15.toNat).b (rd l0 v15.toNat).c (rd l0 v15.toNat).d (rd l0 v15.toNat).e (rd l0 v15.toNat).f (rd l0 v15.toNat).g))) (wrap .i64 (v15+1)))) else .stuck) else .stuck) else (.ret [(.int .i64 v5),(.int .i64 0)]))
def y3y (l0:List R7):Xw mArS:=(bif (z0u (cvT l0)) then (bif ((w8l (cvT l0)) != 0) then (.ret [(.int .i64 0),(.int .i64 (w8l (cvT l0)))]) else (.to (.h0 0 0))) else .stuck)
theorem w8o (l0:List R7): ∀s,Xu prog (Zy prog 36) (mArC l0) (mArC l0 s) (y0n l0 s)
 | .h0 v5 v15=>(lb (fun k0=>(lo fun o0=>(lo fun o1=>(sl u4x 29 [] ⟨[],[],mArN0,mArM0⟩ ⟨[],[],[]⟩ [true] (ww o1 (ww o0 (tt k0 nn))))))) (fun k0=>(lr 25 3 [1,1,1,1,0] 1 14 [(2,(ii v5)),(3,(ii 0))] (sl u4x 13 [] ⟨[],[],[some [2,3]],[]⟩ ⟨[],[],[]⟩ [false] (tt k0 nn)))))
theorem w0j (l0:List R7):Xu prog (Zy prog 36) (mArC l0) (Za prog 36 [(.dat l0.length (Zz l0))] true []) (y3y l0):=(lo fun bN=>(lb (fun k0=>(lr 25 36 [1,0,1,1,0,0] 1 14 [(2,(ii 0)),(3,(ii (w8l (cvT l0))))] (sl u4x 24 [] ⟨[],[],[some [2,3]],[]⟩ ⟨[],[],[]⟩ [true] (tt k0 (pp (pp (xr l0) (xw bN)) nn))))) (fun k0=>(sl u4x 32 [] ⟨[],[],mArN0,mArM0⟩ ⟨[],[],[]⟩ [false] (tt k0 (pp (pp (xr l0) (xw bN)) nn))))))
theorem u2x (l0:List R7) (n:Nat) (vs:List AVal) (h:Yx (y0n l0) n (y3y l0)=.ret vs):Ur prog (Zy prog 36) (Za prog 36 [(.dat l0.length (Zz l0))] true []) vs:=by have:=Zc (w8o l0) n _ (w0j l0);rwa [h] at this
inductive rinS where
def rinC (aH:Int) (aO:Int) (aN:Int) (x1:Int):rinS→Cfg
 :=nofun
def x8u (aH:Int) (aO:Int) (aN:Int) (x1:Int):rinS→Xw rinS
 :=nofun
def y3q (aH:Int) (aO:Int) (aN:Int) (x1:Int):Xw rinS:=(bif (decide (aH≥x1)) then (bif (decide (aO≥x1)) then (bif (decide (aN≥x1)) then (bif (decide (aH≤1000000)) then (bif (decide (aO≤1000000)) then (.ret [(.bool (decide (aN≤1000000)))]) else (.ret [(.bool false)])) else (.ret [(.bool false)])) else (.ret [(.bool false)])) else (.ret [(.bool false)])) else (.ret [(.bool false)]))
theorem w7q (aH:Int) (aO:Int) (aN:Int) (x1:Int): ∀s,Xu prog (Zy prog 26) (rinC aH aO aN x1) (rinC aH aO aN x1 s) (x8u aH aO aN x1 s)
 :=nofun
theorem x8v (aH:Int) (aO:Int) (aN:Int) (x1:Int):Xu prog (Zy prog 26) (rinC aH aO aN x1) (Za prog 26 [(.agg [(.int .i64 aH),(.int .i64 aO),(.int .i64 aN)]),(.int .i64 x1)] true []) (y3q aH aO aN x1):=(lb (fun k0=>(lb (fun k1=>(lb (fun k2=>(lb (fun k3=>(lb (fun k4=>(lr 36 3 [1,1,1,1,0] 1 6 [(4,(.bool (decide (aN≤1000000))))] (sl Ys 40 [] ⟨[],[],[some [4]],[]⟩ ⟨[],[],[]⟩ (trs 17 []) (tt k4 (tt k3 (tt k2 (tt k1 (tt k0 nn)))))))) (fun k4=>(lr 36 3 [1,1,1,1,0] 1 6 [(4,(.bool false))] (sl Ys 40 [] ⟨[],[],[some [4]],[]⟩ ⟨[],[],[]⟩ (trs 14 [false,false,false]) (tt k4 (tt k3 (tt k2 (tt k1 (tt k0 nn)))))))))) (fun k3=>(lr 36 3 [1,1,1,1,0] 1 6 [(4,(.bool false))] (sl Ys 40 [] ⟨[],[],[some [4]],[]⟩ ⟨[],[],[]⟩ (trs 11 [false,false,false,false,false,false]) (tt k3 (tt k2 (tt k1 (tt k0 nn))))))))) (fun k2=>(lr 36 3 [1,1,1,1,0] 1 6 [(4,(.bool false))] (sl Ys 40 [] ⟨[],[],[some [4]],[]⟩ ⟨[],[],[]⟩ (trs 8 [false,false,false,false,false,false,false,false,false]) (tt k2 (tt k1 (tt k0 nn)))))))) (fun k1=>(lr 36 3 [1,1,1,1,0] 1 6 [(4,(.bool false))] (sl Ys 40 [] ⟨[],[],[some [4]],[]⟩ ⟨[],[],[]⟩ (trs 4 [false,false,false,false,false,false,false,false,false,false,false,false,false]) (tt k1 (tt k0 nn))))))) (fun k0=>(lr 36 3 [1,1,1,1,0] 1 6 [(4,(.bool false))] (sl Ys 40 [] ⟨[],[],[some [4]],[]⟩ ⟨[],[],[]⟩ [false,false,false,false,false,false,false,false,false,false,false,false,false,false,false,false,false] (tt k0 nn)))))
theorem u0v (aH:Int) (aO:Int) (aN:Int) (x1:Int) (n:Nat) (vs:List AVal) (h:Yx (x8u aH aO aN x1) n (y3q aH aO aN x1)=.ret vs):Ur prog (Zy prog 26) (Za prog 26 [(.agg [(.int .i64 aH),(.int .i64 aO),(.int .i64 aN)]),(.int .i64 x1)] true []) vs:=by have:=Zc (w7q aH aO aN x1) n _ (x8v aH aO aN x1);rwa [h] at this
inductive crdS where
def crdC (aH:Int) (aO:Int) (aN:Int) (x1:Int):crdS→Cfg
 :=nofun
def w2a (aH:Int) (aO:Int) (aN:Int) (x1:Int):crdS→Xw crdS
 :=nofun
def y4m (aH:Int) (aO:Int) (aN:Int) (x1:Int):Xw crdS:=(bif (x1 == 0) then (.ret [(.int .i64 aH)]) else (bif (x1 == 1) then (.ret [(.int .i64 aO)]) else (.ret [(.int .i64 aN)])))
theorem w9x (aH:Int) (aO:Int) (aN:Int) (x1:Int): ∀s,Xu prog (Zy prog 64) (crdC aH aO aN x1) (crdC aH aO aN x1 s) (w2a aH aO aN x1 s)
 :=nofun
theorem w2b (aH:Int) (aO:Int) (aN:Int) (x1:Int):Xu prog (Zy prog 64) (crdC aH aO aN x1) (Za prog 64 [(.agg [(.int .i64 aH),(.int .i64 aO),(.int .i64 aN)]),(.int .i64 x1)] true []) (y4m aH aO aN x1):=(lb (fun k0=>(lr 15 64 [1,0,1,0,0] 1 6 [(4,(ii aH))] (sl Ys 18 [] ⟨[],[],[some [4]],[]⟩ ⟨[],[],[]⟩ [true] (tt k0 nn)))) (fun k0=>(lb (fun k1=>(lr 15 64 [1,1,0,1,0,0] 1 6 [(4,(ii aO))] (sl Ys 26 [] ⟨[],[],[some [4]],[]⟩ ⟨[],[],[]⟩ [false,true] (tt k1 (tt k0 nn))))) (fun k1=>(lr 15 3 [1,1,1,1,0] 1 6 [(4,(ii aN))] (sl Ys 27 [] ⟨[],[],[some [4]],[]⟩ ⟨[],[],[]⟩ [false,false] (tt k1 (tt k0 nn))))))))
theorem u4k (aH:Int) (aO:Int) (aN:Int) (x1:Int) (n:Nat) (vs:List AVal) (h:Yx (w2a aH aO aN x1) n (y4m aH aO aN x1)=.ret vs):Ur prog (Zy prog 64) (Za prog 64 [(.agg [(.int .i64 aH),(.int .i64 aO),(.int .i64 aN)]),(.int .i64 x1)] true []) vs:=by have:=Zc (w9x aH aO aN x1) n _ (w2b aH aO aN x1);rwa [h] at this
inductive rh6S where
 | h0 (v5:Int)
def rh6C (l0:List R6) (aP:Int) (aR:Int) (aQ:Int):rh6S→Cfg
 | .h0 v5=>⟨⟨18,0,true⟩,none,(Zb prog 29 [1,0,1,0,0] 0),none,(Zy prog 6),⟨Yg [(0,(.dat l0.length (Zz l0))),(3,(.ptr 0 0)),(5,(ii v5))],Wt [⟨[(ii aP),(ii aR),(ii aQ)],50,none⟩] 0,1,[],true⟩,[],.leaf⟩
def x9b :List (Option (List Nat)):=[some [0,3,5]]
def x9c :List (Option (List Nat)):=[]
def z6p (l0:List R6) (aP:Int) (aR:Int) (aQ:Int):rh6S→Xw rh6S
 | .h0 v5=>(bif (decide (v5<(l0.length:Int))) then (bif ((decide (0≤v5∧v5<(l0.length:Int)))&&true) then (bif (decide ((rd l0 v5.toNat).a ≤aP)) then (bif (decide (aP<(rd l0 v5.toNat).d)) then (bif (decide ((rd l0 v5.toNat).b ≤aR)) then (bif (decide (aR<(rd l0 v5.toNat).e)) then (bif (decide ((rd l0 v5.toNat).c ≤aQ)) then (bif (decide (aQ<(rd l0 v5.toNat).f)) then (.ret [(.bool true)]) else (.to (.h0 (wrap .i64 (v5+1))))) else (.to (.h0 (wrap .i64 (v5+1))))) else (.to (.h0 (wrap .i64 (v5+1))))) else (.to (.h0 (wrap .i64 (v5+1))))) else (.to (.h0 (wrap .i64 (v5+1))))) else (.to (.h0 (wrap .i64 (v5+1))))) else .stuck) else (.ret [(.bool false)]))
def x2b (l0:List R6) (aP:Int) (aR:Int) (aQ:Int):Xw rh6S:=(.to (.h0 0))
theorem w7s (l0:List R6) (aP:Int) (aR:Int) (aQ:Int): ∀s,Xu prog (Zy prog 29) (rh6C l0 aP aR aQ) (rh6C l0 aP aR aQ s) (z6p l0 aP aR aQ s)
 | .h0 v5=>(lb (fun k0=>(lo fun aE=>(lb (fun k1=>(lb (fun k2=>(lb (fun k3=>(lb (fun k4=>(lb (fun k5=>(lb (fun k6=>(lr 18 29 [1,0,1,0,0,1,0,0,1,0,0] 1 6 [(4,(.bool true))] (sl Ys 19 [] ⟨[],[],[some [4]],[]⟩ ⟨[],[],[]⟩ (trs 32 []) (tt k6 (tt k5 (tt k4 (tt k3 (tt k2 (tt k1 (ww aE (tt k0 nn))))))))))) (fun k6=>(sl Ys 23 [] ⟨[0],[],x9b,x9c⟩ ⟨[],[],[]⟩ (trs 31 [false]) (tt k6 (tt k5 (tt k4 (tt k3 (tt k2 (tt k1 (ww aE (tt k0 nn)))))))))))) (fun k5=>(sl Ys 23 [] ⟨[0],[],x9b,x9c⟩ ⟨[],[],[]⟩ (trs 25 (bl 7 0)) (tt k5 (tt k4 (tt k3 (tt k2 (tt k1 (ww aE (tt k0 nn))))))))))) (fun k4=>(sl Ys 23 [] ⟨[0],[],x9b,x9c⟩ ⟨[],[],[]⟩ (trs 19 (bl 13 0)) (tt k4 (tt k3 (tt k2 (tt k1 (ww aE (tt k0 nn)))))))))) (fun k3=>(sl Ys 23 [] ⟨[0],[],x9b,x9c⟩ ⟨[],[],[]⟩ (trs 13 (bl 19 0)) (tt k3 (tt k2 (tt k1 (ww aE (tt k0 nn))))))))) (fun k2=>(sl Ys 23 [] ⟨[0],[],x9b,x9c⟩ ⟨[],[],[]⟩ (trs 7 (bl 25 0)) (tt k2 (tt k1 (ww aE (tt k0 nn)))))))) (fun k1=>(sl Ys 23 [] ⟨[0],[],x9b,x9c⟩ ⟨[],[],[]⟩ (bl 32 1) (tt k1 (ww aE (tt k0 nn)))))))) (fun k0=>(lr 18 3 [1,1,1,1,0] 1 6 [(4,(.bool false))] (sl Ys 14 [] ⟨[],[],[some [4]],[]⟩ ⟨[],[],[]⟩ [false] (tt k0 nn)))))
theorem x9a (l0:List R6) (aP:Int) (aR:Int) (aQ:Int):Xu prog (Zy prog 29) (rh6C l0 aP aR aQ) (Za prog 29 [(.dat l0.length (Zz l0)),(.agg [(.int .i64 aP),(.int .i64 aR),(.int .i64 aQ)])] true []) (x2b l0 aP aR aQ):=(sl Ys 12 [] ⟨[0],[],x9b,x9c⟩ ⟨[],[],[]⟩ [] nn)
theorem u1a (l0:List R6) (aP:Int) (aR:Int) (aQ:Int) (n:Nat) (vs:List AVal) (h:Yx (z6p l0 aP aR aQ) n (x2b l0 aP aR aQ)=.ret vs):Ur prog (Zy prog 29) (Za prog 29 [(.dat l0.length (Zz l0)),(.agg [(.int .i64 aP),(.int .i64 aR),(.int .i64 aQ)])] true []) vs:=by have:=Zc (w7s l0 aP aR aQ) n _ (x9a l0 aP aR aQ);rwa [h] at this
inductive rsqS where
 | h0 (v5:Int)
def rsqC (l0:List R7) (l1:List R7):rsqS→Cfg
 | .h0 v5=>⟨⟨26,0,true⟩,none,(Zb prog 23 [1,1,0,1,0,0] 0),none,(Zy prog 6),⟨Yg [(0,(.dat l0.length (Zz l0))),(1,(.dat l1.length (Zz l1))),(5,(ii v5))],Wt [] 0,0,[],true⟩,[],.leaf⟩
def rsqN0 :List (Option (List Nat)):=[some [0,1,5]]
def rsqM0 :List (Option (List Nat)):=[]
def z6m (l0:List R7) (l1:List R7):rsqS→Xw rsqS
 | .h0 v5=>(bif (decide (v5<(l0.length:Int))) then (bif ((decide (0≤v5∧v5<(l0.length:Int)))&&true) then (bif ((decide (0≤v5∧v5<(l1.length:Int)))&&true) then (bif (!(((rd l0 v5.toNat).a == (rd l1 v5.toNat).a)&&((((rd l0 v5.toNat).b == (rd l1 v5.toNat).b)&&(((rd l0 v5.toNat).c == (rd l1 v5.toNat).c)&&(((rd l0 v5.toNat).d == (rd l1 v5.toNat).d)&&true)))&&((((rd l0 v5.toNat).e == (rd l1 v5.toNat).e)&&(((rd l0 v5.toNat).f == (rd l1 v5.toNat).f)&&(((rd l0 v5.toNat).g == (rd l1 v5.toNat).g)&&true)))&&true)))) then (.ret [(.bool false)]) else (.to (.h0 (wrap .i64 (v5+1))))) else .stuck) else .stuck) else (.ret [(.bool true)]))
def y3i (l0:List R7) (l1:List R7):Xw rsqS:=(bif ((l0.length:Int) != (l1.length:Int)) then (.ret [(.bool false)]) else (.to (.h0 0)))
theorem w7h (l0:List R7) (l1:List R7): ∀s,Xu prog (Zy prog 23) (rsqC l0 l1) (rsqC l0 l1 s) (z6m l0 l1 s)
 | .h0 v5=>(lb (fun k0=>(lo fun aE=>(lo fun bE=>(lb (fun k1=>(lr 26 23 [1,1,0,1,0,0,1,0,0,1,0,0] 1 6 [(4,(.bool false))] (sl Ys 19 [] ⟨[],[],[some [4]],[]⟩ ⟨[],[],[]⟩ (bl 2 3) (tt k1 (ww bE (ww aE (tt k0 nn))))))) (fun k1=>(sl Ys 23 [] ⟨[],[],rsqN0,rsqM0⟩ ⟨[],[],[]⟩ (bl 2 1) (tt k1 (ww bE (ww aE (tt k0 nn)))))))))) (fun k0=>(lr 26 3 [1,1,1,1,0] 1 6 [(4,(.bool true))] (sl Ys 14 [] ⟨[],[],[some [4]],[]⟩ ⟨[],[],[]⟩ [false] (tt k0 nn)))))
theorem x8l (l0:List R7) (l1:List R7):Xu prog (Zy prog 23) (rsqC l0 l1) (Za prog 23 [(.dat l0.length (Zz l0)),(.dat l1.length (Zz l1))] true []) (y3i l0 l1):=(lb (fun k0=>(lr 26 23 [1,0,1,0,0] 1 6 [(4,(.bool false))] (sl Ys 18 [] ⟨[],[],[some [4]],[]⟩ ⟨[],[],[]⟩ [true] (tt k0 nn)))) (fun k0=>(sl Ys 22 [] ⟨[],[],rsqN0,rsqM0⟩ ⟨[],[],[]⟩ [false] (tt k0 nn))))
theorem u0l (l0:List R7) (l1:List R7) (n:Nat) (vs:List AVal) (h:Yx (z6m l0 l1) n (y3i l0 l1)=.ret vs):Ur prog (Zy prog 23) (Za prog 23 [(.dat l0.length (Zz l0)),(.dat l1.length (Zz l1))] true []) vs:=by have:=Zc (w7h l0 l1) n _ (x8l l0 l1);rwa [h] at this
inductive rcmS where
def rcmC (aH:Int) (aO:Int) (aN:Int) (aT:Int) (aV:Int) (aU:Int) (aP:Int) (aR:Int) (aQ:Int) (bR:Int) (bS:Int) (bQ:Int):rcmS→Cfg
 :=nofun
def x9m (aH:Int) (aO:Int) (aN:Int) (aT:Int) (aV:Int) (aU:Int) (aP:Int) (aR:Int) (aQ:Int) (bR:Int) (bS:Int) (bQ:Int):rcmS→Xw rcmS
 :=nofun
def y3t (aH:Int) (aO:Int) (aN:Int) (aT:Int) (aV:Int) (aU:Int) (aP:Int) (aR:Int) (aQ:Int) (bR:Int) (bS:Int) (bQ:Int):Xw rcmS:=(bif (decide ((Qh aH aP)≥(z0o aT bR))) then (.ret [(.agg [(.int .i64 0),(.int .i64 0),(.int .i64 0),(.int .i64 0),(.int .i64 0),(.int .i64 0)])]) else (bif (decide ((Qh aO aR)≥(z0o aV bS))) then (.ret [(.agg [(.int .i64 0),(.int .i64 0),(.int .i64 0),(.int .i64 0),(.int .i64 0),(.int .i64 0)])]) else (bif (decide ((Qh aN aQ)≥(z0o aU bQ))) then (.ret [(.agg [(.int .i64 0),(.int .i64 0),(.int .i64 0),(.int .i64 0),(.int .i64 0),(.int .i64 0)])]) else (.ret [(.agg [(.int .i64 (Qh aH aP)),(.int .i64 (Qh aO aR)),(.int .i64 (Qh aN aQ)),(.int .i64 (z0o aT bR)),(.int .i64 (z0o aV bS)),(.int .i64 (z0o aU bQ))])]))))
theorem w8b (aH:Int) (aO:Int) (aN:Int) (aT:Int) (aV:Int) (aU:Int) (aP:Int) (aR:Int) (aQ:Int) (bR:Int) (bS:Int) (bQ:Int): ∀s,Xu prog (Zy prog 61) (rcmC aH aO aN aT aV aU aP aR aQ bR bS bQ) (rcmC aH aO aN aT aV aU aP aR aQ bR bS bQ s) (x9m aH aO aN aT aV aU aP aR aQ bR bS bQ s)
 :=nofun
theorem x9n (aH:Int) (aO:Int) (aN:Int) (aT:Int) (aV:Int) (aU:Int) (aP:Int) (aR:Int) (aQ:Int) (bR:Int) (bS:Int) (bQ:Int):Xu prog (Zy prog 61) (rcmC aH aO aN aT aV aU aP aR aQ bR bS bQ) (Za prog 61 [(.agg [(.int .i64 aH),(.int .i64 aO),(.int .i64 aN),(.int .i64 aT),(.int .i64 aV),(.int .i64 aU)]),(.agg [(.int .i64 aP),(.int .i64 aR),(.int .i64 aQ),(.int .i64 bR),(.int .i64 bS),(.int .i64 bQ)])] true []) (y3t aH aO aN aT aV aU aP aR aQ bR bS bQ):=(lb (fun k0=>(Vi ⟨⟨78,0,true⟩,none,(Zb prog 61 [1,1,0,1,0,0] 1),none,(Zy prog 61),⟨Yg [(4,(.ptr 0 0))],Wt [⟨[(ii 0),(ii 0),(ii 0),(ii 0),(ii 0),(ii 0)],57,none⟩] 0,1,[],true⟩,[],.leaf⟩ (sl Ys 91 [] ⟨[2],[],[some [4]],[]⟩ ⟨[],[],[]⟩ (trs 15 []) (tt k0 nn)) rfl (by kernel_rfl))) (fun k0=>(lb (fun k1=>(Vi ⟨⟨78,0,true⟩,none,(Zb prog 61 [1,1,0,1,0,0] 1),none,(Zy prog 61),⟨Yg [(4,(.ptr 0 0))],Wt [⟨[(ii 0),(ii 0),(ii 0),(ii 0),(ii 0),(ii 0)],57,none⟩] 0,1,[],true⟩,[],.leaf⟩ (sl Ys 91 [] ⟨[2],[],[some [4]],[]⟩ ⟨[],[],[]⟩ [false,false,false,false,false,false,false,true,true,true,true,true,true,true,true] (tt k1 (tt k0 nn))) rfl (by kernel_rfl))) (fun k1=>(lb (fun k2=>(Vi ⟨⟨78,0,true⟩,none,(Zb prog 61 [1,1,0,1,0,0] 1),none,(Zy prog 61),⟨Yg [(4,(.ptr 0 0))],Wt [⟨[(ii 0),(ii 0),(ii 0),(ii 0),(ii 0),(ii 0)],57,none⟩] 0,1,[],true⟩,[],.leaf⟩ (sl Ys 91 [] ⟨[2],[],[some [4]],[]⟩ ⟨[],[],[]⟩ [false,false,false,false,false,false,false,false,false,false,false,false,false,false,true] (tt k2 (tt k1 (tt k0 nn)))) rfl (by kernel_rfl))) (fun k2=>(Vi ⟨⟨78,0,true⟩,none,(Zb prog 3 [1,1,1,1,0] 1),none,(Zy prog 61),⟨Yg [(4,(.ptr 0 0))],Wt [⟨[(ii (Qh aH aP)),(ii (Qh aO aR)),(ii (Qh aN aQ)),(ii (z0o aT bR)),(ii (z0o aV bS)),(ii (z0o aU bQ))],57,none⟩] 0,1,[],true⟩,[],.leaf⟩ (sl Ys 92 [] ⟨[2],[],[some [4]],[]⟩ ⟨[],[],[]⟩ [false,false,false,false,false,false,false,false,false,false,false,false,false,false,false] (tt k2 (tt k1 (tt k0 nn)))) rfl (by kernel_rfl))))))))
theorem u1q (aH:Int) (aO:Int) (aN:Int) (aT:Int) (aV:Int) (aU:Int) (aP:Int) (aR:Int) (aQ:Int) (bR:Int) (bS:Int) (bQ:Int) (n:Nat) (vs:List AVal) (h:Yx (x9m aH aO aN aT aV aU aP aR aQ bR bS bQ) n (y3t aH aO aN aT aV aU aP aR aQ bR bS bQ)=.ret vs):Ur prog (Zy prog 61) (Za prog 61 [(.agg [(.int .i64 aH),(.int .i64 aO),(.int .i64 aN),(.int .i64 aT),(.int .i64 aV),(.int .i64 aU)]),(.agg [(.int .i64 aP),(.int .i64 aR),(.int .i64 aQ),(.int .i64 bR),(.int .i64 bS),(.int .i64 bQ)])] true []) vs:=by have:=Zc (w8b aH aO aN aT aV aU aP aR aQ bR bS bQ) n _ (x9n aH aO aN aT aV aU aP aR aQ bR bS bQ);rwa [h] at this
inductive ribS where
def ribC (aH:Int) (aO:Int) (aN:Int) (aT:Int) (aV:Int) (aU:Int) (aP:Int) (aR:Int) (aQ:Int):ribS→Cfg
 :=nofun
def x8w (aH:Int) (aO:Int) (aN:Int) (aT:Int) (aV:Int) (aU:Int) (aP:Int) (aR:Int) (aQ:Int):ribS→Xw ribS
 :=nofun
def y3r (aH:Int) (aO:Int) (aN:Int) (aT:Int) (aV:Int) (aU:Int) (aP:Int) (aR:Int) (aQ:Int):Xw ribS:=(bif (decide (aH≤aP)) then (bif (decide (aP<aT)) then (bif (decide (aO≤aR)) then (bif (decide (aR<aV)) then (bif (decide (aN≤aQ)) then (.ret [(.bool (decide (aQ<aU)))]) else (.ret [(.bool false)])) else (.ret [(.bool false)])) else (.ret [(.bool false)])) else (.ret [(.bool false)])) else (.ret [(.bool false)]))
theorem w7r (aH:Int) (aO:Int) (aN:Int) (aT:Int) (aV:Int) (aU:Int) (aP:Int) (aR:Int) (aQ:Int): ∀s,Xu prog (Zy prog 30) (ribC aH aO aN aT aV aU aP aR aQ) (ribC aH aO aN aT aV aU aP aR aQ s) (x8w aH aO aN aT aV aU aP aR aQ s)
 :=nofun
theorem x8x (aH:Int) (aO:Int) (aN:Int) (aT:Int) (aV:Int) (aU:Int) (aP:Int) (aR:Int) (aQ:Int):Xu prog (Zy prog 30) (ribC aH aO aN aT aV aU aP aR aQ) (Za prog 30 [(.agg [(.int .i64 aH),(.int .i64 aO),(.int .i64 aN),(.int .i64 aT),(.int .i64 aV),(.int .i64 aU)]),(.agg [(.int .i64 aP),(.int .i64 aR),(.int .i64 aQ)])] true []) (y3r aH aO aN aT aV aU aP aR aQ):=(lb (fun k0=>(lb (fun k1=>(lb (fun k2=>(lb (fun k3=>(lb (fun k4=>(lr 51 3 [1,1,1,1,0] 1 6 [(4,(.bool (decide (aQ<aU))))] (sl Ys 56 [] ⟨[],[],[some [4]],[]⟩ ⟨[],[],[]⟩ (trs 30 []) (tt k4 (tt k3 (tt k2 (tt k1 (tt k0 nn)))))))) (fun k4=>(lr 51 3 [1,1,1,1,0] 1 6 [(4,(.bool false))] (sl Ys 56 [] ⟨[],[],[some [4]],[]⟩ ⟨[],[],[]⟩ (trs 24 [false,false,false,false,false,false]) (tt k4 (tt k3 (tt k2 (tt k1 (tt k0 nn)))))))))) (fun k3=>(lr 51 3 [1,1,1,1,0] 1 6 [(4,(.bool false))] (sl Ys 56 [] ⟨[],[],[some [4]],[]⟩ ⟨[],[],[]⟩ (trs 18 [false,false,false,false,false,false,false,false,false,false,false,false]) (tt k3 (tt k2 (tt k1 (tt k0 nn))))))))) (fun k2=>(lr 51 3 [1,1,1,1,0] 1 6 [(4,(.bool false))] (sl Ys 56 [] ⟨[],[],[some [4]],[]⟩ ⟨[],[],[]⟩ (trs 12 [false,false,false,false,false,false,false,false,false,false,false,false,false,false,false,false,false,false]) (tt k2 (tt k1 (tt k0 nn)))))))) (fun k1=>(lr 51 3 [1,1,1,1,0] 1 6 [(4,(.bool false))] (sl Ys 56 [] ⟨[],[],[some [4]],[]⟩ ⟨[],[],[]⟩ (trs 6 [false,false,false,false,false,false,false,false,false,false,false,false,false,false,false,false,false,false,false,false,false,false,false,false]) (tt k1 (tt k0 nn))))))) (fun k0=>(lr 51 3 [1,1,1,1,0] 1 6 [(4,(.bool false))] (sl Ys 56 [] ⟨[],[],[some [4]],[]⟩ ⟨[],[],[]⟩ [false,false,false,false,false,false,false,false,false,false,false,false,false,false,false,false,false,false,false,false,false,false,false,false,false,false,false,false,false,false] (tt k0 nn)))))
theorem u0w (aH:Int) (aO:Int) (aN:Int) (aT:Int) (aV:Int) (aU:Int) (aP:Int) (aR:Int) (aQ:Int) (n:Nat) (vs:List AVal) (h:Yx (x8w aH aO aN aT aV aU aP aR aQ) n (y3r aH aO aN aT aV aU aP aR aQ)=.ret vs):Ur prog (Zy prog 30) (Za prog 30 [(.agg [(.int .i64 aH),(.int .i64 aO),(.int .i64 aN),(.int .i64 aT),(.int .i64 aV),(.int .i64 aU)]),(.agg [(.int .i64 aP),(.int .i64 aR),(.int .i64 aQ)])] true []) vs:=by have:=Zc (w7r aH aO aN aT aV aU aP aR aQ) n _ (x8x aH aO aN aT aV aU aP aR aQ);rwa [h] at this
inductive nr39S where
 | h0 (v3:Int)
def j3z (l0:List R6):nr39S→Cfg
 | .h0 v3=>⟨⟨103,0,true⟩,none,(Zb prog 37 [1,1,0,1,0,0] 0),none,(Zy prog 9),⟨Yg [(0,(.dat l0.length (Zz l0))),(3,(ii v3))],Wt [] 0,0,[],true⟩,[],.leaf⟩
def u8o :List (Option (List Nat)):=[some [0,3]]
def u8p :List (Option (List Nat)):=[]
def z5n (l0:List R6):nr39S→Xw nr39S
 | .h0 v3=>(bif (decide (v3<(l0.length:Int))) then (bif ((decide (0≤v3∧v3<(l0.length:Int)))&&true) then (bif (decide ((z0o (z0o (rd l0 v3.toNat).a (rd l0 v3.toNat).b) (rd l0 v3.toNat).c)<(-12))) then (.ret [(.bool false)]) else (bif (decide ((Qh (Qh (rd l0 v3.toNat).d (rd l0 v3.toNat).e) (rd l0 v3.toNat).f)>12)) then (.ret [(.bool false)]) else (bif (decide ((z0o (z0o (rd l0 v3.toNat).d (rd l0 v3.toNat).e) (rd l0 v3.toNat).f)<(-12))) then (.ret [(.bool false)]) else (bif (decide ((Qh (Qh (rd l0 v3.toNat).a (rd l0 v3.toNat).b) (rd l0 v3.toNat).c)>12)) then (.ret [(.bool false)]) else (.to (.h0 (wrap .i64 (v3+1)))))))) else .stuck) else (.ret [(.bool (decide ((l0.length:Int)≤6)))]))
def z8m (l0:List R6):Xw nr39S:=(bif (decide ((l0.length:Int)>400)) then (.ret [(.bool (decide ((l0.length:Int)≤420)))]) else (.to (.h0 0)))
theorem x9x (l0:List R6): ∀s,Xu prog (Zy prog 37) (j3z l0) (j3z l0 s) (z5n l0 s)
 | .h0 v3=>(lb (fun k0=>(lo fun aE=>(lb (fun k1=>(lr 103 37 [1,1,0,1,0,0,1,0,0,0,1,0,0] 1 9 [(2,(.bool false))] (sl Ys 20 [] ⟨[],[],[some [2]],[]⟩ ⟨[],[],[]⟩ (trs 22 []) (tt k1 (ww aE (ww aE (ww aE (tt k0 nn)))))))) (fun k1=>(lb (fun k2=>(lr 103 37 [1,1,0,1,0,0,1,0,0,0,1,0,0] 1 9 [(2,(.bool false))] (sl Ys 20 [] ⟨[],[],[some [2]],[]⟩ ⟨[],[],[]⟩ (bl 22 2097153) (tt k2 (ww aE (ww aE (ww aE (tt k1 (ww aE (ww aE (ww aE (tt k0 nn)))))))))))) (fun k2=>(lb (fun k3=>(lr 103 37 [1,1,0,1,0,0,1,0,0,1,1,0,0] 1 9 [(2,(.bool false))] (sl Ys 24 [] ⟨[],[],[some [2]],[]⟩ ⟨[],[],[]⟩ (bl 43 8796088827905) (tt k3 (ww aE (ww aE (ww aE (tt k2 (ww aE (ww aE (ww aE (tt k1 (ww aE (ww aE (ww aE (tt k0 nn)))))))))))))))) (fun k3=>(lb (fun k4=>(lr 103 37 [1,1,0,1,0,0,1,0,0,1,1,0,0] 1 9 [(2,(.bool false))] (sl Ys 24 [] ⟨[],[],[some [2]],[]⟩ ⟨[],[],[]⟩ (bl 43 4398046511105) (tt k4 (ww aE (ww aE (ww aE (tt k3 (ww aE (ww aE (ww aE (tt k2 (ww aE (ww aE (ww aE (tt k1 (ww aE (ww aE (ww aE (tt k0 nn)))))))))))))))))))) (fun k4=>(sl Ys 28 [] ⟨[],[],u8o,u8p⟩ ⟨[],[],[]⟩ (bl 43 1) (tt k4 (ww aE (ww aE (ww aE (tt k3 (ww aE (ww aE (ww aE (tt k2 (ww aE (ww aE (ww aE (tt k1 (ww aE (ww aE (ww aE (tt k0 nn)))))))))))))))))))))))))))) (fun k0=>(lr 103 3 [1,1,1,1,0] 1 9 [(2,(.bool (decide ((l0.length:Int)≤6))))] (sl Ys 17 [] ⟨[],[],[some [2]],[]⟩ ⟨[],[],[]⟩ [false] (tt k0 nn)))))
theorem x5c (l0:List R6):Xu prog (Zy prog 37) (j3z l0) (Za prog 37 [(.dat l0.length (Zz l0))] true []) (z8m l0):=(lb (fun k0=>(lr 103 37 [1,0,1,0,0] 1 9 [(2,(.bool (decide ((l0.length:Int)≤420))))] (sl Ys 19 [] ⟨[],[],[some [2]],[]⟩ ⟨[],[],[]⟩ [true] (tt k0 nn)))) (fun k0=>(sl Ys 20 [] ⟨[],[],u8o,u8p⟩ ⟨[],[],[]⟩ [false] (tt k0 nn))))
theorem v4r (l0:List R6) (n:Nat) (vs:List AVal) (h:Yx (z5n l0) n (z8m l0)=.ret vs):Ur prog (Zy prog 37) (Za prog 37 [(.dat l0.length (Zz l0))] true []) vs:=by have:=Zc (x9x l0) n _ (x5c l0);rwa [h] at this
def x1z (x y z lo:Int):Bool:=decide (x≥lo)&&(decide (y≥lo)&&(decide (z≥lo)&&(decide (x≤1000000)&&(decide (y≤1000000)&&decide (z≤1000000)))))
theorem j3a (x y z lo:Int): ∃N,Yx (x8u x y z lo) N (y3q x y z lo)=.ret [.bool (x1z x y z lo)]:=⟨0,by
 unfold y3q x1z;cases decide (x≥lo) <;> cases decide (y≥lo) <;> cases decide (z≥lo) <;> cases decide (x≤1000000) <;> cases decide (y≤1000000) <;> rfl⟩
def fRin :List AVal→Option (AVal×Bool)
 | [.agg [.int .i64 x,.int .i64 y,.int .i64 z],.int .i64 lo]=>some (.bool (x1z x y z lo),true)
 | _=>none
theorem v6q {S:Specs} (hS:Zu prog S):Zu prog (S.with w0b fRin):=by
 refine Qi hS (by kernel_rfl) fun args v h=> ?_;unfold fRin at h;split at h
 ·rename_i x y z lo;simp only [Ab,Aa,Bd] at h;subst h;obtain ⟨N,hN⟩:=j3a x y z lo;exact ⟨_,_,(.cons (.refl _) (.cons (.refl _) .nil)),rfl,u0v x y z lo N _ hN,3,rfl⟩
 ·cases h
def z1c (x y z i:Int):Int:=bif i == 0 then x else bif i == 1 then y else z
theorem j7j (x y z i:Int): ∃N,Yx (w2a x y z i) N (y4m x y z i)=.ret [.int .i64 (z1c x y z i)]:=⟨0,by
 unfold y4m z1c;cases (i == 0) <;> cases (i == 1) <;> rfl⟩
def fCrd :List AVal→Option (AVal×Bool)
 | [.agg [.int .i64 aH,.int .i64 aO,.int .i64 aN],.int .i64 x1]=>some (.int .i64 (z1c aH aO aN x1),true)
 | _=>none
theorem j6q {S:Specs} (hS:Zu prog S):Zu prog (S.with w4r fCrd):=by
 refine Qi hS (by kernel_rfl) fun args v h=> ?_;unfold fCrd at h;split at h
 ·rename_i aH aO aN x1;simp only [Ab,Aa,Bd] at h;subst h;obtain ⟨N,hN⟩:=j7j aH aO aN x1;exact ⟨_,_,(.cons (.refl _) (.cons (.refl _) .nil)),rfl,u4k aH aO aN x1 N _ hN,3,rfl⟩
 ·cases h
def u1z (i a x y:Int):R3:=bif i == 0 then ⟨a,x,y⟩ else bif i == 1 then ⟨x,a,y⟩ else ⟨x,y,a⟩
def shR (x y z:Int) (r:R6):Bool:=decide (r.a≤x)&&(decide (x<r.d)&&(decide (r.b≤y)&&(decide (y<r.e)&&(decide (r.c≤z)&&decide (z<r.f)))))
def shsV (L:List R6) (x y z:Int):Bool:=L.any (shR x y z)
def rh6V (L:List R6) (x y z:Int):Bool:=shsV L x y z
def z2j (L:List R6) (x y z:Int):Bool:=decide (L.length≤100000)
theorem u7u {L:List R6} {x y z:Int} (hl:L.length≤100000): ∀(k i:Nat),i+k=L.length→ ∃N,Yx (z6p L x y z) N (.to (.h0 (i:Int)))=.ret [.bool ((L.drop i).any (shR x y z))]
 | 0,i,h=>by
  refine ⟨1,?_⟩
  grind [Zw,z6p,Zp]
 | k+1,i,h=>by
  have hi:i<L.length:=by omega
  obtain ⟨N,hN⟩:=u7u (x:=x) (y:=y) (z:=z) hl k (i+1) (by omega);refine ⟨N+1,?_⟩;rw [Zw,Yq hi,BI];have e:z6p L x y z (.h0 (i:Int))=bif shR x y z (rd L i) then .ret [.bool true] else .to (.h0 ((i+1:Nat):Int)):=by unfold shR;simp (disch:=omega) only [z6p,y0y,Zs,Zt,Zk,Zx,Zj,Ah,Ae]
  grind [Zp]
theorem j3e (L:List R6) (x y z:Int) (h:z2j L x y z=true): ∃N,Yx (z6p L x y z) N (x2b L x y z)=.ret [.bool (rh6V L x y z)]:=by obtain ⟨N,hN⟩:=u7u (x:=x) (y:=y) (z:=z) (Aw h) L.length 0 (Af _);exact ⟨N,hN⟩
def fRh6 :List AVal→Option (AVal×Bool)
 | [a0,.agg [.int .i64 aP,.int .i64 aR,.int .i64 aQ]]=>match asL R6 a0 with
  | some (L0,g0,n0)=>some (.bool (rh6V L0 aP aR aQ),isT R6 n0 g0&&(z2j L0 aP aR aQ))
  | _=>none
 | _=>none
theorem v6s {S:Specs} (hS:Zu prog S):Zu prog (S.with v5c fRh6):=by
 refine Qi hS (by kernel_rfl) fun args v h=> ?_;unfold fRh6 at h;split at h
 ·rename_i a0 aP aR aQ;split at h
  ·rename_i L0 g0 n0 e0;simp only [Ab,Aa,Ad] at h;obtain ⟨rfl,ho0,hw⟩:=h;obtain ⟨N,hN⟩:=j3e L0 aP aR aQ hw;exact ⟨_,_,(.cons (Yi e0 ho0) (.cons (.refl _) .nil)),rfl,u1a L0 aP aR aQ N _ hN,3,rfl⟩
  ·cases h
 ·cases h
def twiV (L:List R6):List R6:=L
def y4v (L:List R6):Bool:=decide (L.length≤2000000)
def fTwi :List AVal→Option (AVal×Bool)
 | [a0]=>match asL R6 a0 with
  | some (L0,g0,n0)=>some (.dat (twiV L0).length (Zz (twiV L0)),isT R6 n0 g0&&(y4v L0))
  | _=>none
 | _=>none
instance : DecidableEq R7:=Classical.typeDecidableEq _
def same7V (l m:List R7):Bool:=decide (l=m)
def eq7 (r s:R7):Bool:=(r.a == s.a)&&(((r.b == s.b)&&((r.c == s.c)&&((r.d == s.d)&&true)))&&(((r.e == s.e)&&((r.f == s.f)&&((r.g == s.g)&&true)))&&true))
theorem v6w (r s:R7):eq7 r s=true↔r=s:=by obtain ⟨a,b,c,d,e,f,g⟩:=r;obtain ⟨a',b',c',d',e',f',g'⟩:=s;simp [eq7,and_assoc]
def rsqV (l m:List R7):Bool:=same7V l m
def z7s (l m:List R7):Bool:=decide (l.length≤1000000)
theorem u7d (l m:List R7) (hl:l.length≤1000000) (hm:l.length=m.length): ∀(k i:Nat),i+k=l.length→ ∃N,Yx (z6m l m) N (.to (.h0 (i:Int)))=.ret [.bool (decide (l.drop i=m.drop i))]
 | 0,i,h=>by
  refine ⟨1,?_⟩
  grind [Zw,z6m,Zp]
 | k+1,i,h=>by
  have hi:i<l.length:=by omega
  obtain ⟨N,hN⟩:=u7d l m hl hm k (i+1) (by omega);refine ⟨N+1,?_⟩;rw [Zw,Yq hi,Yq (show i<m.length by omega)];have e:z6m l m (.h0 (i:Int))=bif !(eq7 (rd l i) (rd m i)) then .ret [.bool false] else .to (.h0 ((i+1:Nat):Int)):=by
   grind [z6m,eq7,Zk]
  rw [e];by_cases q:rd l i=rd m i
  ·rw [(v6w _ _).2 q,Av,Ac,hN];simp_all
  ·rw [show eq7 (rd l i) (rd m i)=false from A1.2 fun h=>q ((v6w _ _).1 h),AA,Ae,Zp];simp_all
theorem j2l (l m:List R7) (h:z7s l m=true): ∃N,Yx (z6m l m) N (y3i l m)=.ret [.bool (rsqV l m)]:=by
 have hl:l.length≤1000000:=Aw h;unfold y3i;by_cases hm:l.length=m.length
 ·obtain ⟨N,hN⟩:=u7d l m hl hm l.length 0 (Af _);refine ⟨N,?_⟩;rw [show ((l.length:Int) != (m.length:Int))=false by rw [hm];simp,Ac];exact hN
 ·refine ⟨0,?_⟩;rw [show ((l.length:Int) != (m.length:Int))=true by simp;omega,Ae,Zp]
  congr 3
  exact (Ay fun e=>hm (by rw [e])).symm
def fRsq :List AVal→Option (AVal×Bool)
 | [a0,a1]=>match asL R7 a0,asL R7 a1 with
  | some (L0,g0,n0),some (L1,g1,n1)=>some (.bool (rsqV L0 L1),isT R7 n0 g0&&(isT R7 n1 g1&&(z7s L0 L1)))
  | _,_=>none
 | _=>none
theorem v6p {S:Specs} (hS:Zu prog S):Zu prog (S.with v5b fRsq):=by
 refine Qi hS (by kernel_rfl) fun args v h=> ?_;unfold fRsq at h;split at h
 ·rename_i a0 a1;split at h
  ·rename_i L0 g0 n0 L1 g1 n1 e0 e1;simp only [Ab,Aa,Ad] at h;obtain ⟨rfl,ho0,ho1,hw⟩:=h;obtain ⟨N,hN⟩:=j2l L0 L1 hw;exact ⟨_,_,(.cons (Yi e0 ho0) (.cons (Yi e1 ho1) .nil)),rfl,u0l L0 L1 N _ hN,3,rfl⟩
  ·cases h
 ·cases h
def z9q (a b c d e f a2 b2 c2 d2 e2 f2:Int):R6:=bif decide (Qh a a2≥z0o d d2)||(decide (Qh b b2≥z0o e e2)||decide (Qh c c2≥z0o f f2)) then ⟨0,0,0,0,0,0⟩ else ⟨Qh a a2,Qh b b2,Qh c c2,z0o d d2,z0o e e2,z0o f f2⟩
theorem j3n (a b c d e f a2 b2 c2 d2 e2 f2:Int): ∃N,Yx (x9m a b c d e f a2 b2 c2 d2 e2 f2) N (y3t a b c d e f a2 b2 c2 d2 e2 f2)=.ret [.agg [.int .i64 (z9q a b c d e f a2 b2 c2 d2 e2 f2).a,.int .i64 (z9q a b c d e f a2 b2 c2 d2 e2 f2).b,.int .i64 (z9q a b c d e f a2 b2 c2 d2 e2 f2).c,.int .i64 (z9q a b c d e f a2 b2 c2 d2 e2 f2).d,.int .i64 (z9q a b c d e f a2 b2 c2 d2 e2 f2).e,.int .i64 (z9q a b c d e f a2 b2 c2 d2 e2 f2).f]]:=⟨0,by
 unfold y3t z9q;cases decide (Qh a a2≥z0o d d2) <;> cases decide (Qh b b2≥z0o e e2) <;> cases decide (Qh c c2≥z0o f f2) <;> rfl⟩
def fRcm :List AVal→Option (AVal×Bool)
 | [.agg [.int .i64 a,.int .i64 b,.int .i64 c,.int .i64 d,.int .i64 e,.int .i64 f],.agg [.int .i64 a2,.int .i64 b2,.int .i64 c2,.int .i64 d2,.int .i64 e2,.int .i64 f2]]=>some (.agg [.int .i64 (z9q a b c d e f a2 b2 c2 d2 e2 f2).a,.int .i64 (z9q a b c d e f a2 b2 c2 d2 e2 f2).b,.int .i64 (z9q a b c d e f a2 b2 c2 d2 e2 f2).c,.int .i64 (z9q a b c d e f a2 b2 c2 d2 e2 f2).d,.int .i64 (z9q a b c d e f a2 b2 c2 d2 e2 f2).e,.int .i64 (z9q a b c d e f a2 b2 c2 d2 e2 f2).f],true)
 | _=>none
theorem j5z {S:Specs} (hS:Zu prog S):Zu prog (S.with nRcm fRcm):=by
 refine Qi hS (by kernel_rfl) fun args v h=> ?_;unfold fRcm at h;split at h
 ·rename_i a b c d e f a2 b2 c2 d2 e2 f2;simp only [Ab,Aa,Bd] at h;subst h;obtain ⟨N,hN⟩:=j3n a b c d e f a2 b2 c2 d2 e2 f2;exact ⟨_,_,(.cons (.refl _) (.cons (.refl _) .nil)),rfl,u1q a b c d e f a2 b2 c2 d2 e2 f2 N _ hN,3,rfl⟩
 ·cases h
def u0x (a b c d e f x y z:Int):Bool:=decide (a≤x)&&(decide (x<d)&&(decide (b≤y)&&(decide (y<e)&&(decide (c≤z)&&decide (z<f)))))
theorem j3b (a b c d e f x y z:Int): ∃N,Yx (x8w a b c d e f x y z) N (y3r a b c d e f x y z)=.ret [.bool (u0x a b c d e f x y z)]:=⟨0,by
 unfold y3r u0x;cases decide (a≤x) <;> cases decide (x<d) <;> cases decide (b≤y) <;> cases decide (y<e) <;> cases decide (c≤z) <;> rfl⟩
def fRib :List AVal→Option (AVal×Bool)
 | [.agg [.int .i64 aH,.int .i64 aO,.int .i64 aN,.int .i64 aT,.int .i64 aV,.int .i64 aU],.agg [.int .i64 aP,.int .i64 aR,.int .i64 aQ]]=>some (.bool (u0x aH aO aN aT aV aU aP aR aQ),true)
 | _=>none
theorem v6r {S:Specs} (hS:Zu prog S):Zu prog (S.with nRib fRib):=by
 refine Qi hS (by kernel_rfl) fun args v h=> ?_;unfold fRib at h;split at h
 ·rename_i aH aO aN aT aV aU aP aR aQ;simp only [Ab,Aa,Bd] at h;subst h;obtain ⟨N,hN⟩:=j3b aH aO aN aT aV aU aP aR aQ;exact ⟨_,_,(.cons (.refl _) (.cons (.refl _) .nil)),rfl,u0w aH aO aN aT aV aU aP aR aQ N _ hN,3,rfl⟩
 ·cases h
def u2h (r:R6):Bool:= !decide (z0o (z0o r.a r.b) r.c<(-12))&&(!decide (Qh (Qh r.d r.e) r.f>12)&&(!decide (z0o (z0o r.d r.e) r.f<(-12))&& !decide (Qh (Qh r.a r.b) r.c>12)))
def x9y (L:List R6):Bool:=bif decide ((L.length:Int)>400) then decide ((L.length:Int)≤420) else L.all u2h&&decide ((L.length:Int)≤6)
def Kn (L:List R6):Bool:=true
theorem v4q {L:List R6} (hl:L.length≤400): ∀(k i:Nat),i+k=L.length→ ∃N,Yx (z5n L) N (.to (.h0 (i:Int)))=.ret [.bool ((L.drop i).all u2h&&decide ((L.length:Int)≤6))]
 | 0,i,h=>by refine ⟨1,?_⟩;rw [Zw,As (by omega)];simp (disch:=omega) only [z5n,Yf,Ac];rfl
 | k+1,i,h=>by
  have hi:i<L.length:=by omega
  obtain ⟨N,hN⟩:=v4q hl k (i+1) (by omega);have hw:wrap .i64 ((i:Int)+1)=((i+1:Nat):Int):=Zk (by omega);refine ⟨N+1,?_⟩;rw [Zw,Yq hi]
  grind [z5n,Zj,u2h,Zp]
theorem u2d (L:List R6) (h:Kn L=true): ∃N,Yx (z5n L) N (z8m L)=.ret [.bool (x9y L)]:=by
 unfold z8m x9y;by_cases hl:L.length≤400
 ·obtain ⟨N,hN⟩:=v4q hl L.length 0 (Af _)
  grind
 ·refine ⟨0,?_⟩;rw [Xy (by omega)];rfl
def j6c :List AVal→Option (AVal×Bool)
 | [a0]=>match asL R6 a0 with
  | some (L0,g0,n0)=>some (.bool (x9y L0),isT R6 n0 g0&&(Kn L0))
  | _=>none
 | _=>none
theorem u3w {S:Specs} (hS:Zu prog S):Zu prog (S.with w4p j6c):=by
 refine Qi hS (by kernel_rfl) fun args v h=> ?_;unfold j6c at h;split at h
 ·rename_i a0;split at h
  ·rename_i L0 g0 n0 e0;simp only [Ab,Aa,Ad] at h;obtain ⟨rfl,ho0,hw⟩:=h;obtain ⟨N,hN⟩:=u2d L0 hw;exact ⟨_,_,(.cons (Yi e0 ho0) .nil),rfl,v4r L0 N _ hN,3,rfl⟩
  ·cases h
 ·cases h
def Vr1 :Specs:=(((((((Va.with w0b fRin).with w4r fCrd).with v5c fRh6).with v5b fRsq).with nRcm fRcm).with nRib fRib).with w4p j6c)
theorem Wh :Zu prog Vr1:=(u3w (v6r (j5z (v6p (v6s (j6q (v6q Ys)))))))
inductive rvbS where
def rvbC (aH:Int) (aO:Int) (aN:Int) (aT:Int) (aV:Int) (aU:Int):rvbS→Cfg
 :=nofun
def x8h (aH:Int) (aO:Int) (aN:Int) (aT:Int) (aV:Int) (aU:Int):rvbS→Xw rvbS
 :=nofun
def y3h (aH:Int) (aO:Int) (aN:Int) (aT:Int) (aV:Int) (aU:Int):Xw rvbS:=(bif (x1z aH aO aN (-1000000)) then (bif (x1z aT aV aU (-1000000)) then (bif (decide (aH<aT)) then (bif (decide (aO<aV)) then (.ret [(.bool (decide (aN<aU)))]) else (.ret [(.bool false)])) else (.ret [(.bool false)])) else (.ret [(.bool false)])) else (.ret [(.bool false)]))
theorem w7f (aH:Int) (aO:Int) (aN:Int) (aT:Int) (aV:Int) (aU:Int): ∀s,Xu prog (Zy prog 60) (rvbC aH aO aN aT aV aU) (rvbC aH aO aN aT aV aU s) (x8h aH aO aN aT aV aU s)
 :=nofun
theorem x8i (aH:Int) (aO:Int) (aN:Int) (aT:Int) (aV:Int) (aU:Int):Xu prog (Zy prog 60) (rvbC aH aO aN aT aV aU) (Za prog 60 [(.agg [(.int .i64 aH),(.int .i64 aO),(.int .i64 aN),(.int .i64 aT),(.int .i64 aV),(.int .i64 aU)])] true []) (y3h aH aO aN aT aV aU):=(lb (fun k0=>(lb (fun k1=>(lb (fun k2=>(lb (fun k3=>(lr 40 3 [1,1,1,1,0] 1 9 [(2,(.bool (decide (aN<aU))))] (sl Wh 49 [] ⟨[],[],[some [2]],[]⟩ ⟨[],[],[]⟩ (trs 24 []) (tt k3 (tt k2 (tt k1 (tt k0 nn))))))) (fun k3=>(lr 40 3 [1,1,1,1,0] 1 9 [(2,(.bool false))] (sl Wh 49 [] ⟨[],[],[some [2]],[]⟩ ⟨[],[],[]⟩ (trs 17 [false,false,false,false,false,false,false]) (tt k3 (tt k2 (tt k1 (tt k0 nn))))))))) (fun k2=>(lr 40 3 [1,1,1,1,0] 1 9 [(2,(.bool false))] (sl Wh 49 [] ⟨[],[],[some [2]],[]⟩ ⟨[],[],[]⟩ (trs 10 [false,false,false,false,false,false,false,false,false,false,false,false,false,false]) (tt k2 (tt k1 (tt k0 nn)))))))) (fun k1=>(lr 40 3 [1,1,1,1,0] 1 9 [(2,(.bool false))] (sl Wh 49 [] ⟨[],[],[some [2]],[]⟩ ⟨[],[],[]⟩ (trs 3 [false,false,false,false,false,false,false,false,false,false,false,false,false,false,false,false,false,false,false,false,false]) (tt k1 (tt k0 nn))))))) (fun k0=>(lr 40 3 [1,1,1,1,0] 1 9 [(2,(.bool false))] (sl Wh 49 [] ⟨[],[],[some [2]],[]⟩ ⟨[],[],[]⟩ [false,false,false,false,false,false,false,false,false,false,false,false,false,false,false,false,false,false,false,false,false,false,false,false] (tt k0 nn)))))
theorem u0j (aH:Int) (aO:Int) (aN:Int) (aT:Int) (aV:Int) (aU:Int) (n:Nat) (vs:List AVal) (h:Yx (x8h aH aO aN aT aV aU) n (y3h aH aO aN aT aV aU)=.ret vs):Ur prog (Zy prog 60) (Za prog 60 [(.agg [(.int .i64 aH),(.int .i64 aO),(.int .i64 aN),(.int .i64 aT),(.int .i64 aV),(.int .i64 aU)])] true []) vs:=by have:=Zc (w7f aH aO aN aT aV aU) n _ (x8i aH aO aN aT aV aU);rwa [h] at this
def rvbV (a b c d e f:Int):Bool:=x1z a b c (-1000000)&&(x1z d e f (-1000000)&&(decide (a<d)&&(decide (b<e)&&decide (c<f))))
theorem j2i (a b c d e f:Int): ∃N,Yx (x8h a b c d e f) N (y3h a b c d e f)=.ret [.bool (rvbV a b c d e f)]:=⟨0,by
 unfold y3h rvbV;cases x1z a b c (-1000000) <;> cases x1z d e f (-1000000) <;> cases decide (a<d) <;> cases decide (b<e) <;> rfl⟩
def fRvb :List AVal→Option (AVal×Bool)
 | [.agg [.int .i64 aH,.int .i64 aO,.int .i64 aN,.int .i64 aT,.int .i64 aV,.int .i64 aU]]=>some (.bool (rvbV aH aO aN aT aV aU),true)
 | _=>none
theorem j5t {S:Specs} (hS:Zu prog S):Zu prog (S.with nRvb fRvb):=by
 refine Qi hS (by kernel_rfl) fun args v h=> ?_;unfold fRvb at h;split at h
 ·rename_i aH aO aN aT aV aU;simp only [Ab,Aa,Bd] at h;subst h;obtain ⟨N,hN⟩:=j2i aH aO aN aT aV aU;exact ⟨_,_,(.cons (.refl _) .nil),rfl,u0j aH aO aN aT aV aU N _ hN,3,rfl⟩
 ·cases h
def endC (L:List R6) (i:Int):List Int:=L.flatMap fun r=>[z1c r.a r.b r.c i,z1c r.d r.e r.f i]
def cu9V (L:List R6) (i:Int):List Int:=z3b (endC L i)
def Vr2 :Specs:=Vr1.with nRvb fRvb
theorem Jp :Zu prog Vr2:=j5t Wh
end Go.Am
end
