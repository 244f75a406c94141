/- A part of a proof: several texts in one. -/
import Derived.Test.YtpddoeiakpbkbaaGreatLm3
set_option maxRecDepth 1000000
set_option maxHeartbeats 8000000
set_option linter.unusedVariables false
set_option linter.unusedSimpArgs false
noncomputable section
namespace Go.Am
open IntKind (wrap)
open Go.Proofs.Tryz
open Go.Proofs
inductive schS where
 | h0 (v10:Int)
def schC (l0:List R2):schS→Cfg
 | .h0 v10=>⟨⟨34,0,true⟩,none,(Zb prog 160 [1,1,0,1,0,0] 0),none,(Zy prog 9),⟨Yg [(0,(.dat l0.length (Zz l0))),(8,(.dat l0.length (Zz l0))),(9,(ii (l0.length:Int))),(10,(ii v10))],Vj [] 0,0,[],true⟩,[],.leaf⟩
def j3z :List (Option (List Nat)):=[some [0,8,9,10]]
def j4a :List (Option (List Nat)):=[]
def z4s (l0:List R2):schS→Xw schS
 | .h0 v10=>(bif (decide (v10<(l0.length:Int))) then (bif ((decide (0≤v10∧v10<(l0.length:Int)))&&true) then (bif (decide ((rd l0 v10.toNat).a <(rd l0 v10.toNat).b)) then (bif (decide ((rd l0 v10.toNat).a ≥(-1000000))) then (bif (!(decide ((rd l0 v10.toNat).b ≤1000000))) then (.ret [(.int .i64 8)]) else (bif (decide (v10>0)) then (bif ((decide (0≤(wrap .i64 (v10 - 1))∧(wrap .i64 (v10 - 1))<(l0.length:Int)))&&true) then (bif (decide ((rd l0 (Int.toNat (wrap .i64 (v10 - 1)))).b ≥(rd l0 v10.toNat).a)) then (.ret [(.int .i64 8)]) else (.to (.h0 (wrap .i64 (v10+1))))) else .stuck) else (.to (.h0 (wrap .i64 (v10+1)))))) else (.ret [(.int .i64 8)])) else (.ret [(.int .i64 8)])) else .stuck) else (.ret [(.int .i64 0)]))
def y3y (l0:List R2):Xw schS:=(bif (decide ((l0.length:Int)>400)) then (.ret [(.int .i64 4)]) else (.to (.h0 0)))
theorem w8k (l0:List R2): ∀s,Yt prog (Zy prog 160) (schC l0) (schC l0 s) (z4s l0 s)
 | .h0 v10=>(lb (fun k0=>(lo fun aJ=>(lb (fun k1=>(lb (fun k2=>(lb (fun k3=>(lr 34 160 [1,1,0,1,0,0,1,1,0,0,1,1,0,0] 1 9 [(2,(ii 8))] (sl z6l 25 [] ⟨[],[],[some [2]],[]⟩ ⟨[],[],[]⟩ (trs 12 []) (tt k3 (tt k2 (tt k1 (ww aJ (tt k0 nn)))))))) (fun k3=>(lb (fun k4=>(lo fun cT=>(lb (fun k5=>(lr 34 160 [1,1,0,1,0,0,1,1,0,0,1,1,0,0] 1 9 [(2,(ii 8))] (sl z6l 25 [] ⟨[],[],[some [2]],[]⟩ ⟨[],[],[]⟩ (trs 7 (bl 14 12280)) (tt k5 (ww cT (tt k4 (tt k3 (tt k2 (tt k1 (ww aJ (tt k0 nn))))))))))) (fun k5=>(sl z6l 28 [] ⟨[],[],j3z,j4a⟩ ⟨[],[],[]⟩ (trs 7 (bl 14 4088)) (tt k5 (ww cT (tt k4 (tt k3 (tt k2 (tt k1 (ww aJ (tt k0 nn))))))))))))) (fun k4=>(sl z6l 28 [] ⟨[],[],j3z,j4a⟩ ⟨[],[],[]⟩ (trs 7 (bl 14 0)) (tt k4 (tt k3 (tt k2 (tt k1 (ww aJ (tt k0 nn)))))))))))) (fun k2=>(lr 34 160 [1,1,0,1,0,0,1,1,0,0,1,1,0,0] 1 9 [(2,(ii 8))] (sl z6l 25 [] ⟨[],[],[some [2]],[]⟩ ⟨[],[],[]⟩ (trs 4 (bl 8 248)) (tt k2 (tt k1 (ww aJ (tt k0 nn))))))))) (fun k1=>(lr 34 160 [1,1,0,1,0,0,1,1,0,0,1,1,0,0] 1 9 [(2,(ii 8))] (sl z6l 25 [] ⟨[],[],[some [2]],[]⟩ ⟨[],[],[]⟩ (bl 12 3969) (tt k1 (ww aJ (tt k0 nn))))))))) (fun k0=>(lr 34 3 [1,1,1,1,0] 1 9 [(2,(ii 0))] (sl z6l 11 [] ⟨[],[],[some [2]],[]⟩ ⟨[],[],[]⟩ [false] (tt k0 nn)))))
theorem x9h (l0:List R2):Yt prog (Zy prog 160) (schC l0) (Zg prog 160 [(.dat l0.length (Zz l0))] true []) (y3y l0):=(lb (fun k0=>(lr 34 160 [1,0,1,0,0] 1 9 [(2,(ii 4))] (sl z6l 16 [] ⟨[],[],[some [2]],[]⟩ ⟨[],[],[]⟩ [true] (tt k0 nn)))) (fun k0=>(sl z6l 22 [] ⟨[],[],j3z,j4a⟩ ⟨[],[],[]⟩ [false] (tt k0 nn))))
theorem u1l (l0:List R2) (n:Nat) (vs:List AVal) (h:Zr (z4s l0) n (y3y l0)=.ret vs):Jy prog (Zy prog 160) (Zg prog 160 [(.dat l0.length (Zz l0))] true []) vs:=by have:=Zd (w8k l0) n _ (x9h l0);rwa [h] at this
inductive cuS where
def cuC (x0:Bool) (x1:Bool):cuS→Cfg
 :=nofun
def v8w (x0:Bool) (x1:Bool):cuS→Xw cuS
 :=nofun
def w3g (x0:Bool) (x1:Bool):Xw cuS:=(bif x0 then (.ret [(.bool true)]) else (.ret [(.bool x1)]))
theorem v8v (x0:Bool) (x1:Bool): ∀s,Yt prog (Zy prog 164) (cuC x0 x1) (cuC x0 x1 s) (v8w x0 x1 s)
 :=nofun
theorem v1f (x0:Bool) (x1:Bool):Yt prog (Zy prog 164) (cuC x0 x1) (Zg prog 164 [(.bool x0),(.bool x1)] true []) (w3g x0 x1):=(lb (fun k0=>(lr 9 3 [1,1,1,1,0] 1 6 [(4,(.bool true))] (sl z6l 12 [] ⟨[],[],[some [4]],[]⟩ ⟨[],[],[]⟩ [true] (tt k0 nn)))) (fun k0=>(lr 9 3 [1,1,1,1,0] 1 6 [(4,(.bool x1))] (sl z6l 12 [] ⟨[],[],[some [4]],[]⟩ ⟨[],[],[]⟩ [false] (tt k0 nn)))))
theorem j9l (x0:Bool) (x1:Bool) (n:Nat) (vs:List AVal) (h:Zr (v8w x0 x1) n (w3g x0 x1)=.ret vs):Jy prog (Zy prog 164) (Zg prog 164 [(.bool x0),(.bool x1)] true []) vs:=by have:=Zd (v8v x0 x1) n _ (v1f x0 x1);rwa [h] at this
inductive ceS where
def ceC (x0:Bool) (x1:Bool):ceS→Cfg
 :=nofun
def v9d (x0:Bool) (x1:Bool):ceS→Xw ceS
 :=nofun
def w3l (x0:Bool) (x1:Bool):Xw ceS:=(bif x0 then (.ret [(.bool x1)]) else (.ret [(.bool false)]))
theorem v9c (x0:Bool) (x1:Bool): ∀s,Yt prog (Zy prog 133) (ceC x0 x1) (ceC x0 x1 s) (v9d x0 x1 s)
 :=nofun
theorem v1i (x0:Bool) (x1:Bool):Yt prog (Zy prog 133) (ceC x0 x1) (Zg prog 133 [(.bool x0),(.bool x1)] true []) (w3l x0 x1):=(lb (fun k0=>(lr 9 3 [1,1,1,1,0] 1 6 [(4,(.bool x1))] (sl z6l 12 [] ⟨[],[],[some [4]],[]⟩ ⟨[],[],[]⟩ [true] (tt k0 nn)))) (fun k0=>(lr 9 3 [1,1,1,1,0] 1 6 [(4,(.bool false))] (sl z6l 12 [] ⟨[],[],[some [4]],[]⟩ ⟨[],[],[]⟩ [false] (tt k0 nn)))))
theorem j9p (x0:Bool) (x1:Bool) (n:Nat) (vs:List AVal) (h:Zr (v9d x0 x1) n (w3l x0 x1)=.ret vs):Jy prog (Zy prog 133) (Zg prog 133 [(.bool x0),(.bool x1)] true []) vs:=by have:=Zd (v9c x0 x1) n _ (v1i x0 x1);rwa [h] at this
inductive cdS where
def cdC (x0:Bool) (x1:Bool):cdS→Cfg
 :=nofun
def v9f (x0:Bool) (x1:Bool):cdS→Xw cdS
 :=nofun
def w3n (x0:Bool) (x1:Bool):Xw cdS:=(bif x0 then (.ret [(.bool (!x1))]) else (.ret [(.bool false)]))
theorem v9e (x0:Bool) (x1:Bool): ∀s,Yt prog (Zy prog 123) (cdC x0 x1) (cdC x0 x1 s) (v9f x0 x1 s)
 :=nofun
theorem v1j (x0:Bool) (x1:Bool):Yt prog (Zy prog 123) (cdC x0 x1) (Zg prog 123 [(.bool x0),(.bool x1)] true []) (w3n x0 x1):=(lb (fun k0=>(lr 10 3 [1,1,1,1,0] 1 6 [(4,(.bool (!x1)))] (sl z6l 13 [] ⟨[],[],[some [4]],[]⟩ ⟨[],[],[]⟩ [true,true] (tt k0 nn)))) (fun k0=>(lr 10 3 [1,1,1,1,0] 1 6 [(4,(.bool false))] (sl z6l 13 [] ⟨[],[],[some [4]],[]⟩ ⟨[],[],[]⟩ [false,false] (tt k0 nn)))))
theorem j9q (x0:Bool) (x1:Bool) (n:Nat) (vs:List AVal) (h:Zr (v9f x0 x1) n (w3n x0 x1)=.ret vs):Jy prog (Zy prog 123) (Zg prog 123 [(.bool x0),(.bool x1)] true []) vs:=by have:=Zd (v9e x0 x1) n _ (v1j x0 x1);rwa [h] at this
open Go.Sort Go.Shelf Go.RowKit Go.Lib
def w8a (l:List R2) (i:Nat):Bool:=z1h (rd l i)&&(decide (i=0)||decide ((rd l (i - 1)).b <(rd l i).a))
def x0g (l:List R2):Int:=bif decide (400<l.length) then 4 else bif (List.range l.length).all (w8a l) then 0 else 8
def z4t (l:List R2):Bool:=true
theorem u8j (l:List R2) (hl:l.length≤400): ∀(k i:Nat),i+k=l.length→(∀j,j<i→w8a l j=true)→ ∃n,Zr (z4s l) n (.to (.h0 (i:Int)))=.ret [.int .i64 (bif (List.range l.length).all (w8a l) then 0 else 8)]
 | 0,i,h,ht=>by
  have hv:(List.range l.length).all (w8a l)=true:=At.2 fun j hj=>ht j (by grind);refine ⟨1,?_⟩
  grind [Zw,z4s,Zp]
 | k +1,i,h,ht=>by
  have hi:i<l.length:=by omega
  have hlt:decide ((i:Int)<(l.length:Int))=true:=An (by omega);have hin:decide (0≤(i:Int)∧(i:Int)<(l.length:Int))=true:=An (by omega);have step:z4s l (.h0 (i:Int))=bif w8a l i then .to (.h0 ((i+1:Nat):Int)) else .ret [.int .i64 8]:=by
   unfold w8a z1h;by_cases hi0:i=0
   ·simp_all [z4s,Zk,y1n]
   ·have g1:decide ((i:Int)>0)=true:=An (by omega);have g2:wrap .i64 ((i:Int) - 1)=((i - 1:Nat):Int):=by rw [Zk (by omega)];omega
    have g3:decide (0≤((i - 1:Nat):Int)∧((i - 1:Nat):Int)<(l.length:Int))=true:=An (by omega);have g4:decide ((rd l (i - 1)).b ≥(rd l i).a)= !decide ((rd l (i - 1)).b <(rd l i).a):=by
     grind
    rw [AB hi0];simp (disch:=omega) only [z4s,hlt,hin,g1,g2,g3,g4,Zk,Zx,Zj,y1n,y7y,Bool.false_or,Ah,Ab,Aa]
  rcases Yp (w8a l i) with q | q
  ·obtain ⟨n,hn⟩:=u8j l hl k (i+1) (by omega) (fun j hj=>by
    grind)
   refine ⟨n+1,?_⟩
   grind [Zw]
  ·have hv:(List.range l.length).all (w8a l)=false:=A2.2 fun e=>by
    grind
   refine ⟨1,?_⟩
   grind [Zw,Zp]
theorem j3y (l:List R2) (h:z4t l=true): ∃n,Zr (z4s l) n (y3y l)=.ret [.int .i64 (x0g l)]:=by
 unfold y3y x0g;by_cases h:400<l.length
 ·refine ⟨0,?_⟩;rw [An h,Xv (show (l.length:Int)>400 by omega)];rfl
 ·obtain ⟨n,hn⟩:=u8j l (by omega) l.length 0 (Af _) (fun j hj=>absurd hj (AG _))
  grind
inductive Op where
 | u | e | d
abbrev Op.k :Op→Nat
 | .u =>0
 | .e =>1
 | .d =>2
abbrev nC :Op→Nat
 | .u =>nSpU1
 | .e =>nSpE1
 | .d =>nSpD1
abbrev nSp :Op→Nat
 | .u =>nSpU
 | .e =>nSpE
 | .d =>nSpD
abbrev nRg :Op→Nat
 | .u =>nRgU
 | .e =>nRgE
 | .d =>nRgD
abbrev nSl :Op→Nat
 | .u =>nSlU
 | .e =>nSlE
 | .d =>nSlD
def cV (q:Op) (a b:Bool):Bool:=opB q.k a b
theorem cu_run (a b:Bool): ∃N,Zr (v8w a b) N (w3g a b)=.ret [.bool (cV .u a b)]:=⟨0,by cases a <;> cases b <;> rfl⟩
theorem ce_run (a b:Bool): ∃N,Zr (v9d a b) N (w3l a b)=.ret [.bool (cV .e a b)]:=⟨0,by cases a <;> cases b <;> rfl⟩
theorem cd_run (a b:Bool): ∃N,Zr (v9f a b) N (w3n a b)=.ret [.bool (cV .d a b)]:=⟨0,by cases a <;> cases b <;> rfl⟩
theorem x2r (l:List R2):x0g l=0↔l.length≤400∧l.all z1h=true∧Can l:=by
 unfold x0g;constructor
 ·intro h;by_cases h1:400<l.length
  ·grind
  ·rw [AB h1,Aa] at h;cases hq:(List.range l.length).all (w8a l) with
   | false=>grind
   | true=>
    have hq:=fun i hi=>At.1 hq i (A3.2 hi);have hv: ∀i,i<l.length→z1h (rd l i)=true:=fun i hi=>by
     grind [w8a]
    have hp: ∀i,i<l.length→(rd l i).a <(rd l i).b :=fun i hi=>by
     grind [z1h]
    have hs: ∀i,i+1<l.length→(rd l i).b <(rd l (i+1)).a :=fun i hi=>by
     grind [w8a]
    refine ⟨by omega,At.2 fun s hs=> ?_,⟨fun s hs=> ?_,?_⟩⟩
    ·obtain ⟨i,hi,rfl⟩:=AN hs;rw [←Yo hi];exact hv i hi
    ·obtain ⟨i,hi,rfl⟩:=AN hs;rw [←Yo hi];exact hp i hi
    ·refine AZ.2 fun i j hi hj hij=> ?_;rw [←Yo hi,←Yo hj];clear hi
     induction j with
     | zero=>omega
     | succ j ih=>
      grind
 ·rintro ⟨h1,h2,h3⟩;rw [AB (by omega),Aa];have:(List.range l.length).all (w8a l)=true:=At.2 fun i hi=>by
   have hi:=A3.1 hi;unfold w8a;rw [At.1 h2 (rd l i) (by grind [Yo]),Aj,Bt];by_cases h0:i=0
   ·grind
   ·refine .inr (An ?_);have:=AZ.1 h3.sep (i - 1) i (by omega) hi (by omega);rwa [←Yo,←Yo] at this
  grind
def fSch :List AVal→Option (AVal×Bool)
 | [a0]=>match asL R2 a0 with
  | some (L0,g0,n0)=>some (.int .i64 (x0g L0),isT R2 n0 g0&&(z4t L0))
  | _=>none
 | _=>none
theorem j7r {S:Specs} (hS:Zu prog S):Zu prog (S.with w5q fSch):=by
 refine z0f hS (by kernel_rfl) fun args v h=> ?_;unfold fSch at h;split at h
 ·rename_i a0;split at h
  ·rename_i L0 g0 n0 e0;simp only [Ad,Ac,Ae] at h;obtain ⟨rfl,ho0,hw⟩:=h;obtain ⟨N,hN⟩:=j3y L0 hw;exact ⟨_,_,(.cons (Yh e0 ho0) .nil),rfl,u1l L0 N _ hN,3,rfl⟩
  ·cases h
 ·cases h
def fCu :List AVal→Option (AVal×Bool)
 | [.bool b0,.bool b1]=>some (.bool (cV .u b0 b1),true)
 | _=>none
theorem fCu_ok {S:Specs} (hS:Zu prog S):Zu prog (S.with (nC .u) fCu):=by
 refine z0f hS (by kernel_rfl) fun args v h=> ?_;unfold fCu at h;split at h
 ·rename_i b0 b1;simp only [Ad,Ac,Bk] at h;subst h;obtain ⟨N,hN⟩:=cu_run b0 b1;exact ⟨_,_,(.cons (.refl _) (.cons (.refl _) .nil)),rfl,j9l b0 b1 N _ hN,3,rfl⟩
 ·cases h
def fCe :List AVal→Option (AVal×Bool)
 | [.bool b0,.bool b1]=>some (.bool (cV .e b0 b1),true)
 | _=>none
theorem fCe_ok {S:Specs} (hS:Zu prog S):Zu prog (S.with (nC .e) fCe):=by
 refine z0f hS (by kernel_rfl) fun args v h=> ?_;unfold fCe at h;split at h
 ·rename_i b0 b1;simp only [Ad,Ac,Bk] at h;subst h;obtain ⟨N,hN⟩:=ce_run b0 b1;exact ⟨_,_,(.cons (.refl _) (.cons (.refl _) .nil)),rfl,j9p b0 b1 N _ hN,3,rfl⟩
 ·cases h
def fCd :List AVal→Option (AVal×Bool)
 | [.bool b0,.bool b1]=>some (.bool (cV .d b0 b1),true)
 | _=>none
theorem fCd_ok {S:Specs} (hS:Zu prog S):Zu prog (S.with (nC .d) fCd):=by
 refine z0f hS (by kernel_rfl) fun args v h=> ?_;unfold fCd at h;split at h
 ·rename_i b0 b1;simp only [Ad,Ac,Bk] at h;subst h;obtain ⟨N,hN⟩:=cd_run b0 b1;exact ⟨_,_,(.cons (.refl _) (.cons (.refl _) .nil)),rfl,j9q b0 b1 N _ hN,3,rfl⟩
 ·cases h
def Ua :Specs:=((((T9.with w5q fSch).with (nC .u) fCu).with (nC .e) fCe).with (nC .d) fCd)
theorem z2x :Zu prog Ua:=(fCd_ok (fCe_ok (fCu_ok (j7r z6l))))
inductive spjS where
 | h0 (v3:List R3) (v17:Int)
 | h1 (v3:List R3) (v17:Int)
 | h2 (v5:List R3) (v6:Int) (v7:Int) (aC:Int) (bP:Int) (aX:Int) (aK:Bool) (aA:List R2)
abbrev Un (aA:List R2) (aX:Int) (v5:List R3) (v7:Int):=(aA++[(R2.mk aX (rd v5 (0+(tn v7))).a)])
def v3k (l0:List R2) (l1:List R2) (q:Op):AFr:=⟨⟨29,0,true⟩,(Vm prog 122 [1,1,1,0] 3),(Zb prog 122 [1,1,1,0] 1),none,(Zy prog 10),Yg [(21,(.dat l0.length (Zz l0))),(22,(.dat l1.length (Zz l1))),(23,(.fn (nC q) []))]⟩
abbrev y2d (aA:List R2) (aX:Int) (v5:List R3) (v7:Int):=(Zo (Zz aA) 0 aA.length 2 [(ii aX),(ii (rd v5 (0+(tn v7))).a)])
def v3j (q:Op) (l0:List R2) (l1:List R2):AFr:=⟨⟨11,0,true⟩,(Vm prog (nSp q) [1,0] 2),(Zb prog (nSp q) [1,0] 1),none,(Zy prog 16),Yg [(6,(.dat l0.length (Zz l0))),(7,(.dat l1.length (Zz l1)))]⟩
def u7e :AFr:=⟨⟨42,0,true⟩,(Vm prog 161 [1,1,1,1,1,0,0] 3),(Zb prog 161 [1,1,1,1,1,0,0] 1),none,(Zy prog 3),Yg [(5,(.ptr 1 0)),(6,.nils),(7,(.ptr 2 0)),(8,(.ptr 3 0)),(9,(.ptr 4 0)),(10,(.ptr 5 0)),(11,(.ptr 6 0)),(16,(.sl 0 0 2 (.un 1)))]⟩
abbrev y9o (v3:List R3) (l0:List R2) (v17:Int):=(v3++[(R3.mk (rd l0 (tn v17)).a 0 1),(R3.mk (rd l0 (tn v17)).b 0 (-1))])
abbrev y9n (v3:List R3) (l1:List R2) (v17:Int):=(v3++[(R3.mk (rd l1 (tn v17)).a 1 1),(R3.mk (rd l1 (tn v17)).b 1 (-1))])
def spjC (q:Op) (l0:List R2) (l1:List R2):spjS→Cfg
 | .h0 v3 v17=>⟨⟨38,0,true⟩,none,(Zb prog 184 [1,1,0,1,0,0,1,1,0,0,1,1,0,0] 0),none,(Zy prog 9),⟨Yg [(3,(.sla 7 3 0 v3.length (.un 3))),(4,(ii 0)),(8,(.sl 0 0 2 (.un 1))),(9,(ii 2)),(10,(ii 0)),(15,(.dat l0.length (Zz l0))),(16,(ii (l0.length:Int))),(17,(ii v17))],Vj [⟨[(.dat l0.length (Zz l0)),(.dat l1.length (Zz l1))],155,none⟩,⟨[(.fn (nC q) [])],167,none⟩,⟨[(ii 0),(ii 0)],222,none⟩,⟨[.nils],155,none⟩,⟨[(ii 0)],3,none⟩,⟨[(.bool false)],4,none⟩,⟨[(.fn 183 [(.ptr 5 0),(.ptr 4 0),(.ptr 3 0)])],223,none⟩,⟨Ym v3.length (Zz v3),227,some ⟨3,v3.length,(Zz v3)⟩⟩] 0,8,[],true⟩,[u7e,(v3k l0 l1 q),(v3j q l0 l1)],.leaf⟩
 | .h1 v3 v17=>⟨⟨38,0,true⟩,none,(Zb prog 184 [1,1,0,1,0,0,1,1,0,0,1,1,0,0] 0),none,(Zy prog 9),⟨Yg [(3,(.sla 7 3 0 v3.length (.un 3))),(4,(ii 1)),(8,(.sl 0 0 2 (.un 1))),(9,(ii 2)),(10,(ii 1)),(15,(.dat l1.length (Zz l1))),(16,(ii (l1.length:Int))),(17,(ii v17))],Vj [⟨[(.dat l0.length (Zz l0)),(.dat l1.length (Zz l1))],155,none⟩,⟨[(.fn (nC q) [])],167,none⟩,⟨[(ii 0),(ii 0)],222,none⟩,⟨[.nils],155,none⟩,⟨[(ii 0)],3,none⟩,⟨[(.bool false)],4,none⟩,⟨[(.fn 183 [(.ptr 5 0),(.ptr 4 0),(.ptr 3 0)])],223,none⟩,⟨Ym v3.length (Zz v3),227,some ⟨3,v3.length,(Zz v3)⟩⟩] 0,8,[],true⟩,[u7e,(v3k l0 l1 q),(v3j q l0 l1)],.leaf⟩
 | .h2 v5 v6 v7 aC bP aX aK aA=>⟨⟨16,0,true⟩,none,(Zb prog 198 [1,0,0] 0),none,[],⟨Yg [(0,(.yld 0)),(5,(.sla 7 3 0 v5.length (.un 3))),(6,(ii v6)),(7,(ii v7))],z6q [(1,⟨[(.fn (nC q) [])],167,none⟩),(2,⟨[(ii aC),(ii bP)],222,none⟩),(3,⟨[(ii aX)],3,none⟩),(4,⟨[(.bool aK)],4,none⟩),(5,⟨[(.fn 183 [(.ptr 4 0),(.ptr 3 0),(.ptr 6 0)])],223,none⟩),(6,⟨[(.sla 8 2 0 aA.length (.un 2))],155,none⟩),(7,⟨Ym v5.length (Zz v5),227,some ⟨3,v5.length,(Zz v5)⟩⟩),(8,⟨Ym aA.length (Zz aA),176,some ⟨2,aA.length,(Zz aA)⟩⟩)],9,[],true⟩,[⟨⟨42,0,true⟩,none,(.inRangeFunc 0::(Zb prog 161 [1,1,1,1,1,0,1,0] 1)),none,(Zy prog 3),Yg [(6,.nils),(8,(.ptr 6 0))]⟩,(v3k l0 l1 q),(v3j q l0 l1)],(y2m [(0,⟨.ready,none,42,Yg [(5,(.ptr 1 0)),(7,(.ptr 2 0)),(9,(.ptr 3 0)),(10,(.ptr 4 0)),(11,(.ptr 5 0))],[18],(Wt prog 161 [1,1,1,1,1,0,1,0,0]),(Wt prog 161 [1,1,1,1,1,0,1,0,1])⟩)])⟩
def spjN0 :List (Option (List Nat)):=[some [3,4,8,9,10,15,16,17],some [5,6,7,8,9,10,11,16],some [21,22,23],some [6,7]]
def spjM0 :List (Option (List Nat)):=[]
def spjN1 :List (Option (List Nat)):=[some [3,4,8,9,10,15,16,17],some [5,6,7,8,9,10,11,16],some [21,22,23],some [6,7]]
def spjM1 :List (Option (List Nat)):=[]
def y5y :List (Option (List Nat)):=[some [0,5,6,7],some [6,8],some [21,22,23],some [6,7]]
def y5z :List (Option (List Nat)):=[some [5,7,9,10,11],none,none,none,none,none,none,none,none]
def Wc (q:Op) (l0:List R2) (l1:List R2):spjS→Xw spjS
 | .h0 v3 v17=>(bif (decide (v17<(l0.length:Int))) then (bif ((decide (0≤v17∧v17<(l0.length:Int)))&&true) then (bif (Nat.beq 3 3&&((decide (0+v3.length=v3.length))&&decide ((v3.length+2+1)*(24+1)≤room))) then (.to (.h0 (v3++[(R3.mk (rd l0 v17.toNat).a 0 1),(R3.mk (rd l0 v17.toNat).b 0 (-1))]) (wrap .i64 (v17+1)))) else .stuck) else .stuck) else (.to (.h1 v3 0)))
 | .h1 v3 v17=>(bif (decide (v17<(l1.length:Int))) then (bif ((decide (0≤v17∧v17<(l1.length:Int)))&&true) then (bif (Nat.beq 3 3&&((decide (0+v3.length=v3.length))&&decide ((v3.length+2+1)*(24+1)≤room))) then (.to (.h1 (v3++[(R3.mk (rd l1 v17.toNat).a 1 1),(R3.mk (rd l1 v17.toNat).b 1 (-1))]) (wrap .i64 (v17+1)))) else .stuck) else .stuck) else (bif (y3c (cvT v3)) then (bif (decide (v3.length<4611686018427387904)) then (bif (decide (v3.length=v3.length)) then (.to (.h2 (z2b (cvT v3)) (v3.length:Int) 0 0 0 0 false ([]:List R2))) else .stuck) else .stuck) else .stuck))
 | .h2 v5 v6 v7 aC bP aX aK aA=>(bif (decide (v7<v6)) then (bif ((decide (0≤v7∧v7<(v5.length:Int)))&&true) then (bif (decide ((0+v7.toNat)<v5.length)) then (bif (!aK) then (bif (decide ((rd v5 (0+v7.toNat)).b =Int.ofNat 0)) then (.to (.h2 v5 v6 (wrap .i64 (v7+1)) (wrap .i64 (aC+(rd v5 (0+v7.toNat)).c)) bP (rd v5 (0+v7.toNat)).a ((cV q) (decide ((wrap .i64 (aC+(rd v5 (0+v7.toNat)).c))>0)) (decide (bP>0))) aA)) else (bif (decide ((rd v5 (0+v7.toNat)).b =Int.ofNat 1)) then (.to (.h2 v5 v6 (wrap .i64 (v7+1)) aC (wrap .i64 (bP+(rd v5 (0+v7.toNat)).c)) (rd v5 (0+v7.toNat)).a ((cV q) (decide (aC>0)) (decide ((wrap .i64 (bP+(rd v5 (0+v7.toNat)).c))>0))) aA)) else .stuck)) else (bif (aX == (rd v5 (0+v7.toNat)).a) then (bif (decide ((rd v5 (0+v7.toNat)).b =Int.ofNat 0)) then (.to (.h2 v5 v6 (wrap .i64 (v7+1)) (wrap .i64 (aC+(rd v5 (0+v7.toNat)).c)) bP (rd v5 (0+v7.toNat)).a ((cV q) (decide ((wrap .i64 (aC+(rd v5 (0+v7.toNat)).c))>0)) (decide (bP>0))) aA)) else (bif (decide ((rd v5 (0+v7.toNat)).b =Int.ofNat 1)) then (.to (.h2 v5 v6 (wrap .i64 (v7+1)) aC (wrap .i64 (bP+(rd v5 (0+v7.toNat)).c)) (rd v5 (0+v7.toNat)).a ((cV q) (decide (aC>0)) (decide ((wrap .i64 (bP+(rd v5 (0+v7.toNat)).c))>0))) aA)) else .stuck)) else (bif (decide ((aA.length:Int)>0)) then (bif ((decide (0≤(wrap .i64 ((aA.length:Int) - 1))∧(wrap .i64 ((aA.length:Int) - 1))<(aA.length:Int)))&&true) then (bif (decide ((0+(Int.toNat (wrap .i64 ((aA.length:Int) - 1))))<aA.length)) then (bif ((rd aA (0+(Int.toNat (wrap .i64 ((aA.length:Int) - 1))))).b == aX) then (bif (decide ((rd v5 (0+v7.toNat)).b =Int.ofNat 0)) then (.to (.h2 v5 v6 (wrap .i64 (v7+1)) (wrap .i64 (aC+(rd v5 (0+v7.toNat)).c)) bP (rd v5 (0+v7.toNat)).a ((cV q) (decide ((wrap .i64 (aC+(rd v5 (0+v7.toNat)).c))>0)) (decide (bP>0))) (aA.set (0+(Int.toNat (wrap .i64 ((aA.length:Int) - 1)))) (R2.mk (rd aA (0+(Int.toNat (wrap .i64 ((aA.length:Int) - 1))))).a (rd v5 (0+v7.toNat)).a)))) else (bif (decide ((rd v5 (0+v7.toNat)).b =Int.ofNat 1)) then (.to (.h2 v5 v6 (wrap .i64 (v7+1)) aC (wrap .i64 (bP+(rd v5 (0+v7.toNat)).c)) (rd v5 (0+v7.toNat)).a ((cV q) (decide (aC>0)) (decide ((wrap .i64 (bP+(rd v5 (0+v7.toNat)).c))>0))) (aA.set (0+(Int.toNat (wrap .i64 ((aA.length:Int) - 1)))) (R2.mk (rd aA (0+(Int.toNat (wrap .i64 ((aA.length:Int) - 1))))).a (rd v5 (0+v7.toNat)).a)))) else .stuck)) else (bif (Nat.beq 2 2&&((decide (0+aA.length=aA.length))&&decide ((aA.length+1+1)*(16+1)≤room))) then (bif (decide ((rd v5 (0+v7.toNat)).b =Int.ofNat 0)) then (.to (.h2 v5 v6 (wrap .i64 (v7+1)) (wrap .i64 (aC+(rd v5 (0+v7.toNat)).c)) bP (rd v5 (0+v7.toNat)).a ((cV q) (decide ((wrap .i64 (aC+(rd v5 (0+v7.toNat)).c))>0)) (decide (bP>0))) (aA++[(R2.mk aX (rd v5 (0+v7.toNat)).a)]))) else (bif (decide ((rd v5 (0+v7.toNat)).b =Int.ofNat 1)) then (.to (.h2 v5 v6 (wrap .i64 (v7+1)) aC (wrap .i64 (bP+(rd v5 (0+v7.toNat)).c)) (rd v5 (0+v7.toNat)).a ((cV q) (decide (aC>0)) (decide ((wrap .i64 (bP+(rd v5 (0+v7.toNat)).c))>0))) (aA++[(R2.mk aX (rd v5 (0+v7.toNat)).a)]))) else .stuck)) else .stuck)) else .stuck) else .stuck) else (bif (Nat.beq 2 2&&((decide (0+aA.length=aA.length))&&decide ((aA.length+1+1)*(16+1)≤room))) then (bif (decide ((rd v5 (0+v7.toNat)).b =Int.ofNat 0)) then (.to (.h2 v5 v6 (wrap .i64 (v7+1)) (wrap .i64 (aC+(rd v5 (0+v7.toNat)).c)) bP (rd v5 (0+v7.toNat)).a ((cV q) (decide ((wrap .i64 (aC+(rd v5 (0+v7.toNat)).c))>0)) (decide (bP>0))) (aA++[(R2.mk aX (rd v5 (0+v7.toNat)).a)]))) else (bif (decide ((rd v5 (0+v7.toNat)).b =Int.ofNat 1)) then (.to (.h2 v5 v6 (wrap .i64 (v7+1)) aC (wrap .i64 (bP+(rd v5 (0+v7.toNat)).c)) (rd v5 (0+v7.toNat)).a ((cV q) (decide (aC>0)) (decide ((wrap .i64 (bP+(rd v5 (0+v7.toNat)).c))>0))) (aA++[(R2.mk aX (rd v5 (0+v7.toNat)).a)]))) else .stuck)) else .stuck)))) else .stuck) else .stuck) else (bif (decide ((aA.length:Int)>400)) then (.ret [.nils,(.int .i64 4)]) else (.ret [(.dat aA.length (Zz aA)),(.int .i64 0)])))
def y3q (q:Op) (l0:List R2) (l1:List R2):Xw spjS:=(bif (z4t (cvT l0)) then (bif ((x0g (cvT l0)) != 0) then (.ret [.nils,(.int .i64 (x0g (cvT l0)))]) else (bif (z4t (cvT l1)) then (bif ((x0g (cvT l1)) != 0) then (.ret [.nils,(.int .i64 (x0g (cvT l1)))]) else (.to (.h0 ([]:List R3) 0))) else .stuck)) else .stuck)
theorem w7y (q:Op) (l0:List R2) (l1:List R2): ∀s,Yt prog (Zy prog (nSp q)) (spjC q l0 l1) (spjC q l0 l1 s) (Wc q l0 l1 s):=by cases q <;> refine (?f: ∀q:Op,∀s,Yt prog (Zy prog (nSp q)) (spjC q l0 l1) (spjC q l0 l1 s) (Wc q l0 l1 s)) _ <;> exact fun q=>fun
 | .h0 v3 v17=>(lb (fun k0=>(lo fun o0=>(lo fun o1=>(sl z2x 36 [] ⟨[0,1,2,3,4,5,6,10],[],spjN0,spjM0⟩ ⟨[(3,.len (y9o v3 l0 v17).length)],(kpB 7 [.rowed 3 (y9o v3 l0 v17).length (Zz (y9o v3 l0 v17))]),[]⟩ [true] (pp (xL (v3.length+2) (y9o v3 l0 v17).length) (pp (xL (v3.length+2) (y9o v3 l0 v17).length) (pp (xS (v3.length+2) (Zo (Zz v3) 0 v3.length 3 [(ii (rd l0 (tn v17)).a),(ii 0),(ii 1),(ii (rd l0 (tn v17)).b),(ii 0),(ii (-1))]) (Zz (y9o v3 l0 v17))) (pp (pp (xF (Zo (Zz v3) 0 v3.length 3 [(ii (rd l0 (tn v17)).a),(ii 0),(ii 1),(ii (rd l0 (tn v17)).b),(ii 0),(ii (-1))])) nn) (ww o1 (ww o0 (tt k0 nn))))))))))) (fun k0=>(sl z2x 38 [] ⟨(List.range 8),[],spjN1,spjM1⟩ ⟨[],[],[]⟩ (bl 2 2) (pp (fl v3 nn) (tt k0 nn)))))
 | .h1 v3 v17=>(lb (fun k0=>(lo fun o0=>(lo fun o1=>(sl z2x 36 [] ⟨[0,1,2,3,4,5,6,10],[],spjN1,spjM1⟩ ⟨[(3,.len (y9n v3 l1 v17).length)],(kpB 7 [.rowed 3 (y9n v3 l1 v17).length (Zz (y9n v3 l1 v17))]),[]⟩ [true] (pp (xL (v3.length+2) (y9n v3 l1 v17).length) (pp (xL (v3.length+2) (y9n v3 l1 v17).length) (pp (xS (v3.length+2) (Zo (Zz v3) 0 v3.length 3 [(ii (rd l1 (tn v17)).a),(ii 1),(ii 1),(ii (rd l1 (tn v17)).b),(ii 1),(ii (-1))]) (Zz (y9n v3 l1 v17))) (pp (pp (xF (Zo (Zz v3) 0 v3.length 3 [(ii (rd l1 (tn v17)).a),(ii 1),(ii 1),(ii (rd l1 (tn v17)).b),(ii 1),(ii (-1))])) nn) (ww o1 (ww o0 (tt k0 nn))))))))))) (fun k0=>(lo fun o0=>(lo fun o1=>(lo fun o2=>(sl z2x 54 [(176,2,Zz ([]:List R2))] ⟨[9,1,2,4,5,6,3,7,10],[],y5y,y5z⟩ ⟨[(5,.len (z2b (cvT v3)).length)],(kpB 6 [.cells [.grow 8 2],.rowed 3 (z2b (cvT v3)).length (Zz (z2b (cvT v3))),.keep]),[]⟩ (bl 2 0) (pp (xL v3.length (z2b (cvT v3)).length (by first | exact z9d _ | exact Uy rfl)) (pp (xL v3.length (z2b (cvT v3)).length (by first | exact z9d _ | exact Uy rfl)) (pp (xS v3.length (Zz (z2b (cvT v3))) (Zz (z2b (cvT v3)))) (pp (fl (z2b (cvT v3)) (fl ([]:List R2) nn)) (pp (pp (xG (Nat.beq 3 3)) (pp (xG (Nat.beq 3 3)) (pp (xG (Nat.beq 0 0)) (pp (pp (xG (decide (v3.length=v3.length))) (pp (xr v3) (xG (decide (v3.length<4611686018427387904))))) (xG (y3c (cvT v3))))))) (tt k0 nn))))))))))))
 | .h2 v5 v6 v7 aC bP aX aK aA=>(lb (fun k0=>(lo fun aJ=>(lo fun bC=>(lb (fun k1=>(lb (fun k2=>(sl z2x 62 [] ⟨(List.range 9),[],y5y,y5z⟩ ⟨[],[],[]⟩ (trs 5 (bl 3 0)) (pp (fl v5 (fl aA nn)) (ww k2 (tt k1 (ww bC (ww aJ (tt k0 nn)))))))) (fun k2=>(lb (fun k3=>(sl z2x 62 [] ⟨(List.range 9),[],y5y,y5z⟩ ⟨[],[],[]⟩ (trs 6 (bl 4 2)) (pp (fl v5 (fl aA nn)) (ww k3 (tt k1 (ww bC (ww aJ (tt k0 nn)))))))) (fun k3=>trivial))))) (fun k1=>(lb (fun k2=>(lb (fun k3=>(sl z2x 62 [] ⟨(List.range 9),[],y5y,y5z⟩ ⟨[],[],[]⟩ (bl 8 17) (pp (fl v5 (fl aA nn)) (ww k3 (tt k2 (tt k1 (ww bC (ww aJ (tt k0 nn))))))))) (fun k3=>(lb (fun k4=>(sl z2x 62 [] ⟨(List.range 9),[],y5y,y5z⟩ ⟨[],[],[]⟩ (bl 10 177) (pp (fl v5 (fl aA nn)) (ww k4 (tt k2 (tt k1 (ww bC (ww aJ (tt k0 nn))))))))) (fun k4=>trivial))))) (fun k2=>(lb (fun k3=>(lo fun cD=>(lo fun dD=>(lb (fun k4=>(lb (fun k5=>(sl z2x 81 [] ⟨(List.range 9),[],y5y,y5z⟩ ⟨[],(kpB 6 [.cells [.len (aA.set (0+(tn (wr ((aA.length:Int) - 1)))) (R2.mk (rd aA (0+(tn (wr ((aA.length:Int) - 1))))).a (rd v5 (0+(tn v7))).a)).length],.keep,.rowed 2 (aA.set (0+(tn (wr ((aA.length:Int) - 1)))) (R2.mk (rd aA (0+(tn (wr ((aA.length:Int) - 1))))).a (rd v5 (0+(tn v7))).a)).length (Zz (aA.set (0+(tn (wr ((aA.length:Int) - 1)))) (R2.mk (rd aA (0+(tn (wr ((aA.length:Int) - 1))))).a (rd v5 (0+(tn v7))).a)))]),[]⟩ (bl 17 16353) (pp (xL aA.length (aA.set (0+(tn (wr ((aA.length:Int) - 1)))) (R2.mk (rd aA (0+(tn (wr ((aA.length:Int) - 1))))).a (rd v5 (0+(tn v7))).a)).length) (pp (xL aA.length (aA.set (0+(tn (wr ((aA.length:Int) - 1)))) (R2.mk (rd aA (0+(tn (wr ((aA.length:Int) - 1))))).a (rd v5 (0+(tn v7))).a)).length) (pp (xS aA.length (Xt (Zz aA) (0+(tn (wr ((aA.length:Int) - 1)))) 1 [(ii (rd v5 (0+(tn v7))).a)]) (Zz (aA.set (0+(tn (wr ((aA.length:Int) - 1)))) (R2.mk (rd aA (0+(tn (wr ((aA.length:Int) - 1))))).a (rd v5 (0+(tn v7))).a)))) (pp (fl v5 (pp (xF (Xt (Zz aA) (0+(tn (wr ((aA.length:Int) - 1)))) 1 [(ii (rd v5 (0+(tn v7))).a)])) nn)) (ww k5 (ww dD (ww cD (tt k4 (ww dD (ww cD (tt k3 (tt k2 (tt k1 (ww bC (ww aJ (tt k0 nn)))))))))))))))))) (fun k5=>(lb (fun k6=>(sl z2x 81 [] ⟨(List.range 9),[],y5y,y5z⟩ ⟨[],(kpB 6 [.cells [.len (aA.set (0+(tn (wr ((aA.length:Int) - 1)))) (R2.mk (rd aA (0+(tn (wr ((aA.length:Int) - 1))))).a (rd v5 (0+(tn v7))).a)).length],.keep,.rowed 2 (aA.set (0+(tn (wr ((aA.length:Int) - 1)))) (R2.mk (rd aA (0+(tn (wr ((aA.length:Int) - 1))))).a (rd v5 (0+(tn v7))).a)).length (Zz (aA.set (0+(tn (wr ((aA.length:Int) - 1)))) (R2.mk (rd aA (0+(tn (wr ((aA.length:Int) - 1))))).a (rd v5 (0+(tn v7))).a)))]),[]⟩ (bl 19 98273) (pp (xL aA.length (aA.set (0+(tn (wr ((aA.length:Int) - 1)))) (R2.mk (rd aA (0+(tn (wr ((aA.length:Int) - 1))))).a (rd v5 (0+(tn v7))).a)).length) (pp (xL aA.length (aA.set (0+(tn (wr ((aA.length:Int) - 1)))) (R2.mk (rd aA (0+(tn (wr ((aA.length:Int) - 1))))).a (rd v5 (0+(tn v7))).a)).length) (pp (xS aA.length (Xt (Zz aA) (0+(tn (wr ((aA.length:Int) - 1)))) 1 [(ii (rd v5 (0+(tn v7))).a)]) (Zz (aA.set (0+(tn (wr ((aA.length:Int) - 1)))) (R2.mk (rd aA (0+(tn (wr ((aA.length:Int) - 1))))).a (rd v5 (0+(tn v7))).a)))) (pp (fl v5 (pp (xF (Xt (Zz aA) (0+(tn (wr ((aA.length:Int) - 1)))) 1 [(ii (rd v5 (0+(tn v7))).a)])) nn)) (ww k6 (ww dD (ww cD (tt k4 (ww dD (ww cD (tt k3 (tt k2 (tt k1 (ww bC (ww aJ (tt k0 nn)))))))))))))))))) (fun k6=>trivial))))) (fun k4=>(lo fun cT=>(lb (fun k5=>(sl z2x 81 [] ⟨[0,1,2,3,4,5,6,7,12],[],y5y,y5z⟩ ⟨[],(kpB 6 [.cells [.len (Un aA aX v5 v7).length],.keep,.rowed 2 (Un aA aX v5 v7).length (Zz (Un aA aX v5 v7))]),[]⟩ (bl 17 8161) (pp (xL (aA.length+1) (Un aA aX v5 v7).length) (pp (xL (aA.length+1) (Un aA aX v5 v7).length) (pp (xS (aA.length+1) (y2d aA aX v5 v7) (Zz (Un aA aX v5 v7))) (pp (fl v5 (pp (xF (y2d aA aX v5 v7)) nn)) (ww k5 (ww cT (tt k4 (ww dD (ww cD (tt k3 (tt k2 (tt k1 (ww bC (ww aJ (tt k0 nn))))))))))))))))) (fun k5=>(lb (fun k6=>(sl z2x 81 [] ⟨[0,1,2,3,4,5,6,7,12],[],y5y,y5z⟩ ⟨[],(kpB 6 [.cells [.len (Un aA aX v5 v7).length],.keep,.rowed 2 (Un aA aX v5 v7).length (Zz (Un aA aX v5 v7))]),[]⟩ (bl 19 90081) (pp (xL (aA.length+1) (Un aA aX v5 v7).length) (pp (xL (aA.length+1) (Un aA aX v5 v7).length) (pp (xS (aA.length+1) (y2d aA aX v5 v7) (Zz (Un aA aX v5 v7))) (pp (fl v5 (pp (xF (y2d aA aX v5 v7)) nn)) (ww k6 (ww cT (tt k4 (ww dD (ww cD (tt k3 (tt k2 (tt k1 (ww bC (ww aJ (tt k0 nn))))))))))))))))) (fun k6=>trivial)))))))))) (fun k3=>(lo fun cD=>(lb (fun k4=>(sl z2x 81 [] ⟨[0,1,2,3,4,5,6,7,12],[],y5y,y5z⟩ ⟨[],(kpB 6 [.cells [.len (Un aA aX v5 v7).length],.keep,.rowed 2 (Un aA aX v5 v7).length (Zz (Un aA aX v5 v7))]),[]⟩ (bl 17 1) (pp (xL (aA.length+1) (Un aA aX v5 v7).length) (pp (xL (aA.length+1) (Un aA aX v5 v7).length) (pp (xS (aA.length+1) (y2d aA aX v5 v7) (Zz (Un aA aX v5 v7))) (pp (fl v5 (pp (xF (y2d aA aX v5 v7)) nn)) (ww k4 (ww cD (tt k3 (tt k2 (tt k1 (ww bC (ww aJ (tt k0 nn)))))))))))))) (fun k4=>(lb (fun k5=>(sl z2x 81 [] ⟨[0,1,2,3,4,5,6,7,12],[],y5y,y5z⟩ ⟨[],(kpB 6 [.cells [.len (Un aA aX v5 v7).length],.keep,.rowed 2 (Un aA aX v5 v7).length (Zz (Un aA aX v5 v7))]),[]⟩ (bl 19 81921) (pp (xL (aA.length+1) (Un aA aX v5 v7).length) (pp (xL (aA.length+1) (Un aA aX v5 v7).length) (pp (xS (aA.length+1) (y2d aA aX v5 v7) (Zz (Un aA aX v5 v7))) (pp (fl v5 (pp (xF (y2d aA aX v5 v7)) nn)) (ww k5 (ww cD (tt k3 (tt k2 (tt k1 (ww bC (ww aJ (tt k0 nn)))))))))))))) (fun k5=>trivial)))))))))))))) (fun k0=>(lb (fun k1=>(lr 11 3 [1,1,1,1,0] 1 16 [(4,.nils),(5,(ii 4))] (sl z2x 37 [] ⟨[],[],[some [4,5]],[]⟩ ⟨[],[],[]⟩ (bl 2 2) (tt k1 (tt k0 nn))))) (fun k1=>(lr 11 3 [1,1,1,1,0] 1 16 [(4,(.dat aA.length (Zz aA))),(5,(ii 0))] (sl z2x 39 [] ⟨[],[8],[some [4,5]],[]⟩ ⟨[(4,.frz aA.length aA.length (Zz aA) (Zz aA))],[],[]⟩ (bl 2 0) (pp (xZ (z6e 2 2 0 aA.length aA.length (Zz aA)) aA.length (Zz aA)) (pp (xL aA.length aA.length) (pp (xS aA.length (Zz aA) (Zz aA)) (pp (fl aA nn) (tt k1 (tt k0 nn))))))))))))
theorem x8z (q:Op) (l0:List R2) (l1:List R2):Yt prog (Zy prog (nSp q)) (spjC q l0 l1) (Zg prog (nSp q) [(.dat l0.length (Zz l0)),(.dat l1.length (Zz l1))] true []) (y3q q l0 l1):=by cases q <;> exact (lo fun bV=>(lb (fun k0=>(lr 11 3 [1,1,1,1,0] 1 16 [(4,.nils),(5,(ii (x0g (cvT l0))))] (sl z2x 40 [] ⟨[],[],[some [4,5]],[]⟩ ⟨[],[],[]⟩ [true] (tt k0 (pp (pp (xr l0) (xw bV)) nn))))) (fun k0=>(lo fun aJ=>(lb (fun k1=>(lr 11 3 [1,1,1,1,0] 1 16 [(4,.nils),(5,(ii (x0g (cvT l1))))] (sl z2x 54 [] ⟨[],[],[some [4,5]],[]⟩ ⟨[],[],[]⟩ [false,true] (tt k1 (pp (pp (xr l1) (xw aJ)) (tt k0 (pp (pp (xr l0) (xw bV)) nn))))))) (fun k1=>(sl z2x 124 [(227,3,Zz ([]:List R3))] ⟨[6,0,1,2,3,4,5,7],[],spjN0,spjM0⟩ ⟨[(3,.grow 7 3)],[],[]⟩ [false,false,true] (pp (fl ([]:List R3) nn) (tt k1 (pp (pp (xr l1) (xw aJ)) (tt k0 (pp (pp (xr l0) (xw bV)) nn))))))))))))
theorem u0p (q:Op) (l0:List R2) (l1:List R2) (n:Nat) (vs:List AVal) (h:Zr (Wc q l0 l1) n (y3q q l0 l1)=.ret vs):Jy prog (Zy prog (nSp q)) (Zg prog (nSp q) [(.dat l0.length (Zz l0)),(.dat l1.length (Zz l1))] true []) vs:=by have:=Zd (w7y q l0 l1) n _ (x8z q l0 l1);rwa [h] at this
def spE (k:Nat) (a b:List R2):Int:=bif x0g a != 0 then x0g a else bif x0g b != 0 then x0g b else x7e (spJ k a b).length
theorem y2r (i:Int) (l:List R2):(Wh i l).length =2*l.length:=by
 induction l with
 | nil=>rfl
 | cons r l ih=>grind [Wh]
theorem x1r (j:Int) (l:List R2) (i:Nat) (h:i<l.length):Wh j (l.drop i)=Wh j [rd l i]++Wh j (l.drop (i+1)):=by rw [Yq h];rfl
theorem v8k {j:Int} {l:List R2} {e:R3} (h:e∈Wh j l):e.b=j∧(e.c=1∨e.c= -1):=by
 obtain ⟨s,_,h⟩:=AK.1 h
 grind
theorem w4n (f:Bool→Bool→Bool) (e:R3) (r:List R3) (o p last:Int) (inn:Bool) (out:List R2):sw2 f (e::r) o p last inn out=sw2 f r (bif e.b == 0 then o+e.c else o) (bif e.b == 0 then p else p+e.c) e.a (f (decide ((bif e.b == 0 then o+e.c else o)>0)) (decide ((bif e.b == 0 then p else p+e.c)>0))) (Uk out last inn e.a):=rfl
section
variable (q:Op) (a b:List R2)
theorem u7b (L:List R3) (hL:L.length≤2000) (hE: ∀i,i<L.length→((rd L i).b =0∨(rd L i).b =1)∧((rd L i).c =1∨(rd L i).c = -1)): ∀(k i:Nat) (o p last:Int) (inn:Bool) (out:List R2),i+k=L.length→ -(i:Int)≤o→o≤i→ -(i:Int)≤p→p≤i→out.length≤i→
  ∃n,Zr (Wc q a b) n (.to (.h2 L (L.length:Int) (i:Int) o p last inn out))=.ret (z1w (sw2 (opB q.k) (L.drop i) o p last inn out))
 | 0,i,o,p,last,inn,out,h,ho1,ho2,hp1,hp2,hout=>by
  refine ⟨1,?_⟩;rw [Zw,Ar (by omega)];unfold z1w;show _=Xw.ret (bif decide ((out.length:Int)>400) then _ else _);rcases Yp (decide ((out.length:Int)>400)) with g | g <;>
  simp (disch:=omega) only [Wc,Yf,g,Ab,Aa,Zp];rfl
 | k + 1,i,o,p,last,inn,out,h,ho1,ho2,hp1,hp2,hout=>by
  obtain ⟨hb,hc⟩:=hE i (by omega);have hcl:=z3s out last inn (rd L i).a;have hcf: ∀x y,cV q x y=opB q.k x y:=fun _ _=>rfl;have hlt:decide ((i:Int)<(L.length:Int))=true:=An (by omega);have hw:wrap .i64 (o+(rd L i).c)=o+(rd L i).c :=Zk (by grind);have hw':wrap .i64 (p+(rd L i).c)=p+(rd L i).c :=Zk (by grind);have key: ∀(o' p':Int) (out':List R2),-((i+1:Nat):Int)≤o'→o'≤((i+1:Nat):Int)→ -((i+1:Nat):Int)≤p'→p'≤((i+1:Nat):Int)→out'=Uk out last inn (rd L i).a →
    Wc q a b (.h2 L (L.length:Int) (i:Int) o p last inn out)=.to (.h2 L (L.length:Int) ((i+1:Nat):Int) o' p' (rd L i).a (opB q.k (decide (o'>0)) (decide (p'>0))) out')→
    sw2 (opB q.k) (L.drop i) o p last inn out=sw2 (opB q.k) (L.drop (i+1)) o' p' (rd L i).a (opB q.k (decide (o'>0)) (decide (p'>0))) out'→
    ∃n,Zr (Wc q a b) n (.to (.h2 L (L.length:Int) (i:Int) o p last inn out))=.ret (z1w (sw2 (opB q.k) (L.drop i) o p last inn out)):=fun o' p' out' b1 b2 b3 b4 eo hs hq=>by
   obtain ⟨n,hn⟩:=u7b L hL hE k (i+1) o' p' (rd L i).a (opB q.k (decide (o'>0)) (decide (p'>0))) out' (by omega) b1 b2 b3 b4 (by grind);refine ⟨n+1,?_⟩;rw [Zw,hs,hq];exact hn
  rcases hb with hb | hb
  ·have hz:decide ((rd L i).b =Int.ofNat 0)=true:=An hb;have hb0:((rd L i).b == 0)=true:=by rw [hb];rfl
   refine key (o+(rd L i).c) p (Uk out last inn (rd L i).a) (by grind) (by grind) (by omega) (by omega) rfl ?_ ?_
   ·unfold Uk;cases inn with
    | false=>simp (disch:=omega) only [Wc,hlt,hz,hw,hw',hcf,Yz,Zt,Yv,Zk,Zx,Zj,Af,Ah,Ab,Aa,AE]
    | true=>
     rcases Yp (last == (rd L i).a) with g | g
     ·simp (disch:=omega) only [Wc,hlt,hz,hw,hw',hcf,Yz,Zt,Yv,Zk,Zx,Zj,Af,Ah,Ab,Aa,Az,g]
     ·by_cases h0:0<out.length
      ·rw [An h0,Aj];rcases Yp ((rd out (out.length - 1)).b == last) with q2 | q2
       ·simp (disch:=omega) only [Wc,hlt,hz,hw,hw',hcf,Yz,Zt,Yv,Zk,Zx,Zj,Af,Ah,Ab,Aa,Az,g,q2,Xv,Zh]
       ·simp (disch:=omega) only [Wc,hlt,hz,hw,hw',hcf,Yz,Zt,Yv,Zk,Zx,Zj,Af,Ah,Ab,Aa,Az,Aj,g,q2,Xv,Zh,Yj,Zf,Yd,Ao]
      ·rw [AB h0,Bc];simp (disch:=omega) only [Wc,hlt,hz,hw,hw',hcf,Yz,Zt,Yv,Zk,Zx,Zj,Af,Ah,Ab,Aa,Az,Aj,g,Wk,Yj,Zf,Yd,Ao]
   simp_all [Yq,w4n]
  ·have hz0:decide ((rd L i).b =Int.ofNat 0)=false:=AB (by grind);have hz:decide ((rd L i).b =Int.ofNat 1)=true:=An hb;have hb0:((rd L i).b == 0)=false:=by rw [hb];rfl
   refine key o (p+(rd L i).c) (Uk out last inn (rd L i).a) (by omega) (by omega) (by grind) (by grind) rfl ?_ ?_
   ·unfold Uk;cases inn with
    | false=>simp (disch:=omega) only [Wc,hlt,hz0,hz,hw,hw',hcf,Yz,Zt,Yv,Zk,Zx,Zj,Af,Ah,Ab,Aa,AE]
    | true=>
     rcases Yp (last == (rd L i).a) with g | g
     ·simp (disch:=omega) only [Wc,hlt,hz0,hz,hw,hw',hcf,Yz,Zt,Yv,Zk,Zx,Zj,Af,Ah,Ab,Aa,Az,g]
     ·by_cases h0:0<out.length
      ·rw [An h0,Aj];rcases Yp ((rd out (out.length - 1)).b == last) with q2 | q2
       ·simp (disch:=omega) only [Wc,hlt,hz0,hz,hw,hw',hcf,Yz,Zt,Yv,Zk,Zx,Zj,Af,Ah,Ab,Aa,Az,g,q2,Xv,Zh]
       ·simp (disch:=omega) only [Wc,hlt,hz0,hz,hw,hw',hcf,Yz,Zt,Yv,Zk,Zx,Zj,Af,Ah,Ab,Aa,Az,Aj,g,q2,Xv,Zh,Yj,Zf,Yd,Ao]
      ·rw [AB h0,Bc];simp (disch:=omega) only [Wc,hlt,hz0,hz,hw,hw',hcf,Yz,Zt,Yv,Zk,Zx,Zj,Af,Ah,Ab,Aa,Az,Aj,g,Wk,Yj,Zf,Yd,Ao]
   simp_all [Yq,w4n]
theorem u7c (ha:a.length≤400) (hb:b.length≤400) (va:a.all z1h=true) (vb:b.all z1h=true): ∀(k i:Nat) (E:List R3),i+k=b.length→E.length=2*a.length+2*i→E++Wh 1 (b.drop i)=Wh 0 a++Wh 1 b→ ∃n,Zr (Wc q a b) n (.to (.h1 E (i:Int)))=.ret (z1w (spJ q.k a b))
 | 0,i,E,h,hl,he=>by
  rw [Ar (by omega),show Wh 1 []=[] from rfl,AD] at he;subst he;have hbnd:y3c (Wh 0 a++Wh 1 b)=true:=by
   grind [x7a,y3c]
  have hsl:=y5u (Wh 0 a++Wh 1 b);obtain ⟨hp,_⟩:=Qe _ hbnd;obtain ⟨n,hn⟩:=u7b q a b (z2b (Wh 0 a++Wh 1 b)) (by grind) (fun i hi=>by
   have hm:rd (z2b (Wh 0 a++Wh 1 b)) i∈Wh 0 a++Wh 1 b:=hp.mem_iff.1 (by grind [Yo])
   grind [v8k]) (z2b (Wh 0 a++Wh 1 b)).length 0 0 0 0 false [] (Af _) (by omega) (by omega) (by omega) (by omega) (AC _)
  refine ⟨n+1,?_⟩;rw [Zw];have step:Wc q a b (.h1 (Wh 0 a++Wh 1 b) (i:Int))=.to (.h2 (z2b (Wh 0 a++Wh 1 b)) (((Wh 0 a++Wh 1 b).length :Nat):Int) 0 0 0 0 false []):=by
   grind [Wc,Zc]
  rw [step,←hsl];exact hn
 | k+1,i,E,h,hl,he=>by rw [x1r 1 b i (by omega),←AJ] at he;obtain ⟨n,hn⟩:=u7c ha hb va vb k (i+1) (E++Wh 1 [rd b i]) (by omega) (by grind [y2r]) he;refine ⟨n+1,?_⟩;rw [Zw];simp (disch:=omega) only [Wc,Yj,Zf,Yd,Ao,Aj,Yz,Zt,Yv,Zk,Zx,Zj,Af,Ah,Ab,Aa];exact hn
theorem u7d (ha:a.length≤400) (hb:b.length≤400) (va:a.all z1h=true) (vb:b.all z1h=true): ∀(k i:Nat) (E:List R3),i+k=a.length→E.length=2*i→E++Wh 0 (a.drop i)=Wh 0 a→ ∃n,Zr (Wc q a b) n (.to (.h0 E (i:Int)))=.ret (z1w (spJ q.k a b))
 | 0,i,E,h,hl,he=>by
  rw [Ar (by omega),show Wh 0 []=[] from rfl,AD] at he;subst he;obtain ⟨n,hn⟩:=u7c q a b ha hb va vb b.length 0 (Wh 0 a) (Af _) (by omega) (by grind);refine ⟨n+1,?_⟩
  grind [Zw,Wc]
 | k+1,i,E,h,hl,he=>by rw [x1r 0 a i (by omega),←AJ] at he;obtain ⟨n,hn⟩:=u7d ha hb va vb k (i+1) (E++Wh 0 [rd a i]) (by omega) (by grind [y2r]) he;refine ⟨n+1,?_⟩;rw [Zw];simp (disch:=omega) only [Wc,Yj,Zf,Yd,Ao,Aj,Yz,Zt,Yv,Zk,Zx,Zj,Af,Ah,Ab,Aa];exact hn
theorem j2z : ∃n,Zr (Wc q a b) n (y3q q a b)=.ret (z7y (spE q.k a b) (spJ q.k a b)):=by
 unfold y3q;have o: ∀l,z4t l=true:=fun _=>rfl;simp only [Zc,o,Ab];rcases Yp (x0g a != 0) with q1 | q1
 ·exact ⟨0,by simp only [spE,q1,Ab,Uz _ q1];rfl⟩
 rcases Yp (x0g b != 0) with q2 | q2
 ·exact ⟨0,by simp only [spE,q1,q2,Ab,Aa,Uz _ q2];rfl⟩
 obtain ⟨a1,a2,_⟩:=(x2r a).1 (by grind);obtain ⟨b1,b2,_⟩:=(x2r b).1 (by grind);obtain ⟨n,hn⟩:=u7d q a b a1 b1 a2 b2 a.length 0 [] (Af _) rfl (by grind)
 grind [spE,y7u]
end
def z4o (q:Op) (a b:List R2):List R2:=y8o (spE q.k a b) (spJ q.k a b)
def w7z (q:Op) (a b:List R2):Int:=spE q.k a b
def x2h (q:Op) (a b:List R2):Bool:=true
def fSp (q:Op):List AVal→Option (AVal×Bool)
 | [a1,a2]=>match asL R2 a1,asL R2 a2 with
  | some (L1,g1,n1),some (L2,g2,n2)=>some (.tup [.dat (z4o q L1 L2).length (Zz (z4o q L1 L2)),.int .i64 (w7z q L1 L2)],isT R2 n1 g1&&(isT R2 n2 g2&&x2h q L1 L2))
  | _,_=>none
 | _=>none
theorem v8a (q:Op) {S:Specs} (hS:Zu prog S):Zu prog (S.with (nSp q) (fSp q)):=by
 refine w6t hS (by cases q <;> kernel_rfl) fun args v h=> ?_;unfold fSp at h;split at h
 ·rename_i a1 a2;split at h
  ·rename_i L1 g1 n1 L2 g2 n2 e1 e2;simp only [Ad,Ac,Ae] at h;obtain ⟨rfl,ho1,ho2,_⟩:=h;obtain ⟨N,hN⟩:=j2z q L1 L2;exact ⟨_,_,(.cons (Yh e1 ho1) (.cons (Yh e2 ho2) .nil)),z0i _ _,u0p q L1 L2 N _ hN,3,z4y _ _⟩
  ·cases h
 ·cases h
def Ub :Specs:=((Ua.with (nSp .u) (fSp .u)).with (nSp .e) (fSp .e)).with (nSp .d) (fSp .d)
theorem y8l :Zu prog Ub:=v8a .d (v8a .e (v8a .u z2x))
inductive rgcS where
 | h0 (v8:Int)
def rgcC (l0:List R4):rgcS→Cfg
 | .h0 v8=>⟨⟨19,0,true⟩,none,(Zb prog 192 [1,0,1,0,0] 0),none,(Zy prog 6),⟨Yg [(0,(.dat l0.length (Zz l0))),(1,(.fn 182 [])),(7,(ii (l0.length:Int))),(8,(ii v8))],Vj [] 0,0,[],true⟩,[⟨⟨9,0,true⟩,(Vm prog 181 [1,0] 2),(Zb prog 181 [1,0] 1),none,(Zy prog 6),Yg [(5,(.dat l0.length (Zz l0))),(6,(.fn 182 []))]⟩,⟨⟨23,0,true⟩,(Vm prog 157 [1,1,0,0] 1),(Zb prog 157 [1,1,0,0] 1),none,(Zy prog 9),Yg [(0,(.dat l0.length (Zz l0))),(8,(.dat l0.length (Zz l0)))]⟩],.leaf⟩
def rgcN0 :List (Option (List Nat)):=[some [0,1,7,8],some [5,6],some [0,8]]
def rgcM0 :List (Option (List Nat)):=[]
def z3g (l0:List R4):rgcS→Xw rgcS
 | .h0 v8=>(bif (decide (v8<(l0.length:Int))) then (bif ((decide (0≤v8∧v8<(l0.length:Int)))&&true) then (bif (!(j2d (rd l0 v8.toNat).a (rd l0 v8.toNat).b (rd l0 v8.toNat).c (rd l0 v8.toNat).d)) then (bif (decide (v8≥0)) then (.ret [(.int .i64 8)]) else (bif (Qo (cvT l0)) then (bif ((z2p (cvT l0)) != 0) then (.ret [(.int .i64 8)]) else (bif (We (cvT (Wo (cvT l0))) (cvT l0)) then (bif (!(Ur (cvT (Wo (cvT l0))) (cvT l0))) then (.ret [(.int .i64 8)]) else (.ret [(.int .i64 0)])) else .stuck)) else .stuck)) else (.to (.h0 (wrap .i64 (v8+1))))) else .stuck) else (bif (Qo (cvT l0)) then (bif ((z2p (cvT l0)) != 0) then (.ret [(.int .i64 8)]) else (bif (We (cvT (Wo (cvT l0))) (cvT l0)) then (bif (!(Ur (cvT (Wo (cvT l0))) (cvT l0))) then (.ret [(.int .i64 8)]) else (.ret [(.int .i64 0)])) else .stuck)) else .stuck))
def z8o (l0:List R4):Xw rgcS:=(bif (decide ((l0.length:Int)>400)) then (.ret [(.int .i64 4)]) else (.to (.h0 0)))
theorem w9g (l0:List R4): ∀s,Yt prog (Zy prog 157) (rgcC l0) (rgcC l0 s) (z3g l0 s)
 | .h0 v8=>(lb (fun k0=>(lo fun aJ=>(lb (fun k1=>(lb (fun k2=>(lr 23 157 [1,1,0,1,0,0] 1 9 [(2,(ii 8))] (sl y8l 53 [] ⟨[],[],[some [2]],[]⟩ ⟨[],[],[]⟩ (trs 3 []) (tt k2 (tt k1 (ww aJ (tt k0 nn))))))) (fun k2=>(lo fun cC=>(lb (fun k3=>(lr 23 157 [1,1,1,0,1,1,0,0] 1 9 [(2,(ii 8))] (sl y8l 77 [] ⟨[],[],[some [2]],[]⟩ ⟨[],[],[]⟩ (bl 8 251) (tt k3 (pp (pp (xr l0) (xw cC)) (tt k2 (tt k1 (ww aJ (tt k0 nn))))))))) (fun k3=>(lo fun cD=>(lb (fun k4=>(lr 23 157 [1,1,1,0,1,1,0,0] 1 9 [(2,(ii 8))] (sl y8l 77 [] ⟨[],[],[some [2]],[]⟩ ⟨[],[],[]⟩ (bl 8 131) (tt k4 (pp (pp (xI R4 (Wo (cvT l0)).length (Zz (Wo (cvT l0)))) (pp (xr l0) (xw cD))) (tt k3 (pp (pp (xr l0) (xw cC)) (tt k2 (tt k1 (ww aJ (tt k0 nn))))))))))) (fun k4=>(lr 23 3 [1,1,1,1,0] 1 9 [(2,(ii 0))] (sl y8l 78 [] ⟨[],[],[some [2]],[]⟩ ⟨[],[],[]⟩ (bl 8 3) (tt k4 (pp (pp (xI R4 (Wo (cvT l0)).length (Zz (Wo (cvT l0)))) (pp (xr l0) (xw cD))) (tt k3 (pp (pp (xr l0) (xw cC)) (tt k2 (tt k1 (ww aJ (tt k0 nn))))))))))))))))))) (fun k1=>(sl y8l 44 [] ⟨[],[],rgcN0,rgcM0⟩ ⟨[],[],[]⟩ (bl 2 1) (tt k1 (ww aJ (tt k0 nn)))))))) (fun k0=>(lo fun aJ=>(lb (fun k1=>(lr 23 157 [1,1,1,0,1,1,0,0] 1 9 [(2,(ii 8))] (sl y8l 46 [] ⟨[],[],[some [2]],[]⟩ ⟨[],[],[]⟩ (bl 7 124) (tt k1 (pp (pp (xr l0) (xw aJ)) (tt k0 nn)))))) (fun k1=>(lo fun bX=>(lb (fun k2=>(lr 23 157 [1,1,1,0,1,1,0,0] 1 9 [(2,(ii 8))] (sl y8l 46 [] ⟨[],[],[some [2]],[]⟩ ⟨[],[],[]⟩ (bl 7 64) (tt k2 (pp (pp (xI R4 (Wo (cvT l0)).length (Zz (Wo (cvT l0)))) (pp (xr l0) (xw bX))) (tt k1 (pp (pp (xr l0) (xw aJ)) (tt k0 nn)))))))) (fun k2=>(lr 23 3 [1,1,1,1,0] 1 9 [(2,(ii 0))] (sl y8l 47 [] ⟨[],[],[some [2]],[]⟩ ⟨[],[],[]⟩ (bl 7 0) (tt k2 (pp (pp (xI R4 (Wo (cvT l0)).length (Zz (Wo (cvT l0)))) (pp (xr l0) (xw bX))) (tt k1 (pp (pp (xr l0) (xw aJ)) (tt k0 nn)))))))))))))))
theorem w0l (l0:List R4):Yt prog (Zy prog 157) (rgcC l0) (Zg prog 157 [(.dat l0.length (Zz l0))] true []) (z8o l0):=(lb (fun k0=>(lr 23 157 [1,0,1,0,0] 1 9 [(2,(ii 4))] (sl y8l 16 [] ⟨[],[],[some [2]],[]⟩ ⟨[],[],[]⟩ [true] (tt k0 nn)))) (fun k0=>(sl y8l 40 [] ⟨[],[],rgcN0,rgcM0⟩ ⟨[],[],[]⟩ [false] (tt k0 nn))))
theorem u2t (l0:List R4) (n:Nat) (vs:List AVal) (h:Zr (z3g l0) n (z8o l0)=.ret vs):Jy prog (Zy prog 157) (Zg prog 157 [(.dat l0.length (Zz l0))] true []) vs:=by have:=Zd (w9g l0) n _ (w0l l0);rwa [h] at this
def rgcF (l:List R4):Int:=bif z2p l != 0 then 8 else bif Ur (Wo l) l then 0 else 8
def y0s (l:List R4):Int:=bif decide (400<l.length) then 4 else bif l.all Uf then rgcF l else 8
def z4x (l:List R4):Bool:=true
theorem w1o (l:List R4):(Wo l).length ≤400:=by
 grind [Wo,j6j,y8o,x7e]
theorem u9q (l:List R4) (hl:l.length≤400): ∀(k i:Nat),i+k=l.length→(∀s∈l.take i,Uf s=true)→ ∃n,Zr (z3g l) n (.to (.h0 (i:Int)))=.ret (bif l.all Uf then [.int .i64 (rgcF l)] else [.int .i64 8])
 | 0,i,h,ht=>by
  have hv:l.all Uf=true:=At.2 fun s hs=>ht s (by grind);have w:Qo l=true:=An hl;refine ⟨1,?_⟩;rw [Zw,hv,Ab];have w2:We (Wo l) l=true:=An (by have:=w1o l;omega);unfold rgcF;rcases Yp (z2p l != 0) with q | q
  ·grind [z3g,Zc,Zp]
  ·rcases Yp (Ur (Wo l) l) with q2 | q2 <;>
   simp (disch:=omega) only [z3g,Zc,w,w2,q,q2,Yf,Az,AE,Ab,Aa,Zp]
 | k+1,i,h,ht=>by
  have hi:i<l.length:=by omega
  have hs:z3g l (.h0 (i:Int))=bif Uf (rd l i) then .to (.h0 ((i+1:Nat):Int)) else .ret [.int .i64 8]:=by have e:j2d (rd l i).a (rd l i).b (rd l i).c (rd l i).d =Uf (rd l i):=rfl;simp (disch:=omega) only [z3g,e,y7y,w6w,v8p,Zt,Zk,Zx,Zj,Ah,Ab,Aa]
  rcases Yp (Uf (rd l i)) with q | q
  ·obtain ⟨n,hn⟩:=u9q l hl k (i+1) (by omega) (fun s hs=>by
    rw [AY] at hs
    grind [Yo])
   refine ⟨n+1,?_⟩
   grind [Zw]
  ·have hv:l.all Uf=false:=A2.2 fun e=>by
    grind [Yo]
   refine ⟨1,?_⟩
   grind [Zw,Zp]
theorem u2s (l:List R4): ∃n,Zr (z3g l) n (z8o l)=.ret (bif decide (400<l.length) then [.int .i64 4] else bif l.all Uf then [.int .i64 (rgcF l)] else [.int .i64 8]):=by
 unfold z8o;by_cases h:400<l.length
 ·refine ⟨0,?_⟩;rw [An h,Xv (show (l.length:Int)>400 by omega)];rfl
 ·obtain ⟨n,hn⟩:=u9q l (by omega) l.length 0 (Af _) (fun s hs=>by simp at hs)
  grind
theorem j5d (l:List R4) (h:z4x l=true): ∃n,Zr (z3g l) n (z8o l)=.ret [.int .i64 (y0s l)]:=by
 obtain ⟨n,hn⟩:=u2s l
 grind [y0s]
def fRgc :List AVal→Option (AVal×Bool)
 | [a0]=>match asL R4 a0 with
  | some (L0,g0,n0)=>some (.int .i64 (y0s L0),isT R4 n0 g0&&(z4x L0))
  | _=>none
 | _=>none
theorem j7z {S:Specs} (hS:Zu prog S):Zu prog (S.with w5u fRgc):=by
 refine z0f hS (by kernel_rfl) fun args v h=> ?_;unfold fRgc at h;split at h
 ·rename_i a0;split at h
  ·rename_i L0 g0 n0 e0;simp only [Ad,Ac,Ae] at h;obtain ⟨rfl,ho0,hw⟩:=h;obtain ⟨N,hN⟩:=j5d L0 hw;exact ⟨_,_,(.cons (Yh e0 ho0) .nil),rfl,u2t L0 N _ hN,3,rfl⟩
  ·cases h
 ·cases h
def Uc :Specs:=(Ub.with w5u fRgc)
theorem Ks :Zu prog Uc:=(j7z y8l)
inductive rgjS where
 | h0 (v16:Int) (aC:List Int)
 | h1 (v16:Int) (aC:List Int)
 | h2 (v4:Int) (aK:List R4) (aY:List R2) (bI:Int) (bJ:Int) (aI:Nat) (aL:List Int)
 | h3 (v4:Int) (v38:Int) (aK:List R4) (aY:List R2) (bI:Int) (bJ:Int) (aI:Nat) (aL:List Int) (aF:Int) (bE:Int) (aB:List R2)
 | h4 (v4:Int) (v38:Int) (aK:List R4) (aY:List R2) (bI:Int) (bJ:Int) (aI:Nat) (aL:List Int) (aF:Int) (bE:Int) (aB:List R2) (aG:List R2)
 | h5 (v1:Int) (v2:Int) (v71:List R2) (v72:Int) (v73:Int) (bF:Int) (aD:List R4) (bG:Int) (aI:Nat) (aL:List Int) (aF:List R2) (bE:List R2)
 | h6 (v2:Int) (v8:Int) (cZ:Int) (dA:List R2) (bF:Int) (aD:List R4) (bL:List R2) (bG:Int) (bW:Int) (bR:Nat) (bY:List Int) (aB:List R2) (aG:List R2)
def y6i (q:Op) (l0:List R4) (l1:List R4):AFr:=⟨⟨11,0,true⟩,(Vm prog (nRg q) [1,0] 2),(Zb prog (nRg q) [1,0] 1),none,(Zy prog 16),Yg [(6,(.dat l0.length (Zz l0))),(7,(.dat l1.length (Zz l1)))]⟩
abbrev x0o (aD:List R4) (v8:Int) (v2:Int):=(aD.set (0+(tn v8)) (R4.mk (rd aD (0+(tn v8))).a (rd aD (0+(tn v8))).b v2 (rd aD (0+(tn v8))).d))
def v5c :=(y2m [(0,⟨.ready,none,49,Yg [(5,(.ptr 1 0)),(6,(.ptr 2 0)),(7,(.ptr 3 0)),(9,(.ptr 4 0))],[23],(Wt prog 84 [1,1,1,0,1,0,0]),(Wt prog 84 [1,1,1,0,1,0,1])⟩)])
abbrev x0n (aC:List Int):=(Wu (Yu aC.length (cOf (Zz (Xp (Yu aC.length (cOf (Zz aC))))))))
def v5b :AFr:=⟨⟨49,0,true⟩,none,(.inRangeFunc 0::(Zb prog 84 [1,1,1,0,1,0] 1)),none,(Zy prog 84),Yg [(6,(.ptr 2 0)),(7,(.ptr 3 0)),(9,(.ptr 4 0))]⟩
def y6h (l0:List R4) (l1:List R4):ABlk:=⟨[(.dat l0.length (Zz l0)),(.dat l1.length (Zz l1))],81,none⟩
def u9p :AFr:=⟨⟨49,0,true⟩,(Vm prog 84 [1,1,1,0,0] 3),(Zb prog 84 [1,1,1,0,0] 1),none,(Zy prog 84),Yg [(5,(.ptr 3 0)),(6,(.ptr 4 0)),(7,(.ptr 5 0)),(9,(.ptr 6 0)),(21,(.sl 1 0 2 (.un 1)))]⟩
abbrev x0m (aB:List R2) (l0:List R4) (v38:Int):=(aB++[(R2.mk (rd l0 (tn v38)).b (rd l0 (tn v38)).d)])
abbrev x0l (aG:List R2) (l1:List R4) (v38:Int):=(aG++[(R2.mk (rd l1 (tn v38)).b (rd l1 (tn v38)).d)])
def y6g (q:Op):ABlk:=⟨[(.fn (nSp q) [])],123,none⟩
abbrev y0r (aD:List R4) (v1:Int) (v71:List R2) (v73:Int) (v2:Int):=(aD++[(R4.mk v1 (rd v71 (tn v73)).a v2 (rd v71 (tn v73)).b)])
abbrev y0q (aC:List Int) (l0:List R4) (v16:Int):=(aC++[(rd l0 (tn v16)).a,(rd l0 (tn v16)).c])
abbrev y0p (aC:List Int) (l1:List R4) (v16:Int):=(aC++[(rd l1 (tn v16)).a,(rd l1 (tn v16)).c])
def x3a :ABlk:=⟨[(.sl 8 0 2 (.un 1))],197,none⟩
def v5d :=(Zb prog 158 [1,0,0,1,0,0,1,0,1,0,0,1,1,0,0,1,1,0,0] 0)
def rgjC (q:Op) (l0:List R4) (l1:List R4):rgjS→Cfg
 | .h0 v16 aC=>⟨⟨34,0,true⟩,none,(Zb prog 119 [1,1,0,1,0,0,1,1,0,0,1,1,0,0] 0),none,(Zy prog 9),⟨Yg [(1,(.ptr 0 0)),(3,(.ptr 2 0)),(8,(.sl 1 0 2 (.un 1))),(9,(ii 2)),(10,(ii 0)),(14,(.dat l0.length (Zz l0))),(15,(ii (l0.length:Int))),(16,(ii v16))],Vj [⟨[(.sl 1 0 2 (.un 1))],197,none⟩,(y6h l0 l1),⟨[(.sla 7 1 0 aC.length (.un 1))],125,none⟩,(y6g q),⟨[.nils],81,none⟩,⟨[(ii 0)],24,none⟩,⟨[.nils,.nils,(ii 0),(ii 0)],157,none⟩,⟨Ym aC.length (Zz aC),3,some ⟨1,aC.length,(Zz aC)⟩⟩] 0,8,[],true⟩,[u9p,(y6i q l0 l1)],.leaf⟩
 | .h1 v16 aC=>⟨⟨34,0,true⟩,none,(Zb prog 119 [1,1,0,1,0,0,1,1,0,0,1,1,0,0] 0),none,(Zy prog 9),⟨Yg [(1,(.ptr 0 0)),(3,(.ptr 2 0)),(8,(.sl 1 0 2 (.un 1))),(9,(ii 2)),(10,(ii 1)),(14,(.dat l1.length (Zz l1))),(15,(ii (l1.length:Int))),(16,(ii v16))],Vj [⟨[(.sl 1 0 2 (.un 1))],197,none⟩,(y6h l0 l1),⟨[(.sla 7 1 0 aC.length (.un 1))],125,none⟩,(y6g q),⟨[.nils],81,none⟩,⟨[(ii 0)],24,none⟩,⟨[.nils,.nils,(ii 0),(ii 0)],157,none⟩,⟨Ym aC.length (Zz aC),3,some ⟨1,aC.length,(Zz aC)⟩⟩] 0,8,[],true⟩,[u9p,(y6i q l0 l1)],.leaf⟩
 | .h2 v4 aK aY bI bJ aI aL=>⟨⟨76,0,true⟩,none,(Zb prog 158 [1,0,0] 0),none,[],⟨Yg [(0,(.yld 0)),(1,(.ptr 5 0)),(2,(.ptr 7 0)),(4,(ii v4))],z6q [(1,(y6g q)),(2,⟨[.nils],81,none⟩),(3,⟨[(ii 0)],24,none⟩),(4,⟨[(.sla 9 4 0 aK.length (.un 4)),(.dat aY.length (Zz aY)),(ii bI),(ii bJ)],157,none⟩),(5,⟨[(.sla 6 1 0 aI (.un 1))],125,none⟩),(6,⟨Ym aL.length (Zz aL),3,some ⟨1,aL.length,(Zz aL)⟩⟩),(7,x3a),(8,(y6h l0 l1)),(9,⟨Ym aK.length (Zz aK),116,some ⟨4,aK.length,(Zz aK)⟩⟩)],10,[],true⟩,[v5b,(y6i q l0 l1)],v5c⟩
 | .h3 v4 v38 aK aY bI bJ aI aL aF bE aB=>⟨⟨76,0,true⟩,none,v5d,none,[],⟨Yg [(0,(.yld 0)),(1,(.ptr 5 0)),(2,(.ptr 7 0)),(4,(ii v4)),(5,(.ptr 9 0)),(6,(ii 0)),(29,(.sl 8 0 2 (.un 1))),(30,(ii 2)),(31,(ii 0)),(36,(.dat l0.length (Zz l0))),(37,(ii (l0.length:Int))),(38,(ii v38))],z6q [(1,(y6g q)),(2,⟨[.nils],81,none⟩),(3,⟨[(ii 0)],24,none⟩),(4,⟨[(.sla 12 4 0 aK.length (.un 4)),(.dat aY.length (Zz aY)),(ii bI),(ii bJ)],157,none⟩),(5,⟨[(.sla 6 1 0 aI (.un 1))],125,none⟩),(6,⟨Ym aL.length (Zz aL),3,some ⟨1,aL.length,(Zz aL)⟩⟩),(7,x3a),(8,(y6h l0 l1)),(9,⟨[(ii aF),(ii bE),(.sl 10 0 2 (.ex 2))],162,none⟩),(10,⟨[(.sla 11 2 0 aB.length (.un 2)),.nils],155,none⟩),(11,⟨Ym aB.length (Zz aB),176,some ⟨2,aB.length,(Zz aB)⟩⟩),(12,⟨Ym aK.length (Zz aK),116,some ⟨4,aK.length,(Zz aK)⟩⟩)],13,[],true⟩,[v5b,(y6i q l0 l1)],v5c⟩
 | .h4 v4 v38 aK aY bI bJ aI aL aF bE aB aG=>⟨⟨76,0,true⟩,none,v5d,none,[],⟨Yg [(0,(.yld 0)),(1,(.ptr 5 0)),(2,(.ptr 7 0)),(4,(ii v4)),(5,(.ptr 9 0)),(6,(ii 1)),(29,(.sl 8 0 2 (.un 1))),(30,(ii 2)),(31,(ii 1)),(36,(.dat l1.length (Zz l1))),(37,(ii (l1.length:Int))),(38,(ii v38))],z6q [(1,(y6g q)),(2,⟨[.nils],81,none⟩),(3,⟨[(ii 0)],24,none⟩),(4,⟨[(.sla 13 4 0 aK.length (.un 4)),(.dat aY.length (Zz aY)),(ii bI),(ii bJ)],157,none⟩),(5,⟨[(.sla 6 1 0 aI (.un 1))],125,none⟩),(6,⟨Ym aL.length (Zz aL),3,some ⟨1,aL.length,(Zz aL)⟩⟩),(7,x3a),(8,(y6h l0 l1)),(9,⟨[(ii aF),(ii bE),(.sl 10 0 2 (.ex 2))],162,none⟩),(10,⟨[(.sla 11 2 0 aB.length (.un 2)),(.sla 12 2 0 aG.length (.un 2))],155,none⟩),(11,⟨Ym aB.length (Zz aB),176,some ⟨2,aB.length,(Zz aB)⟩⟩),(12,⟨Ym aG.length (Zz aG),176,some ⟨2,aG.length,(Zz aG)⟩⟩),(13,⟨Ym aK.length (Zz aK),116,some ⟨4,aK.length,(Zz aK)⟩⟩)],14,[],true⟩,[v5b,(y6i q l0 l1)],v5c⟩
 | .h5 v1 v2 v71 v72 v73 bF aD bG aI aL aF bE=>⟨⟨94,0,true⟩,none,(Zb prog 120 [1,1,1,0,0] 0),none,[],⟨Yg [(0,(.ptr 0 0)),(1,(ii v1)),(2,(ii v2)),(71,(.dat v71.length (Zz v71))),(72,(ii v72)),(73,(ii v73))],z6q [(0,⟨[(.sla 10 4 0 aD.length (.un 4)),(.dat v71.length (Zz v71)),(ii bG),(ii v2)],157,none⟩),(2,(y6g q)),(3,⟨[.nils],81,none⟩),(4,⟨[(ii 0)],24,none⟩),(5,⟨[(.sla 6 1 0 aI (.un 1))],125,none⟩),(6,⟨Ym aL.length (Zz aL),3,some ⟨1,aL.length,(Zz aL)⟩⟩),(7,x3a),(8,(y6h l0 l1)),(9,⟨[(.dat aF.length (Zz aF)),(.dat bE.length (Zz bE))],155,none⟩),(10,⟨Ym aD.length (Zz aD),116,some ⟨4,aD.length,(Zz aD)⟩⟩)],11,[],true⟩,[⟨⟨49,0,true⟩,(Vm prog 84 [1,1,1,0,1,0,1,0,1,1] 5),(Zb prog 84 [1,1,1,0,1,0,1,0,1,1] 1),(some 1),[],Yg [(9,(.ptr 0 0)),(41,(ii v1)),(43,(ii v2)),(44,(.dat v71.length (Zz v71)))]⟩,⟨⟨76,0,true⟩,(Vm prog 158 [1,0,0,1,0,0,1,1,0] 2),(Zb prog 158 [1,0,0,1,0,0,1,1,0] 1),none,[],Yg [(0,(.yld 1)),(1,(.ptr 5 0)),(2,(.ptr 7 0)),(4,(ii bF)),(72,(.yld 1)),(73,(.agg [(ii v1),(ii v2),(.sl 9 0 2 (.ex 2))]))]⟩,⟨⟨49,0,true⟩,none,(.inRangeFunc 1::(Zb prog 84 [1,1,1,0,1,0] 1)),none,(Zy prog 84),Yg [(6,(.ptr 3 0)),(7,(.ptr 4 0)),(9,(.ptr 0 0))]⟩,(y6i q l0 l1)],(y2m [(1,⟨.busy,none,49,Yg [(5,(.ptr 2 0)),(6,(.ptr 3 0)),(7,(.ptr 4 0)),(9,(.ptr 0 0))],[23],(Wt prog 84 [1,1,1,0,1,0,0]),(Wt prog 84 [1,1,1,0,1,0,1])⟩)])⟩
 | .h6 v2 v8 cZ dA bF aD bL bG bW bR bY aB aG=>⟨⟨94,0,true⟩,none,(Zb prog 120 [0,1,0,0,1,0,0] 0),none,[],⟨Yg [(0,(.ptr 0 0)),(2,(ii v2)),(8,(ii v8))],z6q [(0,⟨[(.sla 1 4 0 aD.length (.un 4)),(.dat bL.length (Zz bL)),(ii bG),(ii bW)],157,none⟩),(1,⟨Ym aD.length (Zz aD),116,some ⟨4,aD.length,(Zz aD)⟩⟩),(3,(y6g q)),(4,⟨[.nils],81,none⟩),(5,⟨[(ii 0)],24,none⟩),(6,⟨[(.sla 7 1 0 bR (.un 1))],125,none⟩),(7,⟨Ym bY.length (Zz bY),3,some ⟨1,bY.length,(Zz bY)⟩⟩),(8,⟨[(.sl 9 0 2 (.un 1))],197,none⟩),(9,(y6h l0 l1)),(10,⟨[(.dat aB.length (Zz aB)),(.dat aG.length (Zz aG))],155,none⟩)],11,[],true⟩,[⟨⟨49,0,true⟩,(Vm prog 84 [1,1,1,0,1,0,1,0,1,1] 5),(Zb prog 84 [1,1,1,0,1,0,1,0,1,1] 1),(some 2),[],Yg [(9,(.ptr 0 0)),(41,(ii cZ)),(43,(ii v2)),(44,(.dat dA.length (Zz dA)))]⟩,⟨⟨76,0,true⟩,(Vm prog 158 [1,0,0,1,0,0,1,1,0] 2),(Zb prog 158 [1,0,0,1,0,0,1,1,0] 1),none,[],Yg [(0,(.yld 2)),(1,(.ptr 6 0)),(2,(.ptr 8 0)),(4,(ii bF)),(72,(.yld 2)),(73,(.agg [(ii cZ),(ii v2),(.sl 10 0 2 (.ex 2))]))]⟩,⟨⟨49,0,true⟩,none,(.inRangeFunc 2::(Zb prog 84 [1,1,1,0,1,0] 1)),none,(Zy prog 84),Yg [(6,(.ptr 4 0)),(7,(.ptr 5 0)),(9,(.ptr 0 0))]⟩,(y6i q l0 l1)],(y2m [(2,⟨.busy,none,49,Yg [(5,(.ptr 3 0)),(6,(.ptr 4 0)),(7,(.ptr 5 0)),(9,(.ptr 0 0))],[23],(Wt prog 84 [1,1,1,0,1,0,0]),(Wt prog 84 [1,1,1,0,1,0,1])⟩)])⟩
def rgjN0 :List (Option (List Nat)):=[some [1,3,8,9,10,14,15,16],some [5,6,7,9,21],some [6,7]]
def rgjM0 :List (Option (List Nat)):=[]
def rgjN1 :List (Option (List Nat)):=[some [1,3,8,9,10,14,15,16],some [5,6,7,9,21],some [6,7]]
def rgjM1 :List (Option (List Nat)):=[]
def j5b :List (Option (List Nat)):=[some [0,1,2,4],some [6,7,9],some [6,7]]
def j5c :List (Option (List Nat)):=[some [5,6,7,9],none,none,none,none,none,none,none,none,none]
def u2o :List (Option (List Nat)):=[some [0,1,2,4,5,6,29,30,31,36,37,38],some [6,7,9],some [6,7]]
def u2r :List (Option (List Nat)):=[some [5,6,7,9],none,none,none,none,none,none,none,none,none,none,none,none]
def u2n :List (Option (List Nat)):=[some [0,1,2,4,5,6,29,30,31,36,37,38],some [6,7,9],some [6,7]]
def u2q :List (Option (List Nat)):=[some [5,6,7,9],none,none,none,none,none,none,none,none,none,none,none,none,none]
def u2m :List (Option (List Nat)):=[some [0,1,2,71,72,73],some [9,41,43,44],some [0,1,2,4,72,73],some [6,7,9],some [6,7]]
def u2p :List (Option (List Nat)):=[none,some [5,6,7,9],none,none,none,none,none,none,none,none,none]
def rgjN6 :List (Option (List Nat)):=[some [0,2,8],some [9,41,43,44],some [0,1,2,4,72,73],some [6,7,9],some [6,7]]
def rgjM6 :List (Option (List Nat)):=[none,none,some [5,6,7,9],none,none,none,none,none,none,none,none]
def Xz (q:Op) (l0:List R4) (l1:List R4):rgjS→Xw rgjS
 | .h0 v16 aC=>(bif (decide (v16<(l0.length:Int))) then (bif ((decide (0≤v16∧v16<(l0.length:Int)))&&true) then (bif (Nat.beq 1 1&&((decide (0+aC.length=aC.length))&&decide ((aC.length+2+1)*(8+1)≤room))) then (.to (.h0 (wrap .i64 (v16+1)) (aC++[(rd l0 v16.toNat).a,(rd l0 v16.toNat).c]))) else .stuck) else .stuck) else (.to (.h1 0 aC)))
 | .h1 v16 aC=>(bif (decide (v16<(l1.length:Int))) then (bif ((decide (0≤v16∧v16<(l1.length:Int)))&&true) then (bif (Nat.beq 1 1&&((decide (0+aC.length=aC.length))&&decide ((aC.length+2+1)*(8+1)≤room))) then (.to (.h1 (wrap .i64 (v16+1)) (aC++[(rd l1 v16.toNat).a,(rd l1 v16.toNat).c]))) else .stuck) else .stuck) else (bif (decide (aC.length<4611686018427387904)) then (bif (decide (aC.length=aC.length)) then (.to (.h2 1 ([]:List R4) ([]:List R2) 0 0 (v1h (Yu aC.length (cOf (Zz (Xp (Yu aC.length (cOf (Zz aC)))))))) (Wu (Yu aC.length (cOf (Zz (Xp (Yu aC.length (cOf (Zz aC)))))))))) else .stuck) else .stuck))
 | .h2 v4 aK aY bI bJ aI aL=>(bif (decide (v4<((aI:Nat):Int))) then (bif ((decide (0≤(wrap .i64 (v4 - 1))∧(wrap .i64 (v4 - 1))<((aI:Nat):Int)))&&true) then (bif (decide ((0+(Int.toNat (wrap .i64 (v4 - 1))))<aL.length)) then (bif ((decide (0≤v4∧v4<((aI:Nat):Int)))&&true) then (bif (decide ((0+v4.toNat)<aL.length)) then (.to (.h3 v4 0 aK aY bI bJ aI aL (rd aL (0+(Int.toNat (wrap .i64 (v4 - 1))))) (rd aL (0+v4.toNat)) ([]:List R2))) else .stuck) else .stuck) else .stuck) else .stuck) else (bif (decide ((aK.length:Int)>400)) then (.ret [.nils,(.int .i64 4)]) else (.ret [(.dat aK.length (Zz aK)),(.int .i64 0)])))
 | .h3 v4 v38 aK aY bI bJ aI aL aF bE aB=>(bif (decide (v38<(l0.length:Int))) then (bif ((decide (0≤v38∧v38<(l0.length:Int)))&&true) then (bif (decide ((rd l0 v38.toNat).a ≤aF)) then (bif (decide (aF<(rd l0 v38.toNat).c)) then (bif (Nat.beq 2 2&&((decide (0+aB.length=aB.length))&&decide ((aB.length+1+1)*(16+1)≤room))) then (.to (.h3 v4 (wrap .i64 (v38+1)) aK aY bI bJ aI aL aF bE (aB++[(R2.mk (rd l0 v38.toNat).b (rd l0 v38.toNat).d)]))) else .stuck) else (.to (.h3 v4 (wrap .i64 (v38+1)) aK aY bI bJ aI aL aF bE aB))) else (.to (.h3 v4 (wrap .i64 (v38+1)) aK aY bI bJ aI aL aF bE aB))) else .stuck) else (.to (.h4 v4 0 aK aY bI bJ aI aL aF bE aB ([]:List R2))))
 | .h4 v4 v38 aK aY bI bJ aI aL aF bE aB aG=>(bif (decide (v38<(l1.length:Int))) then (bif ((decide (0≤v38∧v38<(l1.length:Int)))&&true) then (bif (decide ((rd l1 v38.toNat).a ≤aF)) then (bif (decide (aF<(rd l1 v38.toNat).c)) then (bif (Nat.beq 2 2&&((decide (0+aG.length=aG.length))&&decide ((aG.length+1+1)*(16+1)≤room))) then (.to (.h4 v4 (wrap .i64 (v38+1)) aK aY bI bJ aI aL aF bE aB (aG++[(R2.mk (rd l1 v38.toNat).b (rd l1 v38.toNat).d)]))) else .stuck) else (.to (.h4 v4 (wrap .i64 (v38+1)) aK aY bI bJ aI aL aF bE aB aG))) else (.to (.h4 v4 (wrap .i64 (v38+1)) aK aY bI bJ aI aL aF bE aB aG))) else .stuck) else (bif ((x2h q) (cvT aB) (cvT aG)) then (bif (((w7z q) (cvT aB) (cvT aG)) != 0) then (.ret [.nils,(.int .i64 ((w7z q) (cvT aB) (cvT aG)))]) else (bif (decide (((((z4o q) (cvT aB) (cvT aG)).length :Nat):Int)>0)) then (bif (bJ == aF) then (bif (Vs (cvT aY) (cvT ((z4o q) (cvT aB) (cvT aG)))) then (bif (Qi (cvT aY) (cvT ((z4o q) (cvT aB) (cvT aG)))) then (.to (.h6 bE bI aF ((z4o q) (cvT aB) (cvT aG)) v4 aK aY bI bJ aI aL aB aG)) else (.to (.h5 aF bE ((z4o q) (cvT aB) (cvT aG)) ((((z4o q) (cvT aB) (cvT aG)).length :Nat):Int) 0 v4 aK (aK.length:Int) aI aL aB aG))) else .stuck) else (.to (.h5 aF bE ((z4o q) (cvT aB) (cvT aG)) ((((z4o q) (cvT aB) (cvT aG)).length :Nat):Int) 0 v4 aK (aK.length:Int) aI aL aB aG))) else (.to (.h5 aF bE ((z4o q) (cvT aB) (cvT aG)) ((((z4o q) (cvT aB) (cvT aG)).length :Nat):Int) 0 v4 aK (aK.length:Int) aI aL aB aG)))) else .stuck))
 | .h5 v1 v2 v71 v72 v73 bF aD bG aI aL aF bE=>(bif (decide (v73<v72)) then (bif ((decide (0≤v73∧v73<(v71.length:Int)))&&true) then (bif (Nat.beq 4 4&&((decide (0+aD.length=aD.length))&&decide ((aD.length+1+1)*(32+1)≤room))) then (.to (.h5 v1 v2 v71 v72 (wrap .i64 (v73+1)) bF (aD++[(R4.mk v1 (rd v71 v73.toNat).a v2 (rd v71 v73.toNat).b)]) bG aI aL aF bE)) else .stuck) else .stuck) else (.to (.h2 (wrap .i64 (bF+1)) aD v71 bG v2 aI aL)))
 | .h6 v2 v8 cZ dA bF aD bL bG bW bR bY aB aG=>(bif (decide (v8<(aD.length:Int))) then (bif ((decide (0≤v8∧v8<(aD.length:Int)))&&true) then (bif (decide ((0+v8.toNat)<aD.length)) then (.to (.h6 v2 (wrap .i64 (v8+1)) cZ dA bF (aD.set (0+v8.toNat) (R4.mk (rd aD (0+v8.toNat)).a (rd aD (0+v8.toNat)).b v2 (rd aD (0+v8.toNat)).d)) bL bG bW bR bY aB aG)) else .stuck) else .stuck) else (.to (.h2 (wrap .i64 (bF+1)) aD bL bG v2 bR bY)))
def y4m (q:Op) (l0:List R4) (l1:List R4):Xw rgjS:=(bif (z4x (cvT l0)) then (bif ((y0s (cvT l0)) != 0) then (.ret [.nils,(.int .i64 (y0s (cvT l0)))]) else (bif (z4x (cvT l1)) then (bif ((y0s (cvT l1)) != 0) then (.ret [.nils,(.int .i64 (y0s (cvT l1)))]) else (.to (.h0 0 ([]:List Int)))) else .stuck)) else .stuck)
theorem w9f (q:Op) (l0:List R4) (l1:List R4): ∀s,Yt prog (Zy prog (nRg q)) (rgjC q l0 l1) (rgjC q l0 l1 s) (Xz q l0 l1 s):=by cases q <;> refine (?f: ∀q:Op,∀s,Yt prog (Zy prog (nRg q)) (rgjC q l0 l1) (rgjC q l0 l1 s) (Xz q l0 l1 s)) _ <;> exact fun q=>fun
 | .h0 v16 aC=>(lb (fun k0=>(lo fun o0=>(lo fun o1=>(sl Ks 32 [] ⟨[0,1,2,3,4,5,6,10],[],rgjN0,rgjM0⟩ ⟨[],[.keep,.keep,.cells [.len (y0q aC l0 v16).length],.keep,.keep,.keep,.keep,.rowed 1 (y0q aC l0 v16).length (Zz (y0q aC l0 v16))],[]⟩ [true] (pp (xL (aC.length+2) (y0q aC l0 v16).length) (pp (xL (aC.length+2) (y0q aC l0 v16).length) (pp (xS (aC.length+2) (Zo (Zz aC) 0 aC.length 1 [(ii (rd l0 (tn v16)).a),(ii (rd l0 (tn v16)).c)]) (Zz (y0q aC l0 v16))) (pp (pp (xF (Zo (Zz aC) 0 aC.length 1 [(ii (rd l0 (tn v16)).a),(ii (rd l0 (tn v16)).c)])) nn) (ww o1 (ww o0 (tt k0 nn))))))))))) (fun k0=>(sl Ks 36 [] ⟨(List.range 8),[],rgjN1,rgjM1⟩ ⟨[],[],[]⟩ (bl 2 2) (pp (fl aC nn) (tt k0 nn)))))
 | .h1 v16 aC=>(lb (fun k0=>(lo fun o0=>(lo fun o1=>(sl Ks 32 [] ⟨[0,1,2,3,4,5,6,10],[],rgjN1,rgjM1⟩ ⟨[],[.keep,.keep,.cells [.len (y0p aC l1 v16).length],.keep,.keep,.keep,.keep,.rowed 1 (y0p aC l1 v16).length (Zz (y0p aC l1 v16))],[]⟩ [true] (pp (xL (aC.length+2) (y0p aC l1 v16).length) (pp (xL (aC.length+2) (y0p aC l1 v16).length) (pp (xS (aC.length+2) (Zo (Zz aC) 0 aC.length 1 [(ii (rd l1 (tn v16)).a),(ii (rd l1 (tn v16)).c)]) (Zz (y0p aC l1 v16))) (pp (pp (xF (Zo (Zz aC) 0 aC.length 1 [(ii (rd l1 (tn v16)).a),(ii (rd l1 (tn v16)).c)])) nn) (ww o1 (ww o0 (tt k0 nn))))))))))) (fun k0=>(lo fun o0=>(lo fun o1=>(sl Ks 46 [(116,4,Zz ([]:List R4))] ⟨[8,3,4,5,6,2,7,0,1,9],[],j5b,j5c⟩ ⟨[],(kpB 4 [.cells [.grow 9 4,.list 0 (Zz ([]:List R2)),.keep,.keep],.keep,.rowed 1 (x0n aC).length (Zz (x0n aC)),.keep,.keep,.keep]),[]⟩ (bl 2 0) (pp (xL aC.length (x0n aC).length (by first | exact z0z _ _ | exact Uy rfl)) (pp (xS aC.length (Zz (x0n aC)) (Zz (x0n aC))) (pp (fl (x0n aC) (fl ([]:List R4) nn)) (pp (pp (xG (Nat.beq 1 1)) (pp (xG (Nat.beq 1 1)) (pp (xG (Nat.beq 0 0)) (pp (xG (decide (aC.length=aC.length))) (pp (xG (isI (Zz (Xp (Yu aC.length (cOf (Zz aC))))))) (xG (decide (aC.length<4611686018427387904)))))))) (pp (pp (xG (Nat.beq 1 1)) (pp (xG (Nat.beq 1 1)) (pp (xG (Nat.beq 0 0)) (pp (xG (decide (aC.length=aC.length))) (pp (xG (isI (Zz aC))) (xG (decide (aC.length<4611686018427387904)))))))) (tt k0 nn)))))))))))
 | .h2 v4 aK aY bI bJ aI aL=>(lb (fun k0=>(lo fun o0=>(lo fun o1=>(lo fun o2=>(lo fun o3=>(sl Ks 48 [(176,2,Zz ([]:List R2))] ⟨[0,1,2,3,4,5,6,7,8,10,11,12,9],[],u2o,u2r⟩ ⟨[],(kpB 10 [.cells [.grow 11 2,.keep],.keep,.keep]),[]⟩ (trs 3 []) (pp (fl aL (fl ([]:List R2) (fl aK nn))) (ww o3 (ww o2 (ww o1 (ww o0 (tt k0 nn)))))))))))) (fun k0=>(lb (fun k1=>(lr 11 3 [1,1,1,1,0] 1 16 [(4,.nils),(5,(ii 4))] (sl Ks 49 [] ⟨[],[],[some [4,5]],[]⟩ ⟨[],[],[]⟩ (bl 2 2) (tt k1 (tt k0 nn))))) (fun k1=>(lr 11 3 [1,1,1,1,0] 1 16 [(4,(.dat aK.length (Zz aK))),(5,(ii 0))] (sl Ks 54 [] ⟨[],[9],[some [4,5]],[]⟩ ⟨[(4,.frz aK.length aK.length (Zz aK) (Zz aK))],[],[]⟩ (bl 2 0) (pp (xZ (z6e 4 4 0 aK.length aK.length (Zz aK)) aK.length (Zz aK)) (pp (xL aK.length aK.length) (pp (xS aK.length (Zz aK) (Zz aK)) (pp (fl aK nn) (tt k1 (tt k0 nn))))))))))))
 | .h3 v4 v38 aK aY bI bJ aI aL aF bE aB=>(lb (fun k0=>(lo fun aJ=>(lb (fun k1=>(lb (fun k2=>(lo fun o0=>(sl Ks 39 [] ⟨[0,1,2,3,4,5,6,7,8,9,10,15,12],[],u2o,u2r⟩ ⟨[],(kpB 10 [.cells [.len (x0m aB l0 v38).length,.keep],.rowed 2 (x0m aB l0 v38).length (Zz (x0m aB l0 v38)),.keep]),[]⟩ (trs 7 []) (pp (xL (aB.length+1) (x0m aB l0 v38).length) (pp (xL (aB.length+1) (x0m aB l0 v38).length) (pp (xS (aB.length+1) (Zo (Zz aB) 0 aB.length 2 [(ii (rd l0 (tn v38)).b),(ii (rd l0 (tn v38)).d)]) (Zz (x0m aB l0 v38))) (pp (fl aL (pp (xF (Zo (Zz aB) 0 aB.length 2 [(ii (rd l0 (tn v38)).b),(ii (rd l0 (tn v38)).d)])) (fl aK nn))) (ww o0 (tt k2 (tt k1 (ww aJ (tt k0 nn)))))))))))) (fun k2=>(sl Ks 39 [] ⟨(List.range 13),[],u2o,u2r⟩ ⟨[],[],[]⟩ (trs 6 [false]) (pp (fl aL (fl aB (fl aK nn))) (tt k2 (tt k1 (ww aJ (tt k0 nn))))))))) (fun k1=>(sl Ks 39 [] ⟨(List.range 13),[],u2o,u2r⟩ ⟨[],[],[]⟩ (bl 7 1) (pp (fl aL (fl aB (fl aK nn))) (tt k1 (ww aJ (tt k0 nn))))))))) (fun k0=>(sl Ks 38 [(176,2,Zz ([]:List R2))] ⟨[0,1,2,3,4,5,6,7,8,9,10,11,13,12],[],u2n,u2q⟩ ⟨[],(kpB 10 [.cells [.keep,.grow 12 2],.keep,.keep,.keep]),[]⟩ (bl 2 2) (pp (fl aL (fl aB (fl ([]:List R2) (fl aK nn)))) (tt k0 nn)))))
 | .h4 v4 v38 aK aY bI bJ aI aL aF bE aB aG=>(lb (fun k0=>(lo fun aJ=>(lb (fun k1=>(lb (fun k2=>(lo fun o0=>(sl Ks 39 [] ⟨[0,1,2,3,4,5,6,7,8,9,10,11,16,13],[],u2n,u2q⟩ ⟨[],(kpB 10 [.cells [.keep,.len (x0l aG l1 v38).length],.keep,.rowed 2 (x0l aG l1 v38).length (Zz (x0l aG l1 v38)),.keep]),[]⟩ (trs 7 []) (pp (xL (aG.length+1) (x0l aG l1 v38).length) (pp (xL (aG.length+1) (x0l aG l1 v38).length) (pp (xS (aG.length+1) (Zo (Zz aG) 0 aG.length 2 [(ii (rd l1 (tn v38)).b),(ii (rd l1 (tn v38)).d)]) (Zz (x0l aG l1 v38))) (pp (fl aL (fl aB (pp (xF (Zo (Zz aG) 0 aG.length 2 [(ii (rd l1 (tn v38)).b),(ii (rd l1 (tn v38)).d)])) (fl aK nn)))) (ww o0 (tt k2 (tt k1 (ww aJ (tt k0 nn)))))))))))) (fun k2=>(sl Ks 39 [] ⟨(List.range 14),[],u2n,u2q⟩ ⟨[],[],[]⟩ (trs 6 [false]) (pp (fl aL (fl aB (fl aG (fl aK nn)))) (tt k2 (tt k1 (ww aJ (tt k0 nn))))))))) (fun k1=>(sl Ks 39 [] ⟨(List.range 14),[],u2n,u2q⟩ ⟨[],[],[]⟩ (bl 7 1) (pp (fl aL (fl aB (fl aG (fl aK nn)))) (tt k1 (ww aJ (tt k0 nn))))))))) (fun k0=>(Xa (sl Ks (C':=⟨⟨49,0,true⟩,none,(Zb prog 84 [1,1,1,0,1,0,1,0,0] 0),(some 0),[],⟨Yg [(5,(.ptr 1 0)),(6,(.ptr 2 0)),(7,(.ptr 3 0)),(9,(.ptr 4 0)),(10,(.ptr 6 0))],z6q [(1,⟨[(.fn (nSp q) [])],123,none⟩),(2,⟨[.nils],81,none⟩),(3,⟨[(ii 0)],24,none⟩),(4,⟨[(.sla 5 4 0 aK.length (.un 4)),(.dat aY.length (Zz aY)),(ii bI),(ii bJ)],157,none⟩),(5,⟨Ym aK.length (Zz aK),116,some ⟨4,aK.length,(Zz aK)⟩⟩),(6,⟨[(ii aF),(ii bE),(.sl 7 0 2 (.ex 2))],162,none⟩),(7,⟨[(.dat aB.length (Zz aB)),(.dat aG.length (Zz aG))],155,none⟩),(8,⟨[(.sla 9 1 0 aI (.un 1))],125,none⟩),(9,⟨Ym aL.length (Zz aL),3,some ⟨1,aL.length,(Zz aL)⟩⟩),(10,⟨[(.sl 11 0 2 (.un 1))],197,none⟩),(11,⟨[(.dat l0.length (Zz l0)),(.dat l1.length (Zz l1))],81,none⟩)],12,[],true⟩,[⟨⟨76,0,true⟩,(Vm prog 158 [1,0,0,1,0,0,1,1,0] 2),(Zb prog 158 [1,0,0,1,0,0,1,1,0] 1),none,[],Yg [(0,(.yld 0)),(1,(.ptr 8 0)),(2,(.ptr 10 0)),(4,(ii v4)),(72,(.yld 0)),(73,(.agg [(ii aF),(ii bE),(.sl 7 0 2 (.ex 2))]))]⟩,⟨⟨49,0,true⟩,none,(.inRangeFunc 0::(Zb prog 84 [1,1,1,0,1,0] 1)),none,(Zy prog 84),Yg [(6,(.ptr 2 0)),(7,(.ptr 3 0)),(9,(.ptr 4 0))]⟩,⟨⟨11,0,true⟩,(Vm prog (nRg q) [1,0] 2),(Zb prog (nRg q) [1,0] 1),none,(Zy prog 16),Yg [(6,(.dat l0.length (Zz l0))),(7,(.dat l1.length (Zz l1)))]⟩],(y2m [(0,⟨.busy,none,49,Yg [(5,(.ptr 1 0)),(6,(.ptr 2 0)),(7,(.ptr 3 0)),(9,(.ptr 4 0))],[23],(Wt prog 84 [1,1,1,0,1,0,0]),(Wt prog 84 [1,1,1,0,1,0,1])⟩)])⟩) 32 [] ⟨[0,1,2,3,4,13,14,10,5,6,7,8],[11,12],[some [5,6,7,9,10],some [0,1,2,4,72,73],some [6,7,9],some [6,7]],[some [5,6,7,9],none,none,none,none,none,none,none,none,none,none,none]⟩ ⟨[],[.keep,.keep,.keep,.keep,.keep,.keep,.keep,.cells [.frz aB.length aB.length (Zz aB) (Zz aB),.frz aG.length aG.length (Zz aG) (Zz aG)],.keep,.keep,.keep,.keep],[]⟩ (bl 2 0) (pp (xZ (z6e 2 2 0 aB.length aB.length (Zz aB)) aB.length (Zz aB)) (pp (xL aB.length aB.length) (pp (xS aB.length (Zz aB) (Zz aB)) (pp (xZ (z6e 2 2 0 aG.length aG.length (Zz aG)) aG.length (Zz aG)) (pp (xL aG.length aG.length) (pp (xS aG.length (Zz aG) (Zz aG)) (pp (fl aK (fl aL nn)) (pp (fl aB (fl aG nn)) (tt k0 nn)))))))))) (lo fun aJ=>(lb (fun k1=>(lr 11 3 [1,1,1,1,0] 1 16 [(4,.nils),(5,(ii ((w7z q) (cvT aB) (cvT aG))))] (sl Ks 26 [] ⟨[],[],[some [4,5]],[]⟩ ⟨[],[],[]⟩ (bl 2 3) (tt k1 (pp (pp (xr aB) (pp (xr aG) (xw aJ))) nn))))) (fun k1=>(lb (fun k2=>(lb (fun k3=>(lo fun cD=>(lb (fun k4=>(sl Ks 51 [] ⟨[4,5,0,1,2,3,8,9,10,11,7],[],rgjN6,rgjM6⟩ ⟨[],[],[]⟩ (bl 14 16382) (pp (fl aK (fl aL nn)) (tt k4 (pp (pp (xr aY) (pp (xI R2 ((z4o q) (cvT aB) (cvT aG)).length (Zz ((z4o q) (cvT aB) (cvT aG)))) (xw cD))) (tt k3 (tt k2 (tt k1 (pp (pp (xr aB) (pp (xr aG) (xw aJ))) nn))))))))) (fun k4=>(sl Ks 71 [] ⟨[4,0,1,2,3,8,9,10,11,7,5],[],u2m,u2p⟩ ⟨[],[],[]⟩ (bl 14 8190) (pp (fl aL (fl aK nn)) (tt k4 (pp (pp (xr aY) (pp (xI R2 ((z4o q) (cvT aB) (cvT aG)).length (Zz ((z4o q) (cvT aB) (cvT aG)))) (xw cD))) (tt k3 (tt k2 (tt k1 (pp (pp (xr aB) (pp (xr aG) (xw aJ))) nn)))))))))))) (fun k3=>(sl Ks 71 [] ⟨[4,0,1,2,3,8,9,10,11,7,5],[],u2m,u2p⟩ ⟨[],[],[]⟩ (bl 14 126) (pp (fl aL (fl aK nn)) (tt k3 (tt k2 (tt k1 (pp (pp (xr aB) (pp (xr aG) (xw aJ))) nn))))))))) (fun k2=>(sl Ks 71 [] ⟨[4,0,1,2,3,8,9,10,11,7,5],[],u2m,u2p⟩ ⟨[],[],[]⟩ (bl 14 0) (pp (fl aL (fl aK nn)) (tt k2 (tt k1 (pp (pp (xr aB) (pp (xr aG) (xw aJ))) nn)))))))))))))
 | .h5 v1 v2 v71 v72 v73 bF aD bG aI aL aF bE=>(lb (fun k0=>(lo fun o0=>(lo fun o1=>(sl Ks 23 [] ⟨[0,1,2,3,4,5,6,7,8,9,13],[],u2m,u2p⟩ ⟨[],[.cells [.len (y0r aD v1 v71 v73 v2).length,.keep,.keep,.keep],.keep,.keep,.keep,.keep,.keep,.keep,.keep,.keep,.keep,.rowed 4 (y0r aD v1 v71 v73 v2).length (Zz (y0r aD v1 v71 v73 v2))],[]⟩ [true] (pp (xL (aD.length+1) (y0r aD v1 v71 v73 v2).length) (pp (xL (aD.length+1) (y0r aD v1 v71 v73 v2).length) (pp (xS (aD.length+1) (Zo (Zz aD) 0 aD.length 4 [(ii v1),(ii (rd v71 (tn v73)).a),(ii v2),(ii (rd v71 (tn v73)).b)]) (Zz (y0r aD v1 v71 v73 v2))) (pp (fl aL (pp (xF (Zo (Zz aD) 0 aD.length 4 [(ii v1),(ii (rd v71 (tn v73)).a),(ii v2),(ii (rd v71 (tn v73)).b)])) nn)) (ww o1 (ww o0 (tt k0 nn))))))))))) (fun k0=>(sl Ks 22 [] ⟨[1,2,3,4,0,5,6,7,8,10],[],j5b,j5c⟩ ⟨[],[],[]⟩ (bl 2 0) (pp (fl aL (fl aD nn)) (tt k0 nn)))))
 | .h6 v2 v8 cZ dA bF aD bL bG bW bR bY aB aG=>(lb (fun k0=>(lo fun o0=>(lo fun o1=>(sl Ks 33 [] ⟨(List.range 11),[],rgjN6,rgjM6⟩ ⟨[],[.cells [.len (x0o aD v8 v2).length,.keep,.keep,.keep],.rowed 4 (x0o aD v8 v2).length (Zz (x0o aD v8 v2)),.keep,.keep,.keep,.keep,.keep,.keep,.keep,.keep,.keep],[]⟩ [true] (pp (xL aD.length (x0o aD v8 v2).length) (pp (xL aD.length (x0o aD v8 v2).length) (pp (xS aD.length (Xt (Zz aD) (0+(tn v8)) 2 [(ii v2)]) (Zz (x0o aD v8 v2))) (pp (pp (xF (Xt (Zz aD) (0+(tn v8)) 2 [(ii v2)])) (fl bY nn)) (ww o1 (ww o0 (tt k0 nn))))))))))) (fun k0=>(sl Ks 36 [] ⟨[2,3,4,5,0,6,7,8,9,1],[],j5b,j5c⟩ ⟨[],[],[]⟩ (bl 2 0) (pp (fl bY (fl aD nn)) (tt k0 nn)))))
theorem w0k (q:Op) (l0:List R4) (l1:List R4):Yt prog (Zy prog (nRg q)) (rgjC q l0 l1) (Zg prog (nRg q) [(.dat l0.length (Zz l0)),(.dat l1.length (Zz l1))] true []) (y4m q l0 l1):=by cases q <;> exact (lo fun bV=>(lb (fun k0=>(lr 11 3 [1,1,1,1,0] 1 16 [(4,.nils),(5,(ii (y0s (cvT l0))))] (sl Ks 65 [] ⟨[],[],[some [4,5]],[]⟩ ⟨[],[],[]⟩ [true,true] (tt k0 (tt k0 (pp (pp (xr l0) (xw bV)) nn)))))) (fun k0=>(lo fun aJ=>(lb (fun k1=>(lr 11 3 [1,1,1,1,0] 1 16 [(4,.nils),(5,(ii (y0s (cvT l1))))] (sl Ks 67 [] ⟨[],[],[some [4,5]],[]⟩ ⟨[],[],[]⟩ [false,true] (tt k1 (pp (pp (xr l1) (xw aJ)) (tt k0 (pp (pp (xr l0) (xw bV)) nn))))))) (fun k1=>(sl Ks 108 [(3,1,Zz ([]:List Int))] ⟨[5,4,6,0,1,2,3,7],[],rgjN0,rgjM0⟩ ⟨[],[.keep,.keep,.cells [.grow 7 1],.keep,.keep,.keep,.keep,.keep],[]⟩ [false,false,true] (pp (fl ([]:List Int) nn) (tt k1 (pp (pp (xr l1) (xw aJ)) (tt k0 (pp (pp (xr l0) (xw bV)) nn))))))))))))
theorem u2l (q:Op) (l0:List R4) (l1:List R4) (n:Nat) (vs:List AVal) (h:Zr (Xz q l0 l1) n (y4m q l0 l1)=.ret vs):Jy prog (Zy prog (nRg q)) (Zg prog (nRg q) [(.dat l0.length (Zz l0)),(.dat l1.length (Zz l1))] true []) vs:=by have:=Zd (w9f q l0 l1) n _ (w0k q l0 l1);rwa [h] at this
def y7o (E:Int→Int) (cs:List Int):Nat→Nat→Int
 | 0,_=>0
 | k+1,i=>bif E (rd cs i) != 0 then E (rd cs i) else y7o E cs k (i+1)
def eJ (e:Int) (n:Nat):Int:=bif e != 0 then e else x7e n
theorem w5i {α:Type} [Xq α] (L:List α):z7y (eJ 0 L.length) L=z1w L:=(y7u L).symm
theorem z6h {n:Nat} (h:x7e n=0):n≤400:=by
 grind [x7e]
theorem x6w {α:Type} {e:Int} (L:List α) (h:(e != 0)=false):y8o e L=L:=by unfold y8o;rw [h];rfl
def rgS (q:Op) (a b:List R4) (x:Int):List R2:=spJ q.k (D4.inn a x) (D4.inn b x)
def rgA (q:Op) (a b:List R4) (x:Int):Int:=spE q.k (D4.inn a x) (D4.inn b x)
theorem j5e (q:Op) (a b:List R4) (x:Int) (h:(rgA q a b x != 0)=false):(rgS q a b x).length ≤1000:=by
 have h:rgA q a b x=0:=by simpa using h
 unfold rgA spE at h;cases g1:(x0g (D4.inn a x) != 0) with
 | true=>grind
 | false=>
  cases g2:(x0g (D4.inn b x) != 0) with
  | true=>grind
  | false=>rw [g1,g2,Aa,Aa] at h;exact Av (z6h h) (by omega)
section
variable (q:Op) (a b:List R4) (ha:a.length≤400) (hb:b.length≤400)
include ha hb
theorem u9m (i:Nat) (out:List R4) (last:List R2) (first fin x x':Int): ∀(k j:Nat) (acc:List R2),j+k=a.length→acc.length≤j→
  ∃n,∀N,Zr (Xz q a b) (N+n) (.to (.h3 (i:Int) (j:Int) out last first fin ((D4.cuts (a++b)).length) (Wu (Xp (D4.ends (a++b)))) x x' acc))=Zr (Xz q a b) N (.to (.h4 (i:Int) 0 out last first fin ((D4.cuts (a++b)).length) (Wu (Xp (D4.ends (a++b)))) x x' (acc++D4.inn (a.drop j) x) []))
 | 0,j,acc,h,h'=>by
  have _u:=ha;have _v:=hb;refine ⟨1,fun N=> ?_⟩;rw [Ar (by omega),show D4.inn ([]:List R4) x=[] from rfl,AD,Zw]
  grind [Xz]
 | k+1,j,acc,h,h'=>by
  have hj:j<a.length:=by omega
  obtain ⟨n,hn⟩:=u9m i out last first fin x x' k (j+1) (acc++D4.inn [rd a j] x) (by omega) (by have:=D4.inn_length [rd a j] x;grind)
  refine ⟨n+1,fun N=> ?_⟩;have e:D4.inn (a.drop j) x=D4.inn [rd a j] x++D4.inn (a.drop (j+1)) x:=by rw [Yq hj,←D4.inn_append];rfl
  rw [e,←Ay,Zw,←AJ,←hn N];by_cases h1:D4.lo (rd a j)≤x
  ·by_cases h2:x<D4.hi (rd a j)
   ·rw [D4.inn_t _ _ h1 h2];simp only [D4] at h1 h2 ⊢;simp (disch:=omega) only [Xz,Xs,Zc,Zq,Yz,Zt,Yc,Yv,Yj,Zf,Zk,Zx,Yd,Zj,Af,Ao,Ah,Aj,Ab,Aa]
   ·rw [D4.inn_f2 _ _ h2,AD];simp only [D4] at h1 h2;simp (disch:=omega) only [Xz,Xs,Yf,Zc,Zq,Yz,Zt,Yc,Yv,Yj,Zf,Zk,Zx,Yd,Zj,Af,Ao,Ah,Aj,Ab,Aa]
  ·rw [D4.inn_f1 _ _ h1,AD];simp only [D4] at h1;simp (disch:=omega) only [Xz,w3b,Zc,Zq,Yz,Zt,Yc,Yv,Yj,Zf,Zk,Zx,Yd,Zj,Af,Ao,Ah,Aj,Ab,Aa]
theorem u9l (i:Nat) (out:List R4) (last:List R2) (first fin x x':Int) (o1:List R2): ∀(k j:Nat) (acc:List R2),j+k=b.length→acc.length≤j→
  ∃n,∀N,Zr (Xz q a b) (N+n) (.to (.h4 (i:Int) (j:Int) out last first fin ((D4.cuts (a++b)).length) (Wu (Xp (D4.ends (a++b)))) x x' o1 acc))=Zr (Xz q a b) N (.to (.h4 (i:Int) (b.length:Int) out last first fin ((D4.cuts (a++b)).length) (Wu (Xp (D4.ends (a++b)))) x x' o1 (acc++D4.inn (b.drop j) x)))
 | 0,j,acc,h,h'=>by have _u:=ha;have _v:=hb;refine ⟨0,fun N=> ?_⟩;rw [Ar (by omega),show D4.inn ([]:List R4) x=[] from rfl,AD,Bl,show j=b.length by omega]
 | k+1,j,acc,h,h'=>by
  have hj:j<b.length:=by omega
  obtain ⟨n,hn⟩:=u9l i out last first fin x x' o1 k (j+1) (acc++D4.inn [rd b j] x) (by omega) (by have:=D4.inn_length [rd b j] x;grind)
  refine ⟨n+1,fun N=> ?_⟩;have e:D4.inn (b.drop j) x=D4.inn [rd b j] x++D4.inn (b.drop (j+1)) x:=by rw [Yq hj,←D4.inn_append];rfl
  rw [e,←Ay,Zw,←AJ,←hn N];by_cases h1:D4.lo (rd b j)≤x
  ·by_cases h2:x<D4.hi (rd b j)
   ·rw [D4.inn_t _ _ h1 h2];simp only [D4] at h1 h2 ⊢;simp (disch:=omega) only [Xz,Xs,Zc,Zq,Yz,Zt,Yc,Yv,Yj,Zf,Zk,Zx,Yd,Zj,Af,Ao,Ah,Aj,Ab,Aa]
   ·rw [D4.inn_f2 _ _ h2,AD];simp only [D4] at h1 h2;simp (disch:=omega) only [Xz,Xs,Yf,Zc,Zq,Yz,Zt,Yc,Yv,Yj,Zf,Zk,Zx,Yd,Zj,Af,Ao,Ah,Aj,Ab,Aa]
  ·rw [D4.inn_f1 _ _ h1,AD];simp only [D4] at h1;simp (disch:=omega) only [Xz,w3b,Zc,Zq,Yz,Zt,Yc,Yv,Yj,Zf,Zk,Zx,Yd,Zj,Af,Ao,Ah,Aj,Ab,Aa]
theorem u9k (i:Nat) (hi:i≤2000) (x x':Int) (s:List R2) (first:Int) (o1 o2:List R2) (hs:s.length≤1000): ∀(k j:Nat) (out:List R4),j+k=s.length→out.length≤10000000+j→
  ∃n,∀N,Zr (Xz q a b) (N+n) (.to (.h5 x x' s (s.length:Int) (j:Int) (i:Int) out first ((D4.cuts (a++b)).length) (Wu (Xp (D4.ends (a++b)))) o1 o2))=Zr (Xz q a b) N (.to (.h2 ((i+1:Nat):Int) (out++(s.drop j).map (D4.put x x')) s first x' ((D4.cuts (a++b)).length) (Wu (Xp (D4.ends (a++b))))))
 | 0,j,out,h,ho=>by
  have _u:=ha;have _v:=hb;refine ⟨1,fun N=> ?_⟩
  grind [Zw,Xz,Zk]
 | k+1,j,out,h,ho=>by
  obtain ⟨n,hn⟩:=u9k i hi x x' s first o1 o2 hs k (j+1) (out++[D4.put x x' (rd s j)]) (by omega) (by simp;omega)
  refine ⟨n+1,fun N=> ?_⟩;have:=hn N;rw [Yq (show j<s.length by omega),AU,←Ay,Zw];simp (disch:=omega) only [Xz,Zc,Zq,Yz,Zt,Yc,Yv,Yj,Zf,Zk,Zx,Yd,Zj,Af,Ao,Ah,Aj,Ab,Aa];rw [AJ] at this;exact this
theorem u9j (i:Nat) (hi:i≤2000) (x x' fin:Int) (s last:List R2) (first:Int) (o1 o2:List R2): ∀(k j:Nat) (out:List R4),j+k=out.length→out.length≤10000000→
  ∃n,∀N,Zr (Xz q a b) (N+n) (.to (.h6 x' (j:Int) x s (i:Int) out last first fin ((D4.cuts (a++b)).length) (Wu (Xp (D4.ends (a++b)))) o1 o2))=Zr (Xz q a b) N (.to (.h2 ((i+1:Nat):Int) (D4.grow out j x') last first x' ((D4.cuts (a++b)).length) (Wu (Xp (D4.ends (a++b))))))
 | 0,j,out,h,ho=>by
  have _u:=ha;have _v:=hb;refine ⟨1,fun N=> ?_⟩;rw [D4.grow_nil _ _ _ (by omega),Zw]
  grind [Xz,Zk]
 | k+1,j,out,h,ho=>by
  obtain ⟨n,hn⟩:=u9j i hi x x' fin s last first o1 o2 k (j+1) (out.set j (D4.ext x' (rd out j))) (by simp;omega) (by grind)
  refine ⟨n+1,fun N=> ?_⟩;have:=hn N;rw [D4.grow_set out j _ (by omega)] at this;rw [←Ay,Zw];simp (disch:=omega) only [Xz,Zc,Zq,Yz,Zt,Yc,Yv,Yj,Zf,Zk,Zx,Yd,Zj,Af,Ao,Ah,Aj,Ab,Aa];exact this
theorem v5a : ∀(k i:Nat) (s:Sw R4 R2),k=(D4.cuts (a++b)).length - 1 - i→i≤(D4.cuts (a++b)).length →s.out.length≤i*1000→s.last.length≤1000→s.first≤s.out.length→
  ∃n,Zr (Xz q a b) n (.to (.h2 ((i+1:Nat):Int) s.out s.last (s.first:Int) s.fin ((D4.cuts (a++b)).length) (Wu (Xp (D4.ends (a++b))))))=.ret (z7y (eJ (y7o (rgA q a b) (D4.cuts (a++b)) k i) (D4.goS (rgS q a b) (D4.cuts (a++b)) k i s).out.length) (D4.goS (rgS q a b) (D4.cuts (a++b)) k i s).out)
 | 0,i,s,h,hi,ho,hla,hf=>by
  have _u:=ha;have _v:=hb;have hc:=D4.cuts_length (a++b);refine ⟨1,?_⟩;rw [Zw,show D4.goS (rgS q a b) (D4.cuts (a++b)) 0 i s=s from rfl,show y7o (rgA q a b) (D4.cuts (a++b)) 0 i=0 from rfl,w5i]
  grind [z1w,Xz,Zp]
 | k +1,i,s,h,hi,ho,hla,hf=>by
  have hc:=D4.cuts_length (a++b);rw [AH] at hc;have hi1:i+1<(D4.cuts (a++b)).length :=by omega
  have hpl:(Wu (Xp (D4.ends (a++b)))).length =2*(a.length+b.length):=by rw [Vf,Vy,D4.ends_length,AH]
  have r0:rd (Wu (Xp (D4.ends (a++b)))) i=rd (D4.cuts (a++b)) i:=z5a _ _ (by show i<(D4.cuts (a++b)).length;omega);have r1:rd (Wu (Xp (D4.ends (a++b)))) (i+1)=rd (D4.cuts (a++b)) (i+1):=z5a _ _ (by show i+1<(D4.cuts (a++b)).length;omega);have hbig:i*1000≤2000*1000:=AA _ (by omega);have hgo:D4.goS (rgS q a b) (D4.cuts (a++b)) (k+1) i s=D4.goS (rgS q a b) (D4.cuts (a++b)) k (i+1) (D4.oneS (rgS q a b (rd (D4.cuts (a++b)) i)) (rd (D4.cuts (a++b)) i) (rd (D4.cuts (a++b)) (i+1)) s):=rfl;have hfe: ∀x,x=rd (D4.cuts (a++b)) i→(rgA q a b x != 0)=false→y7o (rgA q a b) (D4.cuts (a++b)) (k+1) i=y7o (rgA q a b) (D4.cuts (a++b)) k (i+1):=fun x hx z=>by
   show (bif rgA q a b (rd (D4.cuts (a++b)) i) != 0 then _ else _)=_
   grind
  revert hgo hfe r0;generalize hx:rd (D4.cuts (a++b)) i=x;generalize hx':rd (D4.cuts (a++b)) (i+1)=x' at r1;intro r0 hgo hfe;obtain ⟨n3,h3⟩:=u9m q a b ha hb (i+1) s.out s.last (s.first:Int) s.fin x x' a.length 0 [] (Af _) (Aq _);simp only [AT,A8,z7u] at h3;obtain ⟨n4,h4⟩:=u9l q a b ha hb (i+1) s.out s.last (s.first:Int) s.fin x x' (D4.inn a x) b.length 0 [] (Af _) (Aq _);simp only [AT,A8,z7u] at h4;have st0: ∀N,Zr (Xz q a b) (N+n4+n3+1) (.to (.h2 ((i+1:Nat):Int) s.out s.last (s.first:Int) s.fin ((D4.cuts (a++b)).length) (Wu (Xp (D4.ends (a++b))))))=Zr (Xz q a b) N (.to (.h4 ((i+1:Nat):Int) (b.length:Int) s.out s.last (s.first:Int) s.fin ((D4.cuts (a++b)).length) (Wu (Xp (D4.ends (a++b)))) x x' (D4.inn a x) (D4.inn b x))):=fun N=>by
   rw [←h4 N,←h3 (N+n4),Zw];have e1:wrap .i64 (((i+1:Nat):Int) - 1)=(i:Int):=by rw [Yy];exact Zk (by omega)
   simp (disch:=omega) only [Xz,e1,r0,r1,Zc,Zq,Yz,Zt,Yc,Yv,Yj,Zf,Zk,Zx,Yd,Zj,Af,Ao,Ah,Aj,Ab,Aa]
  have w1:x2h q (D4.inn a x) (D4.inn b x)=true:=rfl;have f1:z1a (Zz (D4.inn a x))=true:=Xe _;have f2:z1a (Zz (D4.inn b x))=true:=Xe _;rcases Yp (rgA q a b x != 0) with z | z
  ·have z':(w7z q (D4.inn a x) (D4.inn b x) != 0)=true:=z;refine ⟨1+n4+n3+1,?_⟩;rw [st0 1,Zw];have e:y7o (rgA q a b) (D4.cuts (a++b)) (k+1) i=rgA q a b x:=by show (bif rgA q a b (rd (D4.cuts (a++b)) i) != 0 then rgA q a b (rd (D4.cuts (a++b)) i) else _)=_;grind
   simp (disch:=omega) only [Xz,Yf,z',w1,f1,f2,Zc,Zq,Yz,Zt,Yc,Yv,Yj,Zf,Zk,Zx,Yd,Zj,Af,Ao,Ah,Aj,Ab,Aa,Zp];rw [e,show eJ (rgA q a b x) _=rgA q a b x by unfold eJ;rw [z];rfl,Uz _ z];rfl
  have z':(w7z q (D4.inn a x) (D4.inn b x) != 0)=false:=z;have v:z4o q (D4.inn a x) (D4.inn b x)=rgS q a b x:=x6w _ z;have hsl:=j5e q a b x z;have w2:Vs s.last (rgS q a b x)=true:=An (by omega);rw [hgo,hfe x rfl z];have ol:(D4.oneS (rgS q a b x) x x' s).out.length ≤s.out.length+(rgS q a b x).length :=by
   grind [Dim.oneS,Dim.grow_length]
  rcases Yp (decide (0<(rgS q a b x).length)&&((s.fin == x)&&D4.same s.last (rgS q a b x))) with g | g
  ·obtain ⟨n6,h6⟩:=u9j q a b ha hb (i+1) (by omega) x x' s.fin (rgS q a b x) s.last (s.first:Int) (D4.inn a x) (D4.inn b x) (s.out.length - s.first) s.first s.out (by omega) (by omega)
   have e:D4.oneS (rgS q a b x) x x' s=⟨D4.grow s.out s.first x',s.last,s.first,x'⟩:=by unfold Dim.oneS;rw [g];rfl
   obtain ⟨n0,h0⟩:=v5a k (i+1) (D4.oneS (rgS q a b x) x x' s) (by omega) (by omega) (by omega) (by grind) (by grind [Dim.grow_length]);refine ⟨n0+n6+1+n4+n3+1,?_⟩;rw [st0 (n0+n6+1),Zw];simp only [Ae,As] at g;obtain ⟨g1,g2,g3⟩:=g;have g3':Qi s.last (rgS q a b x)=true:=g3;simp (disch:=omega) only [Xz,Yf,Xv,z',v,g2,g3',w1,f1,f2,w2,Zc,Zq,Yz,Zt,Yc,Yv,Yj,Zf,Zk,Zx,Yd,Zj,Af,Ao,Ah,Aj,Ab,Aa]
   grind
  ·obtain ⟨n5,h5⟩:=u9k q a b ha hb (i+1) (by omega) x x' (rgS q a b x) (s.out.length:Int) (D4.inn a x) (D4.inn b x) hsl (rgS q a b x).length 0 s.out (Af _) (by omega);simp only [AT,z7u] at h5;have e:D4.oneS (rgS q a b x) x x' s=⟨s.out++(rgS q a b x).map (D4.put x x'),rgS q a b x,s.out.length,x'⟩:=by unfold Dim.oneS;rw [g];rfl
   obtain ⟨n0,h0⟩:=v5a k (i+1) (D4.oneS (rgS q a b x) x x' s) (by omega) (by omega) (by omega) (by grind) (by rw [e];simp);have hg:Zr (Xz q a b) 1 (.to (.h4 ((i+1:Nat):Int) (b.length:Int) s.out s.last (s.first:Int) s.fin ((D4.cuts (a++b)).length) (Wu (Xp (D4.ends (a++b)))) x x' (D4.inn a x) (D4.inn b x)))=.to (.h5 x x' (rgS q a b x) ((rgS q a b x).length :Int) 0 ((i+1:Nat):Int) s.out (s.out.length:Int) ((D4.cuts (a++b)).length) (Wu (Xp (D4.ends (a++b)))) (D4.inn a x) (D4.inn b x)):=by
    rw [show (1:Nat)=0+1 from rfl,Zw];have e3:D4.same s.last (rgS q a b x)=Qi s.last (rgS q a b x):=rfl;rw [e3] at g;by_cases g1:0<(rgS q a b x).length
    ·rw [An g1,Aj] at g;rcases Yp (s.fin == x) with g2 | g2
     ·rw [g2,Aj] at g;simp (disch:=omega) only [Xz,Yf,Xv,z',v,g2,g,w1,f1,f2,w2,Zc,Zq,Yz,Zt,Yc,Yv,Yj,Zf,Zk,Zx,Yd,Zj,Af,Ao,Ah,Aj,Ab,Aa];rfl
     ·simp (disch:=omega) only [Xz,Yf,Xv,z',v,g2,w1,f1,f2,w2,Zc,Zq,Yz,Zt,Yc,Yv,Yj,Zf,Zk,Zx,Yd,Zj,Af,Ao,Ah,Aj,Ab,Aa];rfl
    ·simp (disch:=omega) only [Xz,Yf,Wk,z',v,w1,f1,f2,w2,Zc,Zq,Yz,Zt,Yc,Yv,Yj,Zf,Zk,Zx,Yd,Zj,Af,Ao,Ah,Aj,Ab,Aa];rfl
   refine ⟨n0+n5+1+n4+n3+1,?_⟩;simp_all [z9h]
theorem u9n : ∀(k i:Nat) (acc:List Int),i+k=b.length→acc=D4.ends (a++b.take i)→ ∃n,Zr (Xz q a b) n (.to (.h1 (i:Int) acc))=.ret (z7y (eJ (y7o (rgA q a b) (D4.cuts (a++b)) ((D4.cuts (a++b)).length - 1) 0) (D4.goS (rgS q a b) (D4.cuts (a++b)) ((D4.cuts (a++b)).length - 1) 0 ⟨[],[],0,0⟩).out.length) (D4.goS (rgS q a b) (D4.cuts (a++b)) ((D4.cuts (a++b)).length - 1) 0 ⟨[],[],0,0⟩).out)
 | 0,i,acc,h,h'=>by
  have _u:=ha;have _v:=hb;have e:acc=D4.ends (a++b):=by grind
  subst e;have hle:=D4.ends_length (a++b);rw [AH] at hle;obtain ⟨n,hn⟩:=v5a q a b ha hb ((D4.cuts (a++b)).length - 1) 0 ⟨[],[],0,0⟩ (by omega) (AC _) (AC _) (AC _) (AC _);refine ⟨n+1,?_⟩;rw [Zw];simp (disch:=omega) only [Xz,Jj,Qv,z7t,Yf,Yv,Yj,Ao,Ab,Aa];exact hn
 | k+1,i,acc,h,h'=>by
  have hle:acc.length≤2*(400+i):=by rw [h',D4.ends_length];grind
  obtain ⟨n,hn⟩:=u9n k (i+1) (acc++D4.ends [rd b i]) (by omega) (by
   rw [h',AY]
   grind [Yo,Dim.ends])
  refine ⟨n+1,?_⟩;rw [Zw];simp (disch:=omega) only [Xz,Zc,Zq,Yz,Zt,Yc,Yv,Yj,Zf,Zk,Zx,Yd,Zj,Af,Ao,Ah,Aj,Ab,Aa];exact hn
theorem u9o : ∀(k i:Nat) (acc:List Int),i+k=a.length→acc=D4.ends (a.take i)→ ∃n,Zr (Xz q a b) n (.to (.h0 (i:Int) acc))=.ret (z7y (eJ (y7o (rgA q a b) (D4.cuts (a++b)) ((D4.cuts (a++b)).length - 1) 0) (D4.goS (rgS q a b) (D4.cuts (a++b)) ((D4.cuts (a++b)).length - 1) 0 ⟨[],[],0,0⟩).out.length) (D4.goS (rgS q a b) (D4.cuts (a++b)) ((D4.cuts (a++b)).length - 1) 0 ⟨[],[],0,0⟩).out)
 | 0,i,acc,h,h'=>by
  have _u:=ha;have _v:=hb;obtain ⟨n,hn⟩:=u9n q a b ha hb b.length 0 acc (Af _) (by grind);refine ⟨n+1,?_⟩
  grind [Zw,Xz]
 | k+1,i,acc,h,h'=>by
  have hle:acc.length≤2*(400+i):=by rw [h',D4.ends_length];grind
  obtain ⟨n,hn⟩:=u9o k (i+1) (acc++D4.ends [rd a i]) (by omega) (by
   rw [h',AY]
   grind [Yo,Dim.ends])
  refine ⟨n+1,?_⟩;rw [Zw];simp (disch:=omega) only [Xz,Zc,Zq,Yz,Zt,Yc,Yv,Yj,Zf,Zk,Zx,Yd,Zj,Af,Ao,Ah,Aj,Ab,Aa];exact hn
end
def rgE (q:Op) (a b:List R4):Int:=bif y0s a != 0 then y0s a else bif y0s b != 0 then y0s b else eJ (y7o (rgA q a b) (D4.cuts (a++b)) ((D4.cuts (a++b)).length - 1) 0) (rgJ q.k a b).length
def Xc (q:Op) (a b:List R4):List R4:=y8o (rgE q a b) (rgJ q.k a b)
def Jc (q:Op) (a b:List R4):Int:=rgE q a b
def Vi (q:Op) (a b:List R4):Bool:=true
theorem w5g {l:List R4} (h:(y0s l != 0)=false):l.length≤400:=by
 grind [y0s]
theorem rg_run (q:Op) (a b:List R4) (h:Vi q a b=true): ∃n,Zr (Xz q a b) n (y4m q a b)=.ret (z7y (rgE q a b) (rgJ q.k a b)):=by
 unfold y4m;have o: ∀l,z4x l=true:=fun _=>rfl;simp only [Zc,o,Ab];rcases Yp (y0s a != 0) with q1 | q1
 ·exact ⟨0,by simp only [rgE,q1,Ab,Uz _ q1];rfl⟩
 rcases Yp (y0s b != 0) with q2 | q2
 ·exact ⟨0,by simp only [rgE,q1,q2,Ab,Aa,Uz _ q2];rfl⟩
 obtain ⟨n,hn⟩:=u9o q a b (w5g q1) (w5g q2) a.length 0 [] (Af _) rfl;refine ⟨n,?_⟩;simp only [rgE,q1,q2,Aa];exact hn
def fRg (q:Op):List AVal→Option (AVal×Bool)
 | [a0,a1]=>match asL R4 a0,asL R4 a1 with
  | some (L0,g0,n0),some (L1,g1,n1)=>some (.tup [.dat (Xc q L0 L1).length (Zz (Xc q L0 L1)),.int .i64 (Jc q L0 L1)],isT R4 n0 g0&&(isT R4 n1 g1&&(Vi q L0 L1)))
  | _,_=>none
 | _=>none
theorem v8g (q:Op) {S:Specs} (hS:Zu prog S):Zu prog (S.with (nRg q) (fRg q)):=by
 refine w6t hS (by cases q <;> kernel_rfl) fun args v h=> ?_;unfold fRg at h;split at h
 ·rename_i a0 a1;split at h
  ·rename_i L0 g0 n0 L1 g1 n1 e0 e1;simp only [Ad,Ac,Ae] at h;obtain ⟨rfl,ho0,ho1,hw⟩:=h;obtain ⟨N,hN⟩:=rg_run q L0 L1 hw;exact ⟨_,_,(.cons (Yh e0 ho0) (.cons (Yh e1 ho1) .nil)),z0i _ _,u2l q L0 L1 N _ hN,3,z4y _ _⟩
  ·cases h
 ·cases h
def Ud :Specs:=((Uc.with (nRg .u) (fRg .u)).with (nRg .e) (fRg .e)).with (nRg .d) (fRg .d)
theorem Jo :Zu prog Ud:=v8g .d (v8g .e (v8g .u Ks))
inductive sljS where
 | h0 (v16:Int) (aC:List Int)
 | h1 (v16:Int) (aC:List Int)
 | h2 (v4:Int) (aK:List R6) (aY:List R4) (bI:Int) (bJ:Int) (aI:Nat) (aL:List Int)
 | h3 (v4:Int) (v38:Int) (aK:List R6) (aY:List R4) (bI:Int) (bJ:Int) (aI:Nat) (aL:List Int) (aF:Int) (bE:Int) (aB:List R4)
 | h4 (v4:Int) (v38:Int) (aK:List R6) (aY:List R4) (bI:Int) (bJ:Int) (aI:Nat) (aL:List Int) (aF:Int) (bE:Int) (aB:List R4) (aG:List R4)
 | h5 (v1:Int) (v2:Int) (v72:List R4) (v73:Int) (v74:Int) (bF:Int) (aD:List R6) (bG:Int) (aI:Nat) (aL:List Int) (aF:List R4) (bE:List R4)
 | h6 (v2:Int) (v8:Int) (cH:Int) (cB:List R4) (bF:Int) (aD:List R6) (bL:List R4) (bG:Int) (bW:Int) (bR:Nat) (bY:List Int) (aB:List R4) (aG:List R4)
def y6c (q:Op) (l0:List R6) (l1:List R6):AFr:=⟨⟨12,0,true⟩,(Vm prog (nSl q) [1,0] 3),(Zb prog (nSl q) [1,0] 1),none,(Zy prog 16),Yg [(6,(.dat l0.length (Zz l0))),(7,(.dat l1.length (Zz l1))),(8,(.agg [(.fn (nRg q) [])]))]⟩
abbrev y9t (aD:List R6) (v8:Int) (v2:Int):=(aD.set (0+(tn v8)) (R6.mk (rd aD (0+(tn v8))).a (rd aD (0+(tn v8))).b (rd aD (0+(tn v8))).c (rd aD (0+(tn v8))).d (rd aD (0+(tn v8))).e v2))
def w4s (q:Op):AFr:=⟨⟨27,0,true⟩,(Vm prog 66 [1,1,1,0] 4),(Zb prog 66 [1,1,1,0] 1),none,(Zy prog 10),Yg [(20,(.agg [(.fn (nRg q) [])])),(23,(.sl 8 0 2 (.un 1)))]⟩
def v3q :=(y2m [(0,⟨.ready,none,65,Yg [(2,(.ptr 1 0)),(4,(.ptr 2 0)),(5,(.ptr 3 0)),(6,(.ptr 4 0))],[15],(Wt prog 93 [1,1,0,1,0,0]),(Wt prog 93 [1,1,0,1,0,1])⟩)])
abbrev y9s (aC:List Int):=(Wu (Yu aC.length (cOf (Zz (Xp (Yu aC.length (cOf (Zz aC))))))))
def v3p :AFr:=⟨⟨65,0,true⟩,none,(.inRangeFunc 0::(Zb prog 93 [1,1,0,1,0] 1)),none,(Zy prog 93),Yg [(4,(.ptr 2 0)),(5,(.ptr 3 0)),(6,(.ptr 4 0))]⟩
abbrev y9r (aB:List R4) (l0:List R6) (v38:Int):=(aB++[(R4.mk (rd l0 (tn v38)).a (rd l0 (tn v38)).b (rd l0 (tn v38)).d (rd l0 (tn v38)).e)])
abbrev y9q (aG:List R4) (l1:List R6) (v38:Int):=(aG++[(R4.mk (rd l1 (tn v38)).a (rd l1 (tn v38)).b (rd l1 (tn v38)).d (rd l1 (tn v38)).e)])
abbrev y9p (aD:List R6) (v72:List R4) (v74:Int) (v1:Int) (v2:Int):=(aD++[(R6.mk (rd v72 (tn v74)).a (rd v72 (tn v74)).b v1 (rd v72 (tn v74)).c (rd v72 (tn v74)).d v2)])
def y6b (l0:List R6) (l1:List R6):ABlk:=⟨[(.dat l0.length (Zz l0)),(.dat l1.length (Zz l1))],32,none⟩
def v3t :AFr:=⟨⟨65,0,true⟩,(Vm prog 93 [1,1,0,0] 1),(Zb prog 93 [1,1,0,0] 1),none,(Zy prog 93),Yg [(2,(.ptr 3 0)),(4,(.ptr 4 0)),(5,(.ptr 5 0)),(6,(.ptr 6 0)),(13,(.sl 1 0 2 (.un 1)))]⟩
def v3s (q:Op):AFr:=⟨⟨27,0,true⟩,(Vm prog 66 [1,1,1,0] 4),(Zb prog 66 [1,1,1,0] 1),none,(Zy prog 10),Yg [(20,(.agg [(.fn (nRg q) [])])),(23,(.sl 1 0 2 (.un 1)))]⟩
def z6x (q:Op):ABlk:=⟨[(.fn (nRg q) [])],101,none⟩
abbrev y0l (aC:List Int) (l0:List R6) (v16:Int):=(aC++[(rd l0 (tn v16)).c,(rd l0 (tn v16)).f])
abbrev y0k (aC:List Int) (l1:List R6) (v16:Int):=(aC++[(rd l1 (tn v16)).c,(rd l1 (tn v16)).f])
def x2i :ABlk:=⟨[(.sl 8 0 2 (.un 1))],177,none⟩
def v3r :=(Zb prog 162 [1,0,0,1,0,0,1,0,1,0,0,1,1,0,0,1,1,0,0] 0)
def sljC (q:Op) (l0:List R6) (l1:List R6):sljS→Cfg
 | .h0 v16 aC=>⟨⟨36,0,true⟩,none,(Zb prog 135 [1,1,0,1,0,0,1,1,0,0,1,1,0,0] 0),none,(Zy prog 9),⟨Yg [(1,(.ptr 0 0)),(3,(.ptr 2 0)),(8,(.sl 1 0 2 (.un 1))),(9,(ii 2)),(10,(ii 0)),(14,(.dat l0.length (Zz l0))),(15,(ii (l0.length:Int))),(16,(ii v16))],Vj [⟨[(.sl 1 0 2 (.un 1))],177,none⟩,(y6b l0 l1),⟨[(.sla 7 1 0 aC.length (.un 1))],125,none⟩,(z6x q),⟨[.nils],33,none⟩,⟨[(ii 0)],24,none⟩,⟨[.nils,.nils,(ii 0),(ii 0)],179,none⟩,⟨Ym aC.length (Zz aC),3,some ⟨1,aC.length,(Zz aC)⟩⟩] 0,8,[],true⟩,[v3t,(v3s q),(y6c q l0 l1)],.leaf⟩
 | .h1 v16 aC=>⟨⟨36,0,true⟩,none,(Zb prog 135 [1,1,0,1,0,0,1,1,0,0,1,1,0,0] 0),none,(Zy prog 9),⟨Yg [(1,(.ptr 0 0)),(3,(.ptr 2 0)),(8,(.sl 1 0 2 (.un 1))),(9,(ii 2)),(10,(ii 1)),(14,(.dat l1.length (Zz l1))),(15,(ii (l1.length:Int))),(16,(ii v16))],Vj [⟨[(.sl 1 0 2 (.un 1))],177,none⟩,(y6b l0 l1),⟨[(.sla 7 1 0 aC.length (.un 1))],125,none⟩,(z6x q),⟨[.nils],33,none⟩,⟨[(ii 0)],24,none⟩,⟨[.nils,.nils,(ii 0),(ii 0)],179,none⟩,⟨Ym aC.length (Zz aC),3,some ⟨1,aC.length,(Zz aC)⟩⟩] 0,8,[],true⟩,[v3t,(v3s q),(y6c q l0 l1)],.leaf⟩
 | .h2 v4 aK aY bI bJ aI aL=>⟨⟨86,0,true⟩,none,(Zb prog 162 [1,0,0] 0),none,[],⟨Yg [(0,(.yld 0)),(1,(.ptr 5 0)),(2,(.ptr 7 0)),(4,(ii v4))],z6q [(1,(z6x q)),(2,⟨[.nils],33,none⟩),(3,⟨[(ii 0)],24,none⟩),(4,⟨[(.sla 9 6 0 aK.length (.un 6)),(.dat aY.length (Zz aY)),(ii bI),(ii bJ)],179,none⟩),(5,⟨[(.sla 6 1 0 aI (.un 1))],125,none⟩),(6,⟨Ym aL.length (Zz aL),3,some ⟨1,aL.length,(Zz aL)⟩⟩),(7,x2i),(8,(y6b l0 l1)),(9,⟨Ym aK.length (Zz aK),57,some ⟨6,aK.length,(Zz aK)⟩⟩)],10,[],true⟩,[v3p,(w4s q),(y6c q l0 l1)],v3q⟩
 | .h3 v4 v38 aK aY bI bJ aI aL aF bE aB=>⟨⟨86,0,true⟩,none,v3r,none,[],⟨Yg [(0,(.yld 0)),(1,(.ptr 5 0)),(2,(.ptr 7 0)),(4,(ii v4)),(5,(.ptr 9 0)),(6,(ii 0)),(29,(.sl 8 0 2 (.un 1))),(30,(ii 2)),(31,(ii 0)),(36,(.dat l0.length (Zz l0))),(37,(ii (l0.length:Int))),(38,(ii v38))],z6q [(1,(z6x q)),(2,⟨[.nils],33,none⟩),(3,⟨[(ii 0)],24,none⟩),(4,⟨[(.sla 12 6 0 aK.length (.un 6)),(.dat aY.length (Zz aY)),(ii bI),(ii bJ)],179,none⟩),(5,⟨[(.sla 6 1 0 aI (.un 1))],125,none⟩),(6,⟨Ym aL.length (Zz aL),3,some ⟨1,aL.length,(Zz aL)⟩⟩),(7,x2i),(8,(y6b l0 l1)),(9,⟨[(ii aF),(ii bE),(.sl 10 0 2 (.ex 2))],184,none⟩),(10,⟨[(.sla 11 4 0 aB.length (.un 4)),.nils],80,none⟩),(11,⟨Ym aB.length (Zz aB),116,some ⟨4,aB.length,(Zz aB)⟩⟩),(12,⟨Ym aK.length (Zz aK),57,some ⟨6,aK.length,(Zz aK)⟩⟩)],13,[],true⟩,[v3p,(w4s q),(y6c q l0 l1)],v3q⟩
 | .h4 v4 v38 aK aY bI bJ aI aL aF bE aB aG=>⟨⟨86,0,true⟩,none,v3r,none,[],⟨Yg [(0,(.yld 0)),(1,(.ptr 5 0)),(2,(.ptr 7 0)),(4,(ii v4)),(5,(.ptr 9 0)),(6,(ii 1)),(29,(.sl 8 0 2 (.un 1))),(30,(ii 2)),(31,(ii 1)),(36,(.dat l1.length (Zz l1))),(37,(ii (l1.length:Int))),(38,(ii v38))],z6q [(1,(z6x q)),(2,⟨[.nils],33,none⟩),(3,⟨[(ii 0)],24,none⟩),(4,⟨[(.sla 13 6 0 aK.length (.un 6)),(.dat aY.length (Zz aY)),(ii bI),(ii bJ)],179,none⟩),(5,⟨[(.sla 6 1 0 aI (.un 1))],125,none⟩),(6,⟨Ym aL.length (Zz aL),3,some ⟨1,aL.length,(Zz aL)⟩⟩),(7,x2i),(8,(y6b l0 l1)),(9,⟨[(ii aF),(ii bE),(.sl 10 0 2 (.ex 2))],184,none⟩),(10,⟨[(.sla 11 4 0 aB.length (.un 4)),(.sla 12 4 0 aG.length (.un 4))],80,none⟩),(11,⟨Ym aB.length (Zz aB),116,some ⟨4,aB.length,(Zz aB)⟩⟩),(12,⟨Ym aG.length (Zz aG),116,some ⟨4,aG.length,(Zz aG)⟩⟩),(13,⟨Ym aK.length (Zz aK),57,some ⟨6,aK.length,(Zz aK)⟩⟩)],14,[],true⟩,[v3p,(w4s q),(y6c q l0 l1)],v3q⟩
 | .h5 v1 v2 v72 v73 v74 bF aD bG aI aL aF bE=>⟨⟨101,0,true⟩,none,(Zb prog 136 [1,1,1,0,0] 0),none,[],⟨Yg [(0,(.ptr 0 0)),(1,(ii v1)),(2,(ii v2)),(72,(.dat v72.length (Zz v72))),(73,(ii v73)),(74,(ii v74))],z6q [(0,⟨[(.sla 10 6 0 aD.length (.un 6)),(.dat v72.length (Zz v72)),(ii bG),(ii v2)],179,none⟩),(2,(z6x q)),(3,⟨[.nils],33,none⟩),(4,⟨[(ii 0)],24,none⟩),(5,⟨[(.sla 6 1 0 aI (.un 1))],125,none⟩),(6,⟨Ym aL.length (Zz aL),3,some ⟨1,aL.length,(Zz aL)⟩⟩),(7,x2i),(8,(y6b l0 l1)),(9,⟨[(.dat aF.length (Zz aF)),(.dat bE.length (Zz bE))],80,none⟩),(10,⟨Ym aD.length (Zz aD),57,some ⟨6,aD.length,(Zz aD)⟩⟩)],11,[],true⟩,[⟨⟨65,0,true⟩,(Vm prog 93 [1,1,0,1,0,1,0,1,1,1] 5),(Zb prog 93 [1,1,0,1,0,1,0,1,1,1] 1),(some 1),[],Yg [(6,(.ptr 0 0)),(54,(ii v1)),(56,(ii v2)),(57,(.dat v72.length (Zz v72)))]⟩,⟨⟨86,0,true⟩,(Vm prog 162 [1,0,0,1,0,0,1,1,0] 2),(Zb prog 162 [1,0,0,1,0,0,1,1,0] 1),none,[],Yg [(0,(.yld 1)),(1,(.ptr 5 0)),(2,(.ptr 7 0)),(4,(ii bF)),(82,(.yld 1)),(83,(.agg [(ii v1),(ii v2),(.sl 9 0 2 (.ex 2))]))]⟩,⟨⟨65,0,true⟩,none,(.inRangeFunc 1::(Zb prog 93 [1,1,0,1,0] 1)),none,(Zy prog 93),Yg [(4,(.ptr 3 0)),(5,(.ptr 4 0)),(6,(.ptr 0 0))]⟩,(w4s q),(y6c q l0 l1)],(y2m [(1,⟨.busy,none,65,Yg [(2,(.ptr 2 0)),(4,(.ptr 3 0)),(5,(.ptr 4 0)),(6,(.ptr 0 0))],[15],(Wt prog 93 [1,1,0,1,0,0]),(Wt prog 93 [1,1,0,1,0,1])⟩)])⟩
 | .h6 v2 v8 cH cB bF aD bL bG bW bR bY aB aG=>⟨⟨101,0,true⟩,none,(Zb prog 136 [0,1,0,0,1,0,0] 0),none,[],⟨Yg [(0,(.ptr 0 0)),(2,(ii v2)),(8,(ii v8))],z6q [(0,⟨[(.sla 1 6 0 aD.length (.un 6)),(.dat bL.length (Zz bL)),(ii bG),(ii bW)],179,none⟩),(1,⟨Ym aD.length (Zz aD),57,some ⟨6,aD.length,(Zz aD)⟩⟩),(3,(z6x q)),(4,⟨[.nils],33,none⟩),(5,⟨[(ii 0)],24,none⟩),(6,⟨[(.sla 7 1 0 bR (.un 1))],125,none⟩),(7,⟨Ym bY.length (Zz bY),3,some ⟨1,bY.length,(Zz bY)⟩⟩),(8,⟨[(.sl 9 0 2 (.un 1))],177,none⟩),(9,(y6b l0 l1)),(10,⟨[(.dat aB.length (Zz aB)),(.dat aG.length (Zz aG))],80,none⟩)],11,[],true⟩,[⟨⟨65,0,true⟩,(Vm prog 93 [1,1,0,1,0,1,0,1,1,1] 5),(Zb prog 93 [1,1,0,1,0,1,0,1,1,1] 1),(some 2),[],Yg [(6,(.ptr 0 0)),(54,(ii cH)),(56,(ii v2)),(57,(.dat cB.length (Zz cB)))]⟩,⟨⟨86,0,true⟩,(Vm prog 162 [1,0,0,1,0,0,1,1,0] 2),(Zb prog 162 [1,0,0,1,0,0,1,1,0] 1),none,[],Yg [(0,(.yld 2)),(1,(.ptr 6 0)),(2,(.ptr 8 0)),(4,(ii bF)),(82,(.yld 2)),(83,(.agg [(ii cH),(ii v2),(.sl 10 0 2 (.ex 2))]))]⟩,⟨⟨65,0,true⟩,none,(.inRangeFunc 2::(Zb prog 93 [1,1,0,1,0] 1)),none,(Zy prog 93),Yg [(4,(.ptr 4 0)),(5,(.ptr 5 0)),(6,(.ptr 0 0))]⟩,⟨⟨27,0,true⟩,(Vm prog 66 [1,1,1,0] 4),(Zb prog 66 [1,1,1,0] 1),none,(Zy prog 10),Yg [(20,(.agg [(.fn (nRg q) [])])),(23,(.sl 9 0 2 (.un 1)))]⟩,(y6c q l0 l1)],(y2m [(2,⟨.busy,none,65,Yg [(2,(.ptr 3 0)),(4,(.ptr 4 0)),(5,(.ptr 5 0)),(6,(.ptr 0 0))],[15],(Wt prog 93 [1,1,0,1,0,0]),(Wt prog 93 [1,1,0,1,0,1])⟩)])⟩
def sljN0 :List (Option (List Nat)):=[some [1,3,8,9,10,14,15,16],some [2,4,5,6,13],some [20,23],some [6,7,8]]
def sljM0 :List (Option (List Nat)):=[]
def sljN1 :List (Option (List Nat)):=[some [1,3,8,9,10,14,15,16],some [2,4,5,6,13],some [20,23],some [6,7,8]]
def sljM1 :List (Option (List Nat)):=[]
def j3c :List (Option (List Nat)):=[some [0,1,2,4],some [4,5,6],some [20,23],some [6,7,8]]
def j3d :List (Option (List Nat)):=[some [2,4,5,6],none,none,none,none,none,none,none,none,none]
def u0t :List (Option (List Nat)):=[some [0,1,2,4,5,6,29,30,31,36,37,38],some [4,5,6],some [20,23],some [6,7,8]]
def u0w :List (Option (List Nat)):=[some [2,4,5,6],none,none,none,none,none,none,none,none,none,none,none,none]
def u0s :List (Option (List Nat)):=[some [0,1,2,4,5,6,29,30,31,36,37,38],some [4,5,6],some [20,23],some [6,7,8]]
def u0v :List (Option (List Nat)):=[some [2,4,5,6],none,none,none,none,none,none,none,none,none,none,none,none,none]
def u0r :List (Option (List Nat)):=[some [0,1,2,72,73,74],some [6,54,56,57],some [0,1,2,4,82,83],some [4,5,6],some [20,23],some [6,7,8]]
def u0u :List (Option (List Nat)):=[none,some [2,4,5,6],none,none,none,none,none,none,none,none,none]
def sljN6 :List (Option (List Nat)):=[some [0,2,8],some [6,54,56,57],some [0,1,2,4,82,83],some [4,5,6],some [20,23],some [6,7,8]]
def sljM6 :List (Option (List Nat)):=[none,none,some [2,4,5,6],none,none,none,none,none,none,none,none]
def Yn (q:Op) (l0:List R6) (l1:List R6):sljS→Xw sljS
 | .h0 v16 aC=>(bif (decide (v16<(l0.length:Int))) then (bif ((decide (0≤v16∧v16<(l0.length:Int)))&&true) then (bif (Nat.beq 1 1&&((decide (0+aC.length=aC.length))&&decide ((aC.length+2+1)*(8+1)≤room))) then (.to (.h0 (wrap .i64 (v16+1)) (aC++[(rd l0 v16.toNat).c,(rd l0 v16.toNat).f]))) else .stuck) else .stuck) else (.to (.h1 0 aC)))
 | .h1 v16 aC=>(bif (decide (v16<(l1.length:Int))) then (bif ((decide (0≤v16∧v16<(l1.length:Int)))&&true) then (bif (Nat.beq 1 1&&((decide (0+aC.length=aC.length))&&decide ((aC.length+2+1)*(8+1)≤room))) then (.to (.h1 (wrap .i64 (v16+1)) (aC++[(rd l1 v16.toNat).c,(rd l1 v16.toNat).f]))) else .stuck) else .stuck) else (bif (decide (aC.length<4611686018427387904)) then (bif (decide (aC.length=aC.length)) then (.to (.h2 1 ([]:List R6) ([]:List R4) 0 0 (v1h (Yu aC.length (cOf (Zz (Xp (Yu aC.length (cOf (Zz aC)))))))) (Wu (Yu aC.length (cOf (Zz (Xp (Yu aC.length (cOf (Zz aC)))))))))) else .stuck) else .stuck))
 | .h2 v4 aK aY bI bJ aI aL=>(bif (decide (v4<((aI:Nat):Int))) then (bif ((decide (0≤(wrap .i64 (v4 - 1))∧(wrap .i64 (v4 - 1))<((aI:Nat):Int)))&&true) then (bif (decide ((0+(Int.toNat (wrap .i64 (v4 - 1))))<aL.length)) then (bif ((decide (0≤v4∧v4<((aI:Nat):Int)))&&true) then (bif (decide ((0+v4.toNat)<aL.length)) then (.to (.h3 v4 0 aK aY bI bJ aI aL (rd aL (0+(Int.toNat (wrap .i64 (v4 - 1))))) (rd aL (0+v4.toNat)) ([]:List R4))) else .stuck) else .stuck) else .stuck) else .stuck) else (bif (decide ((aK.length:Int)>400)) then (.ret [.nils,(.int .i64 4)]) else (.ret [(.dat aK.length (Zz aK)),(.int .i64 0)])))
 | .h3 v4 v38 aK aY bI bJ aI aL aF bE aB=>(bif (decide (v38<(l0.length:Int))) then (bif ((decide (0≤v38∧v38<(l0.length:Int)))&&true) then (bif (decide ((rd l0 v38.toNat).c ≤aF)) then (bif (decide (aF<(rd l0 v38.toNat).f)) then (bif (Nat.beq 4 4&&((decide (0+aB.length=aB.length))&&decide ((aB.length+1+1)*(32+1)≤room))) then (.to (.h3 v4 (wrap .i64 (v38+1)) aK aY bI bJ aI aL aF bE (aB++[(R4.mk (rd l0 v38.toNat).a (rd l0 v38.toNat).b (rd l0 v38.toNat).d (rd l0 v38.toNat).e)]))) else .stuck) else (.to (.h3 v4 (wrap .i64 (v38+1)) aK aY bI bJ aI aL aF bE aB))) else (.to (.h3 v4 (wrap .i64 (v38+1)) aK aY bI bJ aI aL aF bE aB))) else .stuck) else (.to (.h4 v4 0 aK aY bI bJ aI aL aF bE aB ([]:List R4))))
 | .h4 v4 v38 aK aY bI bJ aI aL aF bE aB aG=>(bif (decide (v38<(l1.length:Int))) then (bif ((decide (0≤v38∧v38<(l1.length:Int)))&&true) then (bif (decide ((rd l1 v38.toNat).c ≤aF)) then (bif (decide (aF<(rd l1 v38.toNat).f)) then (bif (Nat.beq 4 4&&((decide (0+aG.length=aG.length))&&decide ((aG.length+1+1)*(32+1)≤room))) then (.to (.h4 v4 (wrap .i64 (v38+1)) aK aY bI bJ aI aL aF bE aB (aG++[(R4.mk (rd l1 v38.toNat).a (rd l1 v38.toNat).b (rd l1 v38.toNat).d (rd l1 v38.toNat).e)]))) else .stuck) else (.to (.h4 v4 (wrap .i64 (v38+1)) aK aY bI bJ aI aL aF bE aB aG))) else (.to (.h4 v4 (wrap .i64 (v38+1)) aK aY bI bJ aI aL aF bE aB aG))) else .stuck) else (bif (Uv (cvT aB)) then (bif ((Ww (cvT aB)) == 0) then (bif (Uv (cvT aG)) then (bif ((Ww (cvT aG)) == 0) then (bif ((Vi q) (cvT (Ze (cvT aB))) (cvT (Ze (cvT aG)))) then (bif (((Jc q) (cvT (Ze (cvT aB))) (cvT (Ze (cvT aG)))) != 0) then (.ret [.nils,(.int .i64 ((Jc q) (cvT (Ze (cvT aB))) (cvT (Ze (cvT aG)))))]) else (bif (decide (((((Xc q) (cvT (Ze (cvT aB))) (cvT (Ze (cvT aG)))).length :Nat):Int)>0)) then (bif (bJ == aF) then (bif (We (cvT aY) (cvT ((Xc q) (cvT (Ze (cvT aB))) (cvT (Ze (cvT aG)))))) then (bif (Ur (cvT aY) (cvT ((Xc q) (cvT (Ze (cvT aB))) (cvT (Ze (cvT aG)))))) then (.to (.h6 bE bI aF ((Xc q) (cvT (Ze (cvT aB))) (cvT (Ze (cvT aG)))) v4 aK aY bI bJ aI aL aB aG)) else (.to (.h5 aF bE ((Xc q) (cvT (Ze (cvT aB))) (cvT (Ze (cvT aG)))) ((((Xc q) (cvT (Ze (cvT aB))) (cvT (Ze (cvT aG)))).length :Nat):Int) 0 v4 aK (aK.length:Int) aI aL aB aG))) else .stuck) else (.to (.h5 aF bE ((Xc q) (cvT (Ze (cvT aB))) (cvT (Ze (cvT aG)))) ((((Xc q) (cvT (Ze (cvT aB))) (cvT (Ze (cvT aG)))).length :Nat):Int) 0 v4 aK (aK.length:Int) aI aL aB aG))) else (.to (.h5 aF bE ((Xc q) (cvT (Ze (cvT aB))) (cvT (Ze (cvT aG)))) ((((Xc q) (cvT (Ze (cvT aB))) (cvT (Ze (cvT aG)))).length :Nat):Int) 0 v4 aK (aK.length:Int) aI aL aB aG)))) else .stuck) else (.ret [.nils,(.int .i64 (Ww (cvT aG)))])) else .stuck) else (.ret [.nils,(.int .i64 (Ww (cvT aB)))])) else .stuck))
 | .h5 v1 v2 v72 v73 v74 bF aD bG aI aL aF bE=>(bif (decide (v74<v73)) then (bif ((decide (0≤v74∧v74<(v72.length:Int)))&&true) then (bif (Nat.beq 6 6&&((decide (0+aD.length=aD.length))&&decide ((aD.length+1+1)*(48+1)≤room))) then (.to (.h5 v1 v2 v72 v73 (wrap .i64 (v74+1)) bF (aD++[(R6.mk (rd v72 v74.toNat).a (rd v72 v74.toNat).b v1 (rd v72 v74.toNat).c (rd v72 v74.toNat).d v2)]) bG aI aL aF bE)) else .stuck) else .stuck) else (.to (.h2 (wrap .i64 (bF+1)) aD v72 bG v2 aI aL)))
 | .h6 v2 v8 cH cB bF aD bL bG bW bR bY aB aG=>(bif (decide (v8<(aD.length:Int))) then (bif ((decide (0≤v8∧v8<(aD.length:Int)))&&true) then (bif (decide ((0+v8.toNat)<aD.length)) then (.to (.h6 v2 (wrap .i64 (v8+1)) cH cB bF (aD.set (0+v8.toNat) (R6.mk (rd aD (0+v8.toNat)).a (rd aD (0+v8.toNat)).b (rd aD (0+v8.toNat)).c (rd aD (0+v8.toNat)).d (rd aD (0+v8.toNat)).e v2)) bL bG bW bR bY aB aG)) else .stuck) else .stuck) else (.to (.h2 (wrap .i64 (bF+1)) aD bL bG v2 bR bY)))
def y3r (q:Op) (l0:List R6) (l1:List R6):Xw sljS:=(bif (Vx (cvT l0)) then (bif ((Zn (cvT l0)) != 0) then (.ret [.nils,(.int .i64 (Zn (cvT l0)))]) else (bif (Vx (cvT l1)) then (bif ((Zn (cvT l1)) != 0) then (.ret [.nils,(.int .i64 (Zn (cvT l1)))]) else (.to (.h0 0 ([]:List Int)))) else .stuck)) else .stuck)
theorem w8c (q:Op) (l0:List R6) (l1:List R6): ∀s,Yt prog (Zy prog (nSl q)) (sljC q l0 l1) (sljC q l0 l1 s) (Yn q l0 l1 s):=by cases q <;> refine (?f: ∀q:Op,∀s,Yt prog (Zy prog (nSl q)) (sljC q l0 l1) (sljC q l0 l1 s) (Yn q l0 l1 s)) _ <;> exact fun q=>fun
 | .h0 v16 aC=>(lb (fun k0=>(lo fun o0=>(lo fun o1=>(sl Jo 34 [] ⟨[0,1,2,3,4,5,6,10],[],sljN0,sljM0⟩ ⟨[],[.keep,.keep,.cells [.len (y0l aC l0 v16).length],.keep,.keep,.keep,.keep,.rowed 1 (y0l aC l0 v16).length (Zz (y0l aC l0 v16))],[]⟩ [true] (pp (xL (aC.length+2) (y0l aC l0 v16).length) (pp (xL (aC.length+2) (y0l aC l0 v16).length) (pp (xS (aC.length+2) (Zo (Zz aC) 0 aC.length 1 [(ii (rd l0 (tn v16)).c),(ii (rd l0 (tn v16)).f)]) (Zz (y0l aC l0 v16))) (pp (pp (xF (Zo (Zz aC) 0 aC.length 1 [(ii (rd l0 (tn v16)).c),(ii (rd l0 (tn v16)).f)])) nn) (ww o1 (ww o0 (tt k0 nn))))))))))) (fun k0=>(sl Jo 36 [] ⟨(List.range 8),[],sljN1,sljM1⟩ ⟨[],[],[]⟩ (bl 2 2) (pp (fl aC nn) (tt k0 nn)))))
 | .h1 v16 aC=>(lb (fun k0=>(lo fun o0=>(lo fun o1=>(sl Jo 34 [] ⟨[0,1,2,3,4,5,6,10],[],sljN1,sljM1⟩ ⟨[],[.keep,.keep,.cells [.len (y0k aC l1 v16).length],.keep,.keep,.keep,.keep,.rowed 1 (y0k aC l1 v16).length (Zz (y0k aC l1 v16))],[]⟩ [true] (pp (xL (aC.length+2) (y0k aC l1 v16).length) (pp (xL (aC.length+2) (y0k aC l1 v16).length) (pp (xS (aC.length+2) (Zo (Zz aC) 0 aC.length 1 [(ii (rd l1 (tn v16)).c),(ii (rd l1 (tn v16)).f)]) (Zz (y0k aC l1 v16))) (pp (pp (xF (Zo (Zz aC) 0 aC.length 1 [(ii (rd l1 (tn v16)).c),(ii (rd l1 (tn v16)).f)])) nn) (ww o1 (ww o0 (tt k0 nn))))))))))) (fun k0=>(lo fun o0=>(lo fun o1=>(sl Jo 46 [(57,6,Zz ([]:List R6))] ⟨[8,3,4,5,6,2,7,0,1,9],[],j3c,j3d⟩ ⟨[],(kpB 4 [.cells [.grow 9 6,.list 0 (Zz ([]:List R4)),.keep,.keep],.keep,.rowed 1 (y9s aC).length (Zz (y9s aC)),.keep,.keep,.keep]),[]⟩ (bl 2 0) (pp (xL aC.length (y9s aC).length (by first | exact z0z _ _ | exact Uy rfl)) (pp (xS aC.length (Zz (y9s aC)) (Zz (y9s aC))) (pp (fl (y9s aC) (fl ([]:List R6) nn)) (pp (pp (xG (Nat.beq 1 1)) (pp (xG (Nat.beq 1 1)) (pp (xG (Nat.beq 0 0)) (pp (xG (decide (aC.length=aC.length))) (pp (xG (isI (Zz (Xp (Yu aC.length (cOf (Zz aC))))))) (xG (decide (aC.length<4611686018427387904)))))))) (pp (pp (xG (Nat.beq 1 1)) (pp (xG (Nat.beq 1 1)) (pp (xG (Nat.beq 0 0)) (pp (xG (decide (aC.length=aC.length))) (pp (xG (isI (Zz aC))) (xG (decide (aC.length<4611686018427387904)))))))) (tt k0 nn)))))))))))
 | .h2 v4 aK aY bI bJ aI aL=>(lb (fun k0=>(lo fun o0=>(lo fun o1=>(lo fun o2=>(lo fun o3=>(sl Jo 48 [(116,4,Zz ([]:List R4))] ⟨[0,1,2,3,4,5,6,7,8,10,11,12,9],[],u0t,u0w⟩ ⟨[],(kpB 10 [.cells [.grow 11 4,.keep],.keep,.keep]),[]⟩ (trs 3 []) (pp (fl aL (fl ([]:List R4) (fl aK nn))) (ww o3 (ww o2 (ww o1 (ww o0 (tt k0 nn)))))))))))) (fun k0=>(lb (fun k1=>(lr 12 3 [1,1,1,1,0] 1 16 [(4,.nils),(5,(ii 4))] (sl Jo 39 [] ⟨[],[],[some [4,5]],[]⟩ ⟨[],[],[]⟩ (bl 2 2) (tt k1 (tt k0 nn))))) (fun k1=>(lr 12 3 [1,1,1,1,0] 1 16 [(4,(.dat aK.length (Zz aK))),(5,(ii 0))] (sl Jo 42 [] ⟨[],[9],[some [4,5]],[]⟩ ⟨[(4,.frz aK.length aK.length (Zz aK) (Zz aK))],[],[]⟩ (bl 2 0) (pp (xZ (z6e 6 6 0 aK.length aK.length (Zz aK)) aK.length (Zz aK)) (pp (xL aK.length aK.length) (pp (xS aK.length (Zz aK) (Zz aK)) (pp (fl aK nn) (tt k1 (tt k0 nn))))))))))))
 | .h3 v4 v38 aK aY bI bJ aI aL aF bE aB=>(lb (fun k0=>(lo fun aJ=>(lb (fun k1=>(lb (fun k2=>(lo fun o0=>(sl Jo 41 [] ⟨[0,1,2,3,4,5,6,7,8,9,10,15,12],[],u0t,u0w⟩ ⟨[],(kpB 10 [.cells [.len (y9r aB l0 v38).length,.keep],.rowed 4 (y9r aB l0 v38).length (Zz (y9r aB l0 v38)),.keep]),[]⟩ (trs 8 []) (pp (xL (aB.length+1) (y9r aB l0 v38).length) (pp (xL (aB.length+1) (y9r aB l0 v38).length) (pp (xS (aB.length+1) (Zo (Zz aB) 0 aB.length 4 [(ii (rd l0 (tn v38)).a),(ii (rd l0 (tn v38)).b),(ii (rd l0 (tn v38)).d),(ii (rd l0 (tn v38)).e)]) (Zz (y9r aB l0 v38))) (pp (fl aL (pp (xF (Zo (Zz aB) 0 aB.length 4 [(ii (rd l0 (tn v38)).a),(ii (rd l0 (tn v38)).b),(ii (rd l0 (tn v38)).d),(ii (rd l0 (tn v38)).e)])) (fl aK nn))) (ww o0 (tt k2 (tt k1 (ww aJ (tt k0 nn)))))))))))) (fun k2=>(sl Jo 41 [] ⟨(List.range 13),[],u0t,u0w⟩ ⟨[],[],[]⟩ (trs 7 [false]) (pp (fl aL (fl aB (fl aK nn))) (tt k2 (tt k1 (ww aJ (tt k0 nn))))))))) (fun k1=>(sl Jo 41 [] ⟨(List.range 13),[],u0t,u0w⟩ ⟨[],[],[]⟩ (bl 8 1) (pp (fl aL (fl aB (fl aK nn))) (tt k1 (ww aJ (tt k0 nn))))))))) (fun k0=>(sl Jo 38 [(116,4,Zz ([]:List R4))] ⟨[0,1,2,3,4,5,6,7,8,9,10,11,13,12],[],u0s,u0v⟩ ⟨[],(kpB 10 [.cells [.keep,.grow 12 4],.keep,.keep,.keep]),[]⟩ (bl 2 2) (pp (fl aL (fl aB (fl ([]:List R4) (fl aK nn)))) (tt k0 nn)))))
 | .h4 v4 v38 aK aY bI bJ aI aL aF bE aB aG=>(lb (fun k0=>(lo fun aJ=>(lb (fun k1=>(lb (fun k2=>(lo fun o0=>(sl Jo 41 [] ⟨[0,1,2,3,4,5,6,7,8,9,10,11,16,13],[],u0s,u0v⟩ ⟨[],(kpB 10 [.cells [.keep,.len (y9q aG l1 v38).length],.keep,.rowed 4 (y9q aG l1 v38).length (Zz (y9q aG l1 v38)),.keep]),[]⟩ (trs 8 []) (pp (xL (aG.length+1) (y9q aG l1 v38).length) (pp (xL (aG.length+1) (y9q aG l1 v38).length) (pp (xS (aG.length+1) (Zo (Zz aG) 0 aG.length 4 [(ii (rd l1 (tn v38)).a),(ii (rd l1 (tn v38)).b),(ii (rd l1 (tn v38)).d),(ii (rd l1 (tn v38)).e)]) (Zz (y9q aG l1 v38))) (pp (fl aL (fl aB (pp (xF (Zo (Zz aG) 0 aG.length 4 [(ii (rd l1 (tn v38)).a),(ii (rd l1 (tn v38)).b),(ii (rd l1 (tn v38)).d),(ii (rd l1 (tn v38)).e)])) (fl aK nn)))) (ww o0 (tt k2 (tt k1 (ww aJ (tt k0 nn)))))))))))) (fun k2=>(sl Jo 41 [] ⟨(List.range 14),[],u0s,u0v⟩ ⟨[],[],[]⟩ (trs 7 [false]) (pp (fl aL (fl aB (fl aG (fl aK nn)))) (tt k2 (tt k1 (ww aJ (tt k0 nn))))))))) (fun k1=>(sl Jo 41 [] ⟨(List.range 14),[],u0s,u0v⟩ ⟨[],[],[]⟩ (bl 8 1) (pp (fl aL (fl aB (fl aG (fl aK nn)))) (tt k1 (ww aJ (tt k0 nn))))))))) (fun k0=>(Xa (sl Jo (C':=⟨⟨65,0,true⟩,(Vm prog 93 [1,1,0,1,0,1,0,0] 4),(Zb prog 93 [1,1,0,1,0,1,0,0] 1),(some 0),[],⟨Yg [(2,(.ptr 1 0)),(4,(.ptr 2 0)),(5,(.ptr 3 0)),(6,(.ptr 4 0)),(7,(.ptr 6 0)),(20,(.dat aB.length (Zz aB)))],z6q [(1,⟨[(.fn (nRg q) [])],101,none⟩),(2,⟨[.nils],33,none⟩),(3,⟨[(ii 0)],24,none⟩),(4,⟨[(.sla 5 6 0 aK.length (.un 6)),(.dat aY.length (Zz aY)),(ii bI),(ii bJ)],179,none⟩),(5,⟨Ym aK.length (Zz aK),57,some ⟨6,aK.length,(Zz aK)⟩⟩),(6,⟨[(ii aF),(ii bE),(.sl 7 0 2 (.ex 2))],184,none⟩),(7,⟨[(.dat aB.length (Zz aB)),(.sla 8 4 0 aG.length (.un 4))],80,none⟩),(8,⟨Ym aG.length (Zz aG),116,some ⟨4,aG.length,(Zz aG)⟩⟩),(9,⟨[(.sla 10 1 0 aI (.un 1))],125,none⟩),(10,⟨Ym aL.length (Zz aL),3,some ⟨1,aL.length,(Zz aL)⟩⟩),(11,⟨[(.sl 12 0 2 (.un 1))],177,none⟩),(12,⟨[(.dat l0.length (Zz l0)),(.dat l1.length (Zz l1))],32,none⟩)],13,[],true⟩,[⟨⟨86,0,true⟩,(Vm prog 162 [1,0,0,1,0,0,1,1,0] 2),(Zb prog 162 [1,0,0,1,0,0,1,1,0] 1),none,[],Yg [(0,(.yld 0)),(1,(.ptr 9 0)),(2,(.ptr 11 0)),(4,(ii v4)),(82,(.yld 0)),(83,(.agg [(ii aF),(ii bE),(.sl 7 0 2 (.ex 2))]))]⟩,⟨⟨65,0,true⟩,none,(.inRangeFunc 0::(Zb prog 93 [1,1,0,1,0] 1)),none,(Zy prog 93),Yg [(4,(.ptr 2 0)),(5,(.ptr 3 0)),(6,(.ptr 4 0))]⟩,⟨⟨27,0,true⟩,(Vm prog 66 [1,1,1,0] 4),(Zb prog 66 [1,1,1,0] 1),none,(Zy prog 10),Yg [(20,(.agg [(.fn (nRg q) [])])),(23,(.sl 12 0 2 (.un 1)))]⟩,⟨⟨12,0,true⟩,(Vm prog (nSl q) [1,0] 3),(Zb prog (nSl q) [1,0] 1),none,(Zy prog 16),Yg [(6,(.dat l0.length (Zz l0))),(7,(.dat l1.length (Zz l1))),(8,(.agg [(.fn (nRg q) [])]))]⟩],(y2m [(0,⟨.busy,none,65,Yg [(2,(.ptr 1 0)),(4,(.ptr 2 0)),(5,(.ptr 3 0)),(6,(.ptr 4 0))],[15],(Wt prog 93 [1,1,0,1,0,0]),(Wt prog 93 [1,1,0,1,0,1])⟩)])⟩) 37 [] ⟨[0,1,2,3,4,13,14,10,12,5,6,7,8],[11],[some [2,4,5,6,7,20],some [0,1,2,4,82,83],some [4,5,6],some [20,23],some [6,7,8]],[some [2,4,5,6],none,none,none,none,none,none,none,none,none,none,none,none]⟩ ⟨[(20,.frz aB.length aB.length (Zz aB) (Zz aB))],[.keep,.keep,.keep,.keep,.keep,.keep,.keep,.cells [.frz aB.length aB.length (Zz aB) (Zz aB),.keep],.keep,.keep,.keep,.keep,.keep],[]⟩ (bl 2 0) (pp (xZ (z6e 4 4 0 aB.length aB.length (Zz aB)) aB.length (Zz aB)) (pp (xL aB.length aB.length) (pp (xS aB.length (Zz aB) (Zz aB)) (pp (xZ (z6e 4 4 0 aB.length aB.length (Zz aB)) aB.length (Zz aB)) (pp (xL aB.length aB.length) (pp (xS aB.length (Zz aB) (Zz aB)) (pp (fl aK (fl aG (fl aL nn))) (pp (fl aB nn) (tt k0 nn)))))))))) (lo fun aJ=>(lb (fun k1=>(Xa (sl Jo (C':=⟨⟨65,0,true⟩,(Vm prog 93 [1,1,0,1,0,1,0,1,0,1,0,0,1,1,0,0,1,1,0,1,0] 1),(Zb prog 93 [1,1,0,1,0,1,0,1,0,1,0,0,1,1,0,0,1,1,0,1,0] 1),(some 0),[],⟨Yg [(2,(.ptr 1 0)),(4,(.ptr 2 0)),(5,(.ptr 3 0)),(6,(.ptr 4 0)),(7,(.ptr 6 0)),(8,(.dat (Ze (cvT aB)).length (Zz (Ze (cvT aB))))),(26,(.sl 7 1 1 (.ex 1))),(27,(ii 1)),(28,(ii 0)),(35,(.dat aG.length (Zz aG)))],z6q [(1,⟨[(.fn (nRg q) [])],101,none⟩),(2,⟨[.nils],33,none⟩),(3,⟨[(ii 0)],24,none⟩),(4,⟨[(.sla 5 6 0 aK.length (.un 6)),(.dat aY.length (Zz aY)),(ii bI),(ii bJ)],179,none⟩),(5,⟨Ym aK.length (Zz aK),57,some ⟨6,aK.length,(Zz aK)⟩⟩),(6,⟨[(ii aF),(ii bE),(.sl 7 0 2 (.ex 2))],184,none⟩),(7,⟨[(.dat aB.length (Zz aB)),(.dat aG.length (Zz aG))],80,none⟩),(8,⟨[(.sla 9 1 0 aI (.un 1))],125,none⟩),(9,⟨Ym aL.length (Zz aL),3,some ⟨1,aL.length,(Zz aL)⟩⟩),(10,⟨[(.sl 11 0 2 (.un 1))],177,none⟩),(11,⟨[(.dat l0.length (Zz l0)),(.dat l1.length (Zz l1))],32,none⟩)],12,[],true⟩,[⟨⟨86,0,true⟩,(Vm prog 162 [1,0,0,1,0,0,1,1,0] 2),(Zb prog 162 [1,0,0,1,0,0,1,1,0] 1),none,[],Yg [(0,(.yld 0)),(1,(.ptr 8 0)),(2,(.ptr 10 0)),(4,(ii v4)),(82,(.yld 0)),(83,(.agg [(ii aF),(ii bE),(.sl 7 0 2 (.ex 2))]))]⟩,⟨⟨65,0,true⟩,none,(.inRangeFunc 0::(Zb prog 93 [1,1,0,1,0] 1)),none,(Zy prog 93),Yg [(4,(.ptr 2 0)),(5,(.ptr 3 0)),(6,(.ptr 4 0))]⟩,⟨⟨27,0,true⟩,(Vm prog 66 [1,1,1,0] 4),(Zb prog 66 [1,1,1,0] 1),none,(Zy prog 10),Yg [(20,(.agg [(.fn (nRg q) [])])),(23,(.sl 11 0 2 (.un 1)))]⟩,⟨⟨12,0,true⟩,(Vm prog (nSl q) [1,0] 3),(Zb prog (nSl q) [1,0] 1),none,(Zy prog 16),Yg [(6,(.dat l0.length (Zz l0))),(7,(.dat l1.length (Zz l1))),(8,(.agg [(.fn (nRg q) [])]))]⟩],(y2m [(0,⟨.busy,none,65,Yg [(2,(.ptr 1 0)),(4,(.ptr 2 0)),(5,(.ptr 3 0)),(6,(.ptr 4 0))],[15],(Wt prog 93 [1,1,0,1,0,0]),(Wt prog 93 [1,1,0,1,0,1])⟩)])⟩) 46 [] ⟨[0,1,2,3,4,5,6,7,9,10,11,12],[8],[some [2,4,5,6,7,8,26,27,28,35],some [0,1,2,4,82,83],some [4,5,6],some [20,23],some [6,7,8]],[some [2,4,5,6],none,none,none,none,none,none,none,none,none,none,none]⟩ ⟨[(35,.frz aG.length aG.length (Zz aG) (Zz aG))],[.keep,.keep,.keep,.keep,.keep,.keep,.keep,.cells [.keep,.frz aG.length aG.length (Zz aG) (Zz aG)],.keep,.keep,.keep,.keep],[]⟩ (bl 2 3) (pp (xZ (z6e 4 4 0 aG.length aG.length (Zz aG)) aG.length (Zz aG)) (pp (xL aG.length aG.length) (pp (xS aG.length (Zz aG) (Zz aG)) (pp (xZ (z6e 4 4 0 aG.length aG.length (Zz aG)) aG.length (Zz aG)) (pp (xL aG.length aG.length) (pp (xS aG.length (Zz aG) (Zz aG)) (pp (fl aK (fl aL nn)) (pp (fl aG nn) (tt k1 (pp (pp (xr aB) (xw aJ)) nn))))))))))) (lo fun bX=>(lb (fun k2=>(lo fun cC=>(lb (fun k3=>(lr 12 3 [1,1,1,1,0] 1 16 [(4,.nils),(5,(ii ((Jc q) (cvT (Ze (cvT aB))) (cvT (Ze (cvT aG))))))] (sl Jo 69 [] ⟨[],[],[some [4,5]],[]⟩ ⟨[],[],[]⟩ (bl 4 13) (tt k3 (pp (pp (xI R4 (Ze (cvT aB)).length (Zz (Ze (cvT aB)))) (pp (xI R4 (Ze (cvT aG)).length (Zz (Ze (cvT aG)))) (xw cC))) (tt k2 (pp (pp (xr aG) (xw bX)) nn))))))) (fun k3=>(lb (fun k4=>(lb (fun k5=>(lo fun dG=>(lb (fun k6=>(sl Jo 88 [] ⟨[4,5,0,1,2,3,8,9,10,11,7],[],sljN6,sljM6⟩ ⟨[],[],[]⟩ (bl 16 65529) (pp (fl aK (fl aL nn)) (tt k6 (pp (pp (xr aY) (pp (xI R4 ((Xc q) (cvT (Ze (cvT aB))) (cvT (Ze (cvT aG)))).length (Zz ((Xc q) (cvT (Ze (cvT aB))) (cvT (Ze (cvT aG)))))) (xw dG))) (tt k5 (tt k4 (tt k3 (pp (pp (xI R4 (Ze (cvT aB)).length (Zz (Ze (cvT aB)))) (pp (xI R4 (Ze (cvT aG)).length (Zz (Ze (cvT aG)))) (xw cC))) (tt k2 (pp (pp (xr aG) (xw bX)) nn))))))))))) (fun k6=>(sl Jo 108 [] ⟨[4,0,1,2,3,8,9,10,11,7,5],[],u0r,u0u⟩ ⟨[],[],[]⟩ (bl 16 32761) (pp (fl aL (fl aK nn)) (tt k6 (pp (pp (xr aY) (pp (xI R4 ((Xc q) (cvT (Ze (cvT aB))) (cvT (Ze (cvT aG)))).length (Zz ((Xc q) (cvT (Ze (cvT aB))) (cvT (Ze (cvT aG)))))) (xw dG))) (tt k5 (tt k4 (tt k3 (pp (pp (xI R4 (Ze (cvT aB)).length (Zz (Ze (cvT aB)))) (pp (xI R4 (Ze (cvT aG)).length (Zz (Ze (cvT aG)))) (xw cC))) (tt k2 (pp (pp (xr aG) (xw bX)) nn)))))))))))))) (fun k5=>(sl Jo 108 [] ⟨[4,0,1,2,3,8,9,10,11,7,5],[],u0r,u0u⟩ ⟨[],[],[]⟩ (bl 16 505) (pp (fl aL (fl aK nn)) (tt k5 (tt k4 (tt k3 (pp (pp (xI R4 (Ze (cvT aB)).length (Zz (Ze (cvT aB)))) (pp (xI R4 (Ze (cvT aG)).length (Zz (Ze (cvT aG)))) (xw cC))) (tt k2 (pp (pp (xr aG) (xw bX)) nn))))))))))) (fun k4=>(sl Jo 108 [] ⟨[4,0,1,2,3,8,9,10,11,7,5],[],u0r,u0u⟩ ⟨[],[],[]⟩ (bl 16 1) (pp (fl aL (fl aK nn)) (tt k4 (tt k3 (pp (pp (xI R4 (Ze (cvT aB)).length (Zz (Ze (cvT aB)))) (pp (xI R4 (Ze (cvT aG)).length (Zz (Ze (cvT aG)))) (xw cC))) (tt k2 (pp (pp (xr aG) (xw bX)) nn))))))))))))) (fun k2=>(lr 12 3 [1,1,1,1,0] 1 16 [(4,.nils),(5,(ii (Ww (cvT aG))))] (sl Jo 58 [] ⟨[],[],[some [4,5]],[]⟩ ⟨[],[],[]⟩ (bl 4 12) (yt (v1l k2) (tt k2 (pp (pp (xr aG) (xw bX)) nn)))))))))) (fun k1=>(lr 12 3 [1,1,1,1,0] 1 16 [(4,.nils),(5,(ii (Ww (cvT aB))))] (sl Jo 84 [] ⟨[],[],[some [4,5]],[]⟩ ⟨[],[],[]⟩ (bl 5 25) (yt (v1l k1) (tt k1 (pp (pp (xr aB) (xw aJ)) nn)))))))))))
 | .h5 v1 v2 v72 v73 v74 bF aD bG aI aL aF bE=>(lb (fun k0=>(lo fun o0=>(lo fun o1=>(sl Jo 23 [] ⟨[0,1,2,3,4,5,6,7,8,9,13],[],u0r,u0u⟩ ⟨[],[.cells [.len (y9p aD v72 v74 v1 v2).length,.keep,.keep,.keep],.keep,.keep,.keep,.keep,.keep,.keep,.keep,.keep,.keep,.rowed 6 (y9p aD v72 v74 v1 v2).length (Zz (y9p aD v72 v74 v1 v2))],[]⟩ [true] (pp (xL (aD.length+1) (y9p aD v72 v74 v1 v2).length) (pp (xL (aD.length+1) (y9p aD v72 v74 v1 v2).length) (pp (xS (aD.length+1) (Zo (Zz aD) 0 aD.length 6 [(ii (rd v72 (tn v74)).a),(ii (rd v72 (tn v74)).b),(ii v1),(ii (rd v72 (tn v74)).c),(ii (rd v72 (tn v74)).d),(ii v2)]) (Zz (y9p aD v72 v74 v1 v2))) (pp (fl aL (pp (xF (Zo (Zz aD) 0 aD.length 6 [(ii (rd v72 (tn v74)).a),(ii (rd v72 (tn v74)).b),(ii v1),(ii (rd v72 (tn v74)).c),(ii (rd v72 (tn v74)).d),(ii v2)])) nn)) (ww o1 (ww o0 (tt k0 nn))))))))))) (fun k0=>(sl Jo 22 [] ⟨[1,2,3,4,0,5,6,7,8,10],[],j3c,j3d⟩ ⟨[],[],[]⟩ (bl 2 0) (pp (fl aL (fl aD nn)) (tt k0 nn)))))
 | .h6 v2 v8 cH cB bF aD bL bG bW bR bY aB aG=>(lb (fun k0=>(lo fun o0=>(lo fun o1=>(sl Jo 34 [] ⟨(List.range 11),[],sljN6,sljM6⟩ ⟨[],[.cells [.len (y9t aD v8 v2).length,.keep,.keep,.keep],.rowed 6 (y9t aD v8 v2).length (Zz (y9t aD v8 v2)),.keep,.keep,.keep,.keep,.keep,.keep,.keep,.keep,.keep],[]⟩ [true] (pp (xL aD.length (y9t aD v8 v2).length) (pp (xL aD.length (y9t aD v8 v2).length) (pp (xS aD.length (Xt (Zz aD) (0+(tn v8)) 5 [(ii v2)]) (Zz (y9t aD v8 v2))) (pp (pp (xF (Xt (Zz aD) (0+(tn v8)) 5 [(ii v2)])) (fl bY nn)) (ww o1 (ww o0 (tt k0 nn))))))))))) (fun k0=>(sl Jo 36 [] ⟨[2,3,4,5,0,6,7,8,9,1],[],j3c,j3d⟩ ⟨[],[],[]⟩ (bl 2 0) (pp (fl bY (fl aD nn)) (tt k0 nn)))))
theorem x9a (q:Op) (l0:List R6) (l1:List R6):Yt prog (Zy prog (nSl q)) (sljC q l0 l1) (Zg prog (nSl q) [(.dat l0.length (Zz l0)),(.dat l1.length (Zz l1))] true []) (y3r q l0 l1):=by cases q <;> exact (lo fun bV=>(lb (fun k0=>(lr 12 3 [1,1,1,1,0] 1 16 [(4,.nils),(5,(ii (Zn (cvT l0))))] (sl Jo 42 [] ⟨[],[],[some [4,5]],[]⟩ ⟨[],[],[]⟩ [true] (tt k0 (pp (pp (xr l0) (xw bV)) nn))))) (fun k0=>(lo fun aJ=>(lb (fun k1=>(lr 12 3 [1,1,1,1,0] 1 16 [(4,.nils),(5,(ii (Zn (cvT l1))))] (sl Jo 56 [] ⟨[],[],[some [4,5]],[]⟩ ⟨[],[],[]⟩ [false,true] (tt k1 (pp (pp (xr l1) (xw aJ)) (tt k0 (pp (pp (xr l0) (xw bV)) nn))))))) (fun k1=>(sl Jo 108 [(3,1,Zz ([]:List Int))] ⟨[6,1,7,2,3,4,5,8],[],sljN0,sljM0⟩ ⟨[],[.keep,.keep,.cells [.grow 7 1],.keep,.keep,.keep,.keep,.keep],[]⟩ [false,false,true] (pp (fl ([]:List Int) nn) (tt k1 (pp (pp (xr l1) (xw aJ)) (tt k0 (pp (pp (xr l0) (xw bV)) nn))))))))))))
theorem u0q (q:Op) (l0:List R6) (l1:List R6) (n:Nat) (vs:List AVal) (h:Zr (Yn q l0 l1) n (y3r q l0 l1)=.ret vs):Jy prog (Zy prog (nSl q)) (Zg prog (nSl q) [(.dat l0.length (Zz l0)),(.dat l1.length (Zz l1))] true []) vs:=by have:=Zd (w8c q l0 l1) n _ (x9a q l0 l1);rwa [h] at this
theorem y0o (l:List R4):(Ww l == 0)= !(Ww l != 0):=by grind
def slS (q:Op) (a b:List R6) (x:Int):List R4:=rgJ q.k (Ze (D6.inn a x)) (Ze (D6.inn b x))
def slA (q:Op) (a b:List R6) (x:Int):Int:=bif Ww (D6.inn a x) != 0 then Ww (D6.inn a x) else bif Ww (D6.inn b x) != 0 then Ww (D6.inn b x) else rgE q (Ze (D6.inn a x)) (Ze (D6.inn b x))
theorem u2v {q:Op} {a b:List R4} (h:rgE q a b=0):y0s a=0∧y0s b=0∧(rgJ q.k a b).length ≤400:=by
 unfold rgE at h;cases g1:(y0s a != 0) with
 | true=>grind
 | false=>
  cases g2:(y0s b != 0) with
  | true=>grind
  | false=>
   rw [g1,g2,Aa,Aa] at h;unfold eJ at h;refine ⟨by grind,by grind,?_⟩;revert h;generalize y7o (rgA q a b) _ _ _=e;intro h;cases g3:(e != 0) with
   | true=>grind
   | false=>simp_all [z6h]
theorem w4t {q:Op} {a b:List R6} {x:Int} (h:slA q a b x=0):Ww (D6.inn a x)=0∧Ww (D6.inn b x)=0∧rgE q (Ze (D6.inn a x)) (Ze (D6.inn b x))=0:=by
 grind [slA]
theorem j3g (q:Op) (a b:List R6) (x:Int) (h:(slA q a b x != 0)=false):(slS q a b x).length ≤1000:=
 Av (u2v (w4t (by simpa using h)).2.2).2.2 (by omega)
section
variable (q:Op) (a b:List R6) (ha:a.length≤400) (hb:b.length≤400)
include ha hb
theorem u7k (i:Nat) (out:List R6) (last:List R4) (first fin x x':Int): ∀(k j:Nat) (acc:List R4),j+k=a.length→acc.length≤j→
  ∃n,∀N,Zr (Yn q a b) (N+n) (.to (.h3 (i:Int) (j:Int) out last first fin ((D6.cuts (a++b)).length) (Wu (Xp (D6.ends (a++b)))) x x' acc))=Zr (Yn q a b) N (.to (.h4 (i:Int) 0 out last first fin ((D6.cuts (a++b)).length) (Wu (Xp (D6.ends (a++b)))) x x' (acc++D6.inn (a.drop j) x) []))
 | 0,j,acc,h,h'=>by
  have _u:=ha;have _v:=hb;refine ⟨1,fun N=> ?_⟩;rw [Ar (by omega),show D6.inn ([]:List R6) x=[] from rfl,AD,Zw]
  grind [Yn]
 | k+1,j,acc,h,h'=>by
  have hj:j<a.length:=by omega
  obtain ⟨n,hn⟩:=u7k i out last first fin x x' k (j+1) (acc++D6.inn [rd a j] x) (by omega) (by have:=D6.inn_length [rd a j] x;grind)
  refine ⟨n+1,fun N=> ?_⟩;have e:D6.inn (a.drop j) x=D6.inn [rd a j] x++D6.inn (a.drop (j+1)) x:=by rw [Yq hj,←D6.inn_append];rfl
  rw [e,←Ay,Zw,←AJ,←hn N];by_cases h1:D6.lo (rd a j)≤x
  ·by_cases h2:x<D6.hi (rd a j)
   ·rw [D6.inn_t _ _ h1 h2];simp only [D6] at h1 h2 ⊢;simp (disch:=omega) only [Yn,Xs,Zc,Zq,Yz,Zt,Yc,Yv,Yj,Zf,Zk,Zx,Yd,Zj,Af,Ao,Ah,Aj,Ab,Aa]
   ·rw [D6.inn_f2 _ _ h2,AD];simp only [D6] at h1 h2;simp (disch:=omega) only [Yn,Xs,Yf,Zc,Zq,Yz,Zt,Yc,Yv,Yj,Zf,Zk,Zx,Yd,Zj,Af,Ao,Ah,Aj,Ab,Aa]
  ·rw [D6.inn_f1 _ _ h1,AD];simp only [D6] at h1;simp (disch:=omega) only [Yn,w3b,Zc,Zq,Yz,Zt,Yc,Yv,Yj,Zf,Zk,Zx,Yd,Zj,Af,Ao,Ah,Aj,Ab,Aa]
theorem u7j (i:Nat) (out:List R6) (last:List R4) (first fin x x':Int) (o1:List R4): ∀(k j:Nat) (acc:List R4),j+k=b.length→acc.length≤j→
  ∃n,∀N,Zr (Yn q a b) (N+n) (.to (.h4 (i:Int) (j:Int) out last first fin ((D6.cuts (a++b)).length) (Wu (Xp (D6.ends (a++b)))) x x' o1 acc))=Zr (Yn q a b) N (.to (.h4 (i:Int) (b.length:Int) out last first fin ((D6.cuts (a++b)).length) (Wu (Xp (D6.ends (a++b)))) x x' o1 (acc++D6.inn (b.drop j) x)))
 | 0,j,acc,h,h'=>by have _u:=ha;have _v:=hb;refine ⟨0,fun N=> ?_⟩;rw [Ar (by omega),show D6.inn ([]:List R6) x=[] from rfl,AD,Bl,show j=b.length by omega]
 | k+1,j,acc,h,h'=>by
  have hj:j<b.length:=by omega
  obtain ⟨n,hn⟩:=u7j i out last first fin x x' o1 k (j+1) (acc++D6.inn [rd b j] x) (by omega) (by have:=D6.inn_length [rd b j] x;grind)
  refine ⟨n+1,fun N=> ?_⟩;have e:D6.inn (b.drop j) x=D6.inn [rd b j] x++D6.inn (b.drop (j+1)) x:=by rw [Yq hj,←D6.inn_append];rfl
  rw [e,←Ay,Zw,←AJ,←hn N];by_cases h1:D6.lo (rd b j)≤x
  ·by_cases h2:x<D6.hi (rd b j)
   ·rw [D6.inn_t _ _ h1 h2];simp only [D6] at h1 h2 ⊢;simp (disch:=omega) only [Yn,Xs,Zc,Zq,Yz,Zt,Yc,Yv,Yj,Zf,Zk,Zx,Yd,Zj,Af,Ao,Ah,Aj,Ab,Aa]
   ·rw [D6.inn_f2 _ _ h2,AD];simp only [D6] at h1 h2;simp (disch:=omega) only [Yn,Xs,Yf,Zc,Zq,Yz,Zt,Yc,Yv,Yj,Zf,Zk,Zx,Yd,Zj,Af,Ao,Ah,Aj,Ab,Aa]
  ·rw [D6.inn_f1 _ _ h1,AD];simp only [D6] at h1;simp (disch:=omega) only [Yn,w3b,Zc,Zq,Yz,Zt,Yc,Yv,Yj,Zf,Zk,Zx,Yd,Zj,Af,Ao,Ah,Aj,Ab,Aa]
theorem u7i (i:Nat) (hi:i≤2000) (x x':Int) (s:List R4) (first:Int) (o1 o2:List R4) (hs:s.length≤1000): ∀(k j:Nat) (out:List R6),j+k=s.length→out.length≤10000000+j→
  ∃n,∀N,Zr (Yn q a b) (N+n) (.to (.h5 x x' s (s.length:Int) (j:Int) (i:Int) out first ((D6.cuts (a++b)).length) (Wu (Xp (D6.ends (a++b)))) o1 o2))=Zr (Yn q a b) N (.to (.h2 ((i+1:Nat):Int) (out++(s.drop j).map (D6.put x x')) s first x' ((D6.cuts (a++b)).length) (Wu (Xp (D6.ends (a++b))))))
 | 0,j,out,h,ho=>by
  have _u:=ha;have _v:=hb;refine ⟨1,fun N=> ?_⟩
  grind [Zw,Yn,Zk]
 | k+1,j,out,h,ho=>by
  obtain ⟨n,hn⟩:=u7i i hi x x' s first o1 o2 hs k (j+1) (out++[D6.put x x' (rd s j)]) (by omega) (by simp;omega)
  refine ⟨n+1,fun N=> ?_⟩;have:=hn N;rw [Yq (show j<s.length by omega),AU,←Ay,Zw];simp (disch:=omega) only [Yn,Zc,Zq,Yz,Zt,Yc,Yv,Yj,Zf,Zk,Zx,Yd,Zj,Af,Ao,Ah,Aj,Ab,Aa];rw [AJ] at this;exact this
theorem u7h (i:Nat) (hi:i≤2000) (x x' fin:Int) (s last:List R4) (first:Int) (o1 o2:List R4): ∀(k j:Nat) (out:List R6),j+k=out.length→out.length≤10000000→
  ∃n,∀N,Zr (Yn q a b) (N+n) (.to (.h6 x' (j:Int) x s (i:Int) out last first fin ((D6.cuts (a++b)).length) (Wu (Xp (D6.ends (a++b)))) o1 o2))=Zr (Yn q a b) N (.to (.h2 ((i+1:Nat):Int) (D6.grow out j x') last first x' ((D6.cuts (a++b)).length) (Wu (Xp (D6.ends (a++b))))))
 | 0,j,out,h,ho=>by
  have _u:=ha;have _v:=hb;refine ⟨1,fun N=> ?_⟩;rw [D6.grow_nil _ _ _ (by omega),Zw]
  grind [Yn,Zk]
 | k+1,j,out,h,ho=>by
  obtain ⟨n,hn⟩:=u7h i hi x x' fin s last first o1 o2 k (j+1) (out.set j (D6.ext x' (rd out j))) (by simp;omega) (by grind)
  refine ⟨n+1,fun N=> ?_⟩;have:=hn N;rw [D6.grow_set out j _ (by omega)] at this;rw [←Ay,Zw];simp (disch:=omega) only [Yn,Zc,Zq,Yz,Zt,Yc,Yv,Yj,Zf,Zk,Zx,Yd,Zj,Af,Ao,Ah,Aj,Ab,Aa];exact this
theorem v3o : ∀(k i:Nat) (s:Sw R6 R4),k=(D6.cuts (a++b)).length - 1 - i→i≤(D6.cuts (a++b)).length →s.out.length≤i*1000→s.last.length≤1000→s.first≤s.out.length→
  ∃n,Zr (Yn q a b) n (.to (.h2 ((i+1:Nat):Int) s.out s.last (s.first:Int) s.fin ((D6.cuts (a++b)).length) (Wu (Xp (D6.ends (a++b))))))=.ret (z7y (eJ (y7o (slA q a b) (D6.cuts (a++b)) k i) (D6.goS (slS q a b) (D6.cuts (a++b)) k i s).out.length) (D6.goS (slS q a b) (D6.cuts (a++b)) k i s).out)
 | 0,i,s,h,hi,ho,hla,hf=>by
  have _u:=ha;have _v:=hb;have hc:=D6.cuts_length (a++b);refine ⟨1,?_⟩;rw [Zw,show D6.goS (slS q a b) (D6.cuts (a++b)) 0 i s=s from rfl,show y7o (slA q a b) (D6.cuts (a++b)) 0 i=0 from rfl,w5i]
  grind [z1w,Yn,Zp]
 | k +1,i,s,h,hi,ho,hla,hf=>by
  have hc:=D6.cuts_length (a++b);rw [AH] at hc;have hi1:i+1<(D6.cuts (a++b)).length :=by omega
  have hpl:(Wu (Xp (D6.ends (a++b)))).length =2*(a.length+b.length):=by rw [Vf,Vy,D6.ends_length,AH]
  have r0:rd (Wu (Xp (D6.ends (a++b)))) i=rd (D6.cuts (a++b)) i:=z5a _ _ (by show i<(D6.cuts (a++b)).length;omega);have r1:rd (Wu (Xp (D6.ends (a++b)))) (i+1)=rd (D6.cuts (a++b)) (i+1):=z5a _ _ (by show i+1<(D6.cuts (a++b)).length;omega);have hbig:i*1000≤2000*1000:=AA _ (by omega);have hgo:D6.goS (slS q a b) (D6.cuts (a++b)) (k+1) i s=D6.goS (slS q a b) (D6.cuts (a++b)) k (i+1) (D6.oneS (slS q a b (rd (D6.cuts (a++b)) i)) (rd (D6.cuts (a++b)) i) (rd (D6.cuts (a++b)) (i+1)) s):=rfl;have hfe: ∀x,x=rd (D6.cuts (a++b)) i→(slA q a b x != 0)=false→y7o (slA q a b) (D6.cuts (a++b)) (k+1) i=y7o (slA q a b) (D6.cuts (a++b)) k (i+1):=fun x hx z=>by
   show (bif slA q a b (rd (D6.cuts (a++b)) i) != 0 then _ else _)=_
   grind
  revert hgo hfe r0;generalize hx:rd (D6.cuts (a++b)) i=x;generalize hx':rd (D6.cuts (a++b)) (i+1)=x' at r1;intro r0 hgo hfe;obtain ⟨n3,h3⟩:=u7k q a b ha hb (i+1) s.out s.last (s.first:Int) s.fin x x' a.length 0 [] (Af _) (Aq _);simp only [AT,A8,z7u] at h3;obtain ⟨n4,h4⟩:=u7j q a b ha hb (i+1) s.out s.last (s.first:Int) s.fin x x' (D6.inn a x) b.length 0 [] (Af _) (Aq _);simp only [AT,A8,z7u] at h4;have st0: ∀N,Zr (Yn q a b) (N+n4+n3+1) (.to (.h2 ((i+1:Nat):Int) s.out s.last (s.first:Int) s.fin ((D6.cuts (a++b)).length) (Wu (Xp (D6.ends (a++b))))))=Zr (Yn q a b) N (.to (.h4 ((i+1:Nat):Int) (b.length:Int) s.out s.last (s.first:Int) s.fin ((D6.cuts (a++b)).length) (Wu (Xp (D6.ends (a++b)))) x x' (D6.inn a x) (D6.inn b x))):=fun N=>by
   rw [←h4 N,←h3 (N+n4),Zw];have e1:wrap .i64 (((i+1:Nat):Int) - 1)=(i:Int):=by rw [Yy];exact Zk (by omega)
   simp (disch:=omega) only [Yn,e1,r0,r1,Zc,Zq,Yz,Zt,Yc,Yv,Yj,Zf,Zk,Zx,Yd,Zj,Af,Ao,Ah,Aj,Ab,Aa]
  have w1:Uv (D6.inn a x)=true:=rfl;have w3:Uv (D6.inn b x)=true:=rfl;have w4:Vi q (Ze (D6.inn a x)) (Ze (D6.inn b x))=true:=rfl;rcases Yp (slA q a b x != 0) with z | z
  ·refine ⟨1+n4+n3+1,?_⟩;rw [st0 1,Zw];have e:y7o (slA q a b) (D6.cuts (a++b)) (k+1) i=slA q a b x:=by show (bif slA q a b (rd (D6.cuts (a++b)) i) != 0 then slA q a b (rd (D6.cuts (a++b)) i) else _)=_;grind
   rw [e,show eJ (slA q a b x) _=slA q a b x by unfold eJ;rw [z];rfl,Uz _ z];unfold slA at z ⊢;rcases Yp (Ww (D6.inn a x) != 0) with y1 | y1
   ·simp (disch:=omega) only [Yn,Yf,y0o,y1,Az,w1,w3,w4,Zc,Zq,Yz,Zt,Yc,Yv,Yj,Zf,Zk,Zx,Yd,Zj,Af,Ao,Ah,Aj,Ab,Aa,Zp]
   ·rcases Yp (Ww (D6.inn b x) != 0) with y2 | y2
    ·simp (disch:=omega) only [Yn,Yf,y0o,y1,y2,Az,AE,w1,w3,w4,Zc,Zq,Yz,Zt,Yc,Yv,Yj,Zf,Zk,Zx,Yd,Zj,Af,Ao,Ah,Aj,Ab,Aa,Zp]
    ·rw [y1,y2,Aa,Aa] at z;have z':(Jc q (Ze (D6.inn a x)) (Ze (D6.inn b x)) != 0)=true:=z;simp (disch:=omega) only [Yn,Yf,y0o,y1,y2,z',AE,w1,w3,w4,Zc,Zq,Yz,Zt,Yc,Yv,Yj,Zf,Zk,Zx,Yd,Zj,Af,Ao,Ah,Aj,Ab,Aa,Zp];rfl
  obtain ⟨y1,y2,y3⟩:=w4t (show slA q a b x=0 by simpa using z);have y1:(Ww (D6.inn a x) == 0)=true:=by rw [y1];rfl
  have y2:(Ww (D6.inn b x) == 0)=true:=by rw [y2];rfl
  have z':(Jc q (Ze (D6.inn a x)) (Ze (D6.inn b x)) != 0)=false:=by show (rgE q _ _ != 0)=false;rw [y3];rfl
  have v:Xc q (Ze (D6.inn a x)) (Ze (D6.inn b x))=slS q a b x:=x6w _ z';have hsl:=j3g q a b x z;have w2:We s.last (slS q a b x)=true:=An (by omega);rw [hgo,hfe x rfl z];have ol:(D6.oneS (slS q a b x) x x' s).out.length ≤s.out.length+(slS q a b x).length :=by
   grind [Dim.oneS,Dim.grow_length]
  rcases Yp (decide (0<(slS q a b x).length)&&((s.fin == x)&&D6.same s.last (slS q a b x))) with g | g
  ·obtain ⟨n6,h6⟩:=u7h q a b ha hb (i+1) (by omega) x x' s.fin (slS q a b x) s.last (s.first:Int) (D6.inn a x) (D6.inn b x) (s.out.length - s.first) s.first s.out (by omega) (by omega)
   have e:D6.oneS (slS q a b x) x x' s=⟨D6.grow s.out s.first x',s.last,s.first,x'⟩:=by unfold Dim.oneS;rw [g];rfl
   obtain ⟨n0,h0⟩:=v3o k (i+1) (D6.oneS (slS q a b x) x x' s) (by omega) (by omega) (by omega) (by grind) (by grind [Dim.grow_length]);refine ⟨n0+n6+1+n4+n3+1,?_⟩;rw [st0 (n0+n6+1),Zw];simp only [Ae,As] at g;obtain ⟨g1,g2,g3⟩:=g;have g3':Ur s.last (slS q a b x)=true:=g3;simp (disch:=omega) only [Yn,Yf,Xv,y1,y2,z',v,g2,g3',w1,w3,w4,w2,Zc,Zq,Yz,Zt,Yc,Yv,Yj,Zf,Zk,Zx,Yd,Zj,Af,Ao,Ah,Aj,Ab,Aa]
   grind
  ·obtain ⟨n5,h5⟩:=u7i q a b ha hb (i+1) (by omega) x x' (slS q a b x) (s.out.length:Int) (D6.inn a x) (D6.inn b x) hsl (slS q a b x).length 0 s.out (Af _) (by omega);simp only [AT,z7u] at h5;have e:D6.oneS (slS q a b x) x x' s=⟨s.out++(slS q a b x).map (D6.put x x'),slS q a b x,s.out.length,x'⟩:=by unfold Dim.oneS;rw [g];rfl
   obtain ⟨n0,h0⟩:=v3o k (i+1) (D6.oneS (slS q a b x) x x' s) (by omega) (by omega) (by omega) (by grind) (by rw [e];simp);have hg:Zr (Yn q a b) 1 (.to (.h4 ((i+1:Nat):Int) (b.length:Int) s.out s.last (s.first:Int) s.fin ((D6.cuts (a++b)).length) (Wu (Xp (D6.ends (a++b)))) x x' (D6.inn a x) (D6.inn b x)))=.to (.h5 x x' (slS q a b x) ((slS q a b x).length :Int) 0 ((i+1:Nat):Int) s.out (s.out.length:Int) ((D6.cuts (a++b)).length) (Wu (Xp (D6.ends (a++b)))) (D6.inn a x) (D6.inn b x)):=by
    rw [show (1:Nat)=0+1 from rfl,Zw];have e3:D6.same s.last (slS q a b x)=Ur s.last (slS q a b x):=rfl;rw [e3] at g;by_cases g1:0<(slS q a b x).length
    ·rw [An g1,Aj] at g;rcases Yp (s.fin == x) with g2 | g2
     ·rw [g2,Aj] at g;simp (disch:=omega) only [Yn,Yf,Xv,y1,y2,z',v,g2,g,w1,w3,w4,w2,Zc,Zq,Yz,Zt,Yc,Yv,Yj,Zf,Zk,Zx,Yd,Zj,Af,Ao,Ah,Aj,Ab,Aa];rfl
     ·simp (disch:=omega) only [Yn,Yf,Xv,y1,y2,z',v,g2,w1,w3,w4,w2,Zc,Zq,Yz,Zt,Yc,Yv,Yj,Zf,Zk,Zx,Yd,Zj,Af,Ao,Ah,Aj,Ab,Aa];rfl
    ·simp (disch:=omega) only [Yn,Yf,Wk,y1,y2,z',v,w1,w3,w4,w2,Zc,Zq,Yz,Zt,Yc,Yv,Yj,Zf,Zk,Zx,Yd,Zj,Af,Ao,Ah,Aj,Ab,Aa];rfl
   refine ⟨n0+n5+1+n4+n3+1,?_⟩;simp_all [z9h]
theorem u7l : ∀(k i:Nat) (acc:List Int),i+k=b.length→acc=D6.ends (a++b.take i)→ ∃n,Zr (Yn q a b) n (.to (.h1 (i:Int) acc))=.ret (z7y (eJ (y7o (slA q a b) (D6.cuts (a++b)) ((D6.cuts (a++b)).length - 1) 0) (D6.goS (slS q a b) (D6.cuts (a++b)) ((D6.cuts (a++b)).length - 1) 0 ⟨[],[],0,0⟩).out.length) (D6.goS (slS q a b) (D6.cuts (a++b)) ((D6.cuts (a++b)).length - 1) 0 ⟨[],[],0,0⟩).out)
 | 0,i,acc,h,h'=>by
  have _u:=ha;have _v:=hb;have e:acc=D6.ends (a++b):=by grind
  subst e;have hle:=D6.ends_length (a++b);rw [AH] at hle;obtain ⟨n,hn⟩:=v3o q a b ha hb ((D6.cuts (a++b)).length - 1) 0 ⟨[],[],0,0⟩ (by omega) (AC _) (AC _) (AC _) (AC _);refine ⟨n+1,?_⟩;rw [Zw];simp (disch:=omega) only [Yn,Jj,Qv,z7t,Yf,Yv,Yj,Ao,Ab,Aa];exact hn
 | k+1,i,acc,h,h'=>by
  have hle:acc.length≤2*(400+i):=by rw [h',D6.ends_length];grind
  obtain ⟨n,hn⟩:=u7l k (i+1) (acc++D6.ends [rd b i]) (by omega) (by
   rw [h',AY]
   grind [Yo,Dim.ends])
  refine ⟨n+1,?_⟩;rw [Zw];simp (disch:=omega) only [Yn,Zc,Zq,Yz,Zt,Yc,Yv,Yj,Zf,Zk,Zx,Yd,Zj,Af,Ao,Ah,Aj,Ab,Aa];exact hn
theorem u7m : ∀(k i:Nat) (acc:List Int),i+k=a.length→acc=D6.ends (a.take i)→ ∃n,Zr (Yn q a b) n (.to (.h0 (i:Int) acc))=.ret (z7y (eJ (y7o (slA q a b) (D6.cuts (a++b)) ((D6.cuts (a++b)).length - 1) 0) (D6.goS (slS q a b) (D6.cuts (a++b)) ((D6.cuts (a++b)).length - 1) 0 ⟨[],[],0,0⟩).out.length) (D6.goS (slS q a b) (D6.cuts (a++b)) ((D6.cuts (a++b)).length - 1) 0 ⟨[],[],0,0⟩).out)
 | 0,i,acc,h,h'=>by
  have _u:=ha;have _v:=hb;obtain ⟨n,hn⟩:=u7l q a b ha hb b.length 0 acc (Af _) (by grind);refine ⟨n+1,?_⟩
  grind [Zw,Yn]
 | k+1,i,acc,h,h'=>by
  have hle:acc.length≤2*(400+i):=by rw [h',D6.ends_length];grind
  obtain ⟨n,hn⟩:=u7m k (i+1) (acc++D6.ends [rd a i]) (by omega) (by
   rw [h',AY]
   grind [Yo,Dim.ends])
  refine ⟨n+1,?_⟩;rw [Zw];simp (disch:=omega) only [Yn,Zc,Zq,Yz,Zt,Yc,Yv,Yj,Zf,Zk,Zx,Yd,Zj,Af,Ao,Ah,Aj,Ab,Aa];exact hn
end
def slJ (q:Op) (a b:List R6):List R6:=(D6.goS (slS q a b) (D6.cuts (a++b)) ((D6.cuts (a++b)).length - 1) 0 ⟨[],[],0,0⟩).out
def slE (q:Op) (a b:List R6):Int:=bif Zn a != 0 then Zn a else bif Zn b != 0 then Zn b else eJ (y7o (slA q a b) (D6.cuts (a++b)) ((D6.cuts (a++b)).length - 1) 0) (slJ q a b).length
def z2i (q:Op) (a b:List R6):List R6:=y8o (slE q a b) (slJ q a b)
def z4q (q:Op) (a b:List R6):Int:=slE q a b
def y3s (q:Op) (a b:List R6):Bool:=true
theorem z5t {l:List R6} (h:(Zn l != 0)=false):l.length≤400:=by
 grind [Zn]
theorem sl_run (q:Op) (a b:List R6) (h:y3s q a b=true): ∃n,Zr (Yn q a b) n (y3r q a b)=.ret (z7y (slE q a b) (slJ q a b)):=by
 unfold y3r;have o: ∀l,Vx l=true:=fun _=>rfl;simp only [Zc,o,Ab];rcases Yp (Zn a != 0) with q1 | q1
 ·exact ⟨0,by simp only [slE,q1,Ab,Uz _ q1];rfl⟩
 rcases Yp (Zn b != 0) with q2 | q2
 ·exact ⟨0,by simp only [slE,q1,q2,Ab,Aa,Uz _ q2];rfl⟩
 obtain ⟨n,hn⟩:=u7m q a b (z5t q1) (z5t q2) a.length 0 [] (Af _) rfl;refine ⟨n,?_⟩;simp only [slE,q1,q2,Aa];exact hn
def fSl (q:Op):List AVal→Option (AVal×Bool)
 | [a0,a1]=>match asL R6 a0,asL R6 a1 with
  | some (L0,g0,n0),some (L1,g1,n1)=>some (.tup [.dat (z2i q L0 L1).length (Zz (z2i q L0 L1)),.int .i64 (z4q q L0 L1)],isT R6 n0 g0&&(isT R6 n1 g1&&(y3s q L0 L1)))
  | _,_=>none
 | _=>none
theorem v8b (q:Op) {S:Specs} (hS:Zu prog S):Zu prog (S.with (nSl q) (fSl q)):=by
 refine w6t hS (by cases q <;> kernel_rfl) fun args v h=> ?_;unfold fSl at h;split at h
 ·rename_i a0 a1;split at h
  ·rename_i L0 g0 n0 L1 g1 n1 e0 e1;simp only [Ad,Ac,Ae] at h;obtain ⟨rfl,ho0,ho1,hw⟩:=h;obtain ⟨N,hN⟩:=sl_run q L0 L1 hw;exact ⟨_,_,(.cons (Yh e0 ho0) (.cons (Yh e1 ho1) .nil)),z0i _ _,u0q q L0 L1 N _ hN,3,z4y _ _⟩
  ·cases h
 ·cases h
structure R7 where
 (a b c d e f g:Int)
instance : Xq R7 where
 w:=7
 d:=⟨0,0,0,0,0,0,0⟩
 cells x:=[.int .u8 x.a,.int .i64 x.b,.int .i64 x.c,.int .i64 x.d,.int .i64 x.e,.int .i64 x.f,.int .i64 x.g]
 of l:=⟨iOf (l.getD 0 .undef),iOf (l.getD 1 .undef),iOf (l.getD 2 .undef),iOf (l.getD 3 .undef),iOf (l.getD 4 .undef),iOf (l.getD 5 .undef),iOf (l.getD 6 .undef)⟩
 len _:=rfl
 pos:=by decide
 flat _:=rfl
 sc _:=rfl
 back _:=rfl
inductive Ax where
 | x | y | z
def Ax.lo (q:Ax) (r:R6):Int:=match q with
 | .x =>r.a
 | .y =>r.b
 | .z =>r.c
def Ax.hi (q:Ax) (r:R6):Int:=match q with
 | .x =>r.d
 | .y =>r.e
 | .z =>r.f
def Ax.rc (q:Ax) (r:R6):R4:=match q with
 | .x =>⟨r.b,r.c,r.e,r.f⟩
 | .y =>⟨r.a,r.c,r.d,r.f⟩
 | .z =>⟨r.a,r.b,r.d,r.e⟩
def Ax.ix (q:Ax):Int:=match q with
 | .x =>0
 | .y =>1
 | .z =>2
def sdI (s:Bool):Int:=match s with
 | true=>0
 | false=>1
def qd (q:Ax) (s:Bool) (p:Int) (t:R4):R7:=match q,s with
 | .x,true=>⟨0,p,t.a,t.b,p,t.c,t.d⟩
 | .x,false=>⟨1,p,t.a,t.b,p,t.c,t.d⟩
 | .y,true=>⟨2,t.a,p,t.b,t.c,p,t.d⟩
 | .y,false=>⟨3,t.a,p,t.b,t.c,p,t.d⟩
 | .z,true=>⟨4,t.a,t.b,p,t.c,t.d,p⟩
 | .z,false=>⟨5,t.a,t.b,p,t.c,t.d,p⟩
def Kg (q:Ax) (L:List R6) (p:Int):List R4:=(L.filter fun r=>decide (q.lo r≤p)&&decide (p<q.hi r)).map q.rc
structure Pa where
 (a b c d e f:Int)
 s:List R6
instance : Xq Pa where
 w:=7
 d:=⟨0,0,0,0,0,0,[]⟩
 cells x:=[.int .i64 x.a,.int .i64 x.b,.int .i64 x.c,.int .i64 x.d,.int .i64 x.e,.int .i64 x.f,.dat x.s.length (Zz x.s)]
 of l:=⟨iOf (l.getD 0 .undef),iOf (l.getD 1 .undef),iOf (l.getD 2 .undef),iOf (l.getD 3 .undef),iOf (l.getD 4 .undef),iOf (l.getD 5 .undef),match l.getD 6 .undef with
  | .dat n g=>lst R6 n g
  | _=>[]⟩
 len _:=rfl
 pos:=by decide
 flat _:=rfl
 sc _:=rfl
 back x:=by show Pa.mk x.a x.b x.c x.d x.e x.f (lst R6 x.s.length (Zz x.s))=x;rw [Zq]
abbrev j0t :Nat:=81
abbrev nFlat :Nat:=82
abbrev nBack :Nat:=80
abbrev w5s :Nat:=54
abbrev j0j :Nat:=56
abbrev nSCut :Nat:=47
abbrev v6j :Nat:=20
abbrev v6g :Nat:=44
abbrev v6i :Nat:=14
abbrev nSkin :Nat:=16
abbrev nStep :Nat:=18
abbrev nRvb :Nat:=60
abbrev nRcm :Nat:=61
abbrev nRib :Nat:=30
abbrev nRlc :Nat:=21
abbrev nRln :Nat:=9
abbrev j0k :Nat:=29
abbrev v6k :Nat:=23
abbrev v6p :Nat:=26
abbrev w5y :Nat:=64
abbrev w5w :Nat:=37
def Va :Specs:=((Ud.with (nSl .u) (fSl .u)).with (nSl .e) (fSl .e)).with (nSl .d) (fSl .d)
theorem Xj :Zu prog Va:=v8b .d (v8b .e (v8b .u Jo))
inductive finS where
def finC (aH:Int) (aO:Int) (aN:Int):finS→Cfg
 :=nofun
def w2r (aH:Int) (aO:Int) (aN:Int):finS→Xw finS
 :=nofun
def y5c (aH:Int) (aO:Int) (aN:Int):Xw finS:=(bif (decide ((z0r (z0r aH aO) aN)≥(-1000000))) then (.ret [(.bool (decide ((z0s (z0s aH aO) aN)≤1000000)))]) else (.ret [(.bool false)]))
theorem v0t (aH:Int) (aO:Int) (aN:Int): ∀s,Yt prog (Zy prog 101) (finC aH aO aN) (finC aH aO aN s) (w2r aH aO aN s)
 :=nofun
theorem w2s (aH:Int) (aO:Int) (aN:Int):Yt prog (Zy prog 101) (finC aH aO aN) (Zg prog 101 [(.agg [(.int .i64 aH),(.int .i64 aO),(.int .i64 aN)])] true []) (y5c aH aO aN):=(lb (fun k0=>(lr 21 3 [1,1,1,1,0] 1 9 [(2,(.bool (decide ((z0s (z0s aH aO) aN)≤1000000))))] (sl Xj 27 [] ⟨[],[],[some [2]],[]⟩ ⟨[],[],[]⟩ (trs 8 []) (tt k0 nn)))) (fun k0=>(lr 21 3 [1,1,1,1,0] 1 9 [(2,(.bool false))] (sl Xj 27 [] ⟨[],[],[some [2]],[]⟩ ⟨[],[],[]⟩ [false,false,false,false,false,false,false,false] (tt k0 nn)))))
theorem u5e (aH:Int) (aO:Int) (aN:Int) (n:Nat) (vs:List AVal) (h:Zr (w2r aH aO aN) n (y5c aH aO aN)=.ret vs):Jy prog (Zy prog 101) (Zg prog 101 [(.agg [(.int .i64 aH),(.int .i64 aO),(.int .i64 aN)])] true []) vs:=by have:=Zd (v0t aH aO aN) n _ (w2s aH aO aN);rwa [h] at this
-- start: index into an array (choices [false, false, false])
inductive marS where
def marC (aH:Int) (aO:Int) (aN:Int) (aR:Int) (aW:Int) (aV:Int) (cW:Int):marS→Cfg
 :=nofun
def w1l (aH:Int) (aO:Int) (aN:Int) (aR:Int) (aW:Int) (aV:Int) (cW:Int):marS→Xw marS
 :=nofun
def y4s (aH:Int) (aO:Int) (aN:Int) (aR:Int) (aW:Int) (aV:Int) (cW:Int):Xw marS:=(bif (decide ((wrap IntKind.u8 (Int.tdiv aH 2))=Int.ofNat 0)) then (.ret [(.int .i64 (wrap .i64 ((wrap .i64 (aV - aN))*(wrap .i64 (cW - aR)))))]) else (bif (decide ((wrap IntKind.u8 (Int.tdiv aH 2))=Int.ofNat 1)) then (.ret [(.int .i64 (wrap .i64 ((wrap .i64 (aW - aO))*(wrap .i64 (cW - aR)))))]) else (bif (decide ((wrap IntKind.u8 (Int.tdiv aH 2))=Int.ofNat 2)) then (.ret [(.int .i64 (wrap .i64 ((wrap .i64 (aW - aO))*(wrap .i64 (aV - aN)))))]) else .stuck)))
theorem w9x (aH:Int) (aO:Int) (aN:Int) (aR:Int) (aW:Int) (aV:Int) (cW:Int): ∀s,Yt prog (Zy prog 70) (marC aH aO aN aR aW aV cW) (marC aH aO aN aR aW aV cW s) (w1l aH aO aN aR aW aV cW s)
 :=nofun
theorem w1m (aH:Int) (aO:Int) (aN:Int) (aR:Int) (aW:Int) (aV:Int) (cW:Int):Yt prog (Zy prog 70) (marC aH aO aN aR aW aV cW) (Zg prog 70 [(.agg [(.int .u8 aH),(.int .i64 aO),(.int .i64 aN),(.int .i64 aR),(.int .i64 aW),(.int .i64 aV),(.int .i64 cW)])] true []) (y4s aH aO aN aR aW aV cW):=(lb (fun k0=>(lr 25 3 [1,1,1,1,0] 1 9 [(2,(ii (wr ((wr (aV - aN))*(wr (cW - aR))))))] (sl Xj 22 [] ⟨[],[],[some [2]],[]⟩ ⟨[],[],[]⟩ [false] (ww k0 nn)))) (fun k0=>(lb (fun k1=>(lr 25 3 [1,1,1,1,0] 1 9 [(2,(ii (wr ((wr (aW - aO))*(wr (cW - aR))))))] (sl Xj 22 [] ⟨[],[],[some [2]],[]⟩ ⟨[],[],[]⟩ [true,false] (ww k1 nn)))) (fun k1=>(lb (fun k2=>(lr 25 3 [1,1,1,1,0] 1 9 [(2,(ii (wr ((wr (aW - aO))*(wr (aV - aN))))))] (sl Xj 22 [] ⟨[],[],[some [2]],[]⟩ ⟨[],[],[]⟩ [true,true,false] (ww k2 nn)))) (fun k2=>trivial))))))
theorem u4e (aH:Int) (aO:Int) (aN:Int) (aR:Int) (aW:Int) (aV:Int) (cW:Int) (n:Nat) (vs:List AVal) (h:Zr (w1l aH aO aN aR aW aV cW) n (y4s aH aO aN aR aW aV cW)=.ret vs):Jy prog (Zy prog 70) (Zg prog 70 [(.agg [(.int .u8 aH),(.int .i64 aO),(.int .i64 aN),(.int .i64 aR),(.int .i64 aW),(.int .i64 aV),(.int .i64 cW)])] true []) vs:=by have:=Zd (w9x aH aO aN aR aW aV cW) n _ (w1m aH aO aN aR aW aV cW);rwa [h] at this
inductive svoS where
 | h0 (v5:Int) (v18:Int)
def svoC (l0:List R6):svoS→Cfg
 | .h0 v5 v18=>⟨⟨37,0,true⟩,none,(Zb prog 63 [1,1,1,0,1,0,0] 0),none,(Zy prog 14),⟨Yg [(5,(ii v5)),(16,(.dat l0.length (Zz l0))),(17,(ii (l0.length:Int))),(18,(ii v18))],Vj [] 0,0,[],true⟩,[],.leaf⟩
def svoN0 :List (Option (List Nat)):=[some [5,16,17,18]]
def svoM0 :List (Option (List Nat)):=[]
def y0g (l0:List R6):svoS→Xw svoS
 | .h0 v5 v18=>(bif (decide (v18<(l0.length:Int))) then (bif ((decide (0≤v18∧v18<(l0.length:Int)))&&true) then (.to (.h0 (wrap .i64 (v5+(wrap .i64 ((wrap .i64 ((wrap .i64 ((rd l0 v18.toNat).d - (rd l0 v18.toNat).a))*(wrap .i64 ((rd l0 v18.toNat).e - (rd l0 v18.toNat).b))))*(wrap .i64 ((rd l0 v18.toNat).f - (rd l0 v18.toNat).c)))))) (wrap .i64 (v18+1)))) else .stuck) else (.ret [(.int .i64 v5),(.int .i64 0)]))
def y3n (l0:List R6):Xw svoS:=(bif (Vx (cvT l0)) then (bif ((Zn (cvT l0)) != 0) then (.ret [(.int .i64 0),(.int .i64 (Zn (cvT l0)))]) else (.to (.h0 0 0))) else .stuck)
theorem w7o (l0:List R6): ∀s,Yt prog (Zy prog 63) (svoC l0) (svoC l0 s) (y0g l0 s)
 | .h0 v5 v18=>(lb (fun k0=>(lo fun o0=>(sl Xj 54 [] ⟨[],[],svoN0,svoM0⟩ ⟨[],[],[]⟩ [true] (ww o0 (tt k0 nn))))) (fun k0=>(lr 37 3 [1,1,1,1,0] 1 14 [(2,(ii v5)),(3,(ii 0))] (sl Xj 13 [] ⟨[],[],[some [2,3]],[]⟩ ⟨[],[],[]⟩ [false] (tt k0 nn)))))
theorem x8p (l0:List R6):Yt prog (Zy prog 63) (svoC l0) (Zg prog 63 [(.dat l0.length (Zz l0))] true []) (y3n l0):=(lo fun bV=>(lb (fun k0=>(lr 37 63 [1,0,1,1,0,0] 1 14 [(2,(ii 0)),(3,(ii (Zn (cvT l0))))] (sl Xj 24 [] ⟨[],[],[some [2,3]],[]⟩ ⟨[],[],[]⟩ [true] (tt k0 (pp (pp (xr l0) (xw bV)) nn))))) (fun k0=>(sl Xj 32 [] ⟨[],[],svoN0,svoM0⟩ ⟨[],[],[]⟩ [false] (tt k0 (pp (pp (xr l0) (xw bV)) nn))))))
theorem u0l (l0:List R6) (n:Nat) (vs:List AVal) (h:Zr (y0g l0) n (y3n l0)=.ret vs):Jy prog (Zy prog 63) (Zg prog 63 [(.dat l0.length (Zz l0))] true []) vs:=by have:=Zd (w7o l0) n _ (x8p l0);rwa [h] at this
-- start: index into an array (choices [false, false, false])
inductive algS where
def algC (aH:Int) (aS:Int) (aU:Int) (aT:Int):algS→Cfg
 :=nofun
def w3u (aH:Int) (aS:Int) (aU:Int) (aT:Int):algS→Xw algS
 :=nofun
def y5l (aH:Int) (aS:Int) (aU:Int) (aT:Int):Xw algS:=(bif (decide (aH=Int.ofNat 0)) then (.ret [(.int .i64 aS)]) else (bif (decide (aH=Int.ofNat 1)) then (.ret [(.int .i64 aU)]) else (bif (decide (aH=Int.ofNat 2)) then (.ret [(.int .i64 aT)]) else .stuck)))
theorem v1p (aH:Int) (aS:Int) (aU:Int) (aT:Int): ∀s,Yt prog (Zy prog 81) (algC aH aS aU aT) (algC aH aS aU aT s) (w3u aH aS aU aT s)
 :=nofun
theorem w3v (aH:Int) (aS:Int) (aU:Int) (aT:Int):Yt prog (Zy prog 81) (algC aH aS aU aT) (Zg prog 81 [(.agg [(.int .i64 aH)]),(.agg [(.int .i64 aS),(.int .i64 aU),(.int .i64 aT)])] true []) (y5l aH aS aU aT):=(lb (fun k0=>(lr 15 3 [1,1,1,1,0] 1 6 [(4,(ii aS))] (sl Xj 20 [] ⟨[],[],[some [4]],[]⟩ ⟨[],[],[]⟩ [false] (ww k0 nn)))) (fun k0=>(lb (fun k1=>(lr 15 3 [1,1,1,1,0] 1 6 [(4,(ii aU))] (sl Xj 20 [] ⟨[],[],[some [4]],[]⟩ ⟨[],[],[]⟩ [true,false] (ww k1 nn)))) (fun k1=>(lb (fun k2=>(lr 15 3 [1,1,1,1,0] 1 6 [(4,(ii aT))] (sl Xj 20 [] ⟨[],[],[some [4]],[]⟩ ⟨[],[],[]⟩ [true,true,false] (ww k2 nn)))) (fun k2=>trivial))))))
theorem u6e (aH:Int) (aS:Int) (aU:Int) (aT:Int) (n:Nat) (vs:List AVal) (h:Zr (w3u aH aS aU aT) n (y5l aH aS aU aT)=.ret vs):Jy prog (Zy prog 81) (Zg prog 81 [(.agg [(.int .i64 aH)]),(.agg [(.int .i64 aS),(.int .i64 aU),(.int .i64 aT)])] true []) vs:=by have:=Zd (v1p aH aS aU aT) n _ (w3v aH aS aU aT);rwa [h] at this
-- start: index into an array (choices [false, false, false, false])
inductive fltS where
def fltC (aH:Int) (aS:Int) (aU:Int) (aT:Int):fltS→Cfg
 :=nofun
def w2o (aH:Int) (aS:Int) (aU:Int) (aT:Int):fltS→Xw fltS
 :=nofun
def y5b (aH:Int) (aS:Int) (aU:Int) (aT:Int):Xw fltS:=(bif (aH == 0) then (.ret [(.int .i64 aU),(.int .i64 aT)]) else (bif (decide (aH=Int.ofNat 0)) then (.ret [(.int .i64 aS),(.int .i64 0)]) else (bif (decide (aH=Int.ofNat 1)) then (.ret [(.int .i64 aS),(.int .i64 aT)]) else (bif (decide (aH=Int.ofNat 2)) then (.ret [(.int .i64 aS),(.int .i64 aU)]) else .stuck))))
theorem v0q (aH:Int) (aS:Int) (aU:Int) (aT:Int): ∀s,Yt prog (Zy prog 82) (fltC aH aS aU aT) (fltC aH aS aU aT s) (w2o aH aS aU aT s)
 :=nofun
theorem w2p (aH:Int) (aS:Int) (aU:Int) (aT:Int):Yt prog (Zy prog 82) (fltC aH aS aU aT) (Zg prog 82 [(.agg [(.int .i64 aH)]),(.agg [(.int .i64 aS),(.int .i64 aU),(.int .i64 aT)])] true []) (y5b aH aS aU aT):=(lb (fun k0=>(lr 23 82 [1,0,1,0,0] 1 16 [(4,(ii aU)),(5,(ii aT))] (sl Xj 17 [] ⟨[],[],[some [4,5]],[]⟩ ⟨[],[],[]⟩ [true] (tt k0 nn)))) (fun k0=>(lb (fun k1=>(lr 23 3 [1,1,1,1,0] 1 16 [(4,(ii aS)),(5,(ii 0))] (sl Xj 18 [] ⟨[],[],[some [4,5]],[]⟩ ⟨[],[],[]⟩ [false,false] (ww k1 (tt k0 nn))))) (fun k1=>(lb (fun k2=>(lr 23 3 [1,1,1,1,0] 1 16 [(4,(ii aS)),(5,(ii aT))] (sl Xj 18 [] ⟨[],[],[some [4,5]],[]⟩ ⟨[],[],[]⟩ [false,true,false] (ww k2 (tt k0 nn))))) (fun k2=>(lb (fun k3=>(lr 23 3 [1,1,1,1,0] 1 16 [(4,(ii aS)),(5,(ii aU))] (sl Xj 18 [] ⟨[],[],[some [4,5]],[]⟩ ⟨[],[],[]⟩ [false,true,true,false] (ww k3 (tt k0 nn))))) (fun k3=>trivial))))))))
theorem u5a (aH:Int) (aS:Int) (aU:Int) (aT:Int) (n:Nat) (vs:List AVal) (h:Zr (w2o aH aS aU aT) n (y5b aH aS aU aT)=.ret vs):Jy prog (Zy prog 82) (Zg prog 82 [(.agg [(.int .i64 aH)]),(.agg [(.int .i64 aS),(.int .i64 aU),(.int .i64 aT)])] true []) vs:=by have:=Zd (v0q aH aS aU aT) n _ (w2p aH aS aU aT);rwa [h] at this
-- start: index into an array (choices [false, false, false])
inductive bckS where
def bckC (aH:Int) (x1:Int) (x2:Int) (x3:Int):bckS→Cfg
 :=nofun
def w3q (aH:Int) (x1:Int) (x2:Int) (x3:Int):bckS→Xw bckS
 :=nofun
def y5i (aH:Int) (x1:Int) (x2:Int) (x3:Int):Xw bckS:=(bif (decide (aH=Int.ofNat 0)) then (.ret [(.agg [(.int .i64 x1),(.int .i64 x2),(.int .i64 x3)])]) else (bif (decide (aH=Int.ofNat 1)) then (.ret [(.agg [(.int .i64 x2),(.int .i64 x1),(.int .i64 x3)])]) else (bif (decide (aH=Int.ofNat 2)) then (.ret [(.agg [(.int .i64 x2),(.int .i64 x3),(.int .i64 x1)])]) else .stuck)))
theorem v1n (aH:Int) (x1:Int) (x2:Int) (x3:Int): ∀s,Yt prog (Zy prog 80) (bckC aH x1 x2 x3) (bckC aH x1 x2 x3 s) (w3q aH x1 x2 x3 s)
 :=nofun
theorem w3r (aH:Int) (x1:Int) (x2:Int) (x3:Int):Yt prog (Zy prog 80) (bckC aH x1 x2 x3) (Zg prog 80 [(.agg [(.int .i64 aH)]),(.int .i64 x1),(.int .i64 x2),(.int .i64 x3)] true []) (y5i aH x1 x2 x3):=(lb (fun k0=>(Kf ⟨⟨25,0,true⟩,none,(Zb prog 3 [1,1,1,1,0] 1),none,(Zy prog 80),⟨Yg [(8,(.ptr 0 0))],Vj [⟨[(ii x1),(ii x2),(ii x3)],50,none⟩] 0,1,[],true⟩,[],.leaf⟩ (sl Xj 25 [] ⟨[1],[],[some [8]],[]⟩ ⟨[],[],[]⟩ [false] (ww k0 nn)) rfl (by kernel_rfl))) (fun k0=>(lb (fun k1=>(Kf ⟨⟨25,0,true⟩,none,(Zb prog 3 [1,1,1,1,0] 1),none,(Zy prog 80),⟨Yg [(8,(.ptr 0 0))],Vj [⟨[(ii x2),(ii x1),(ii x3)],50,none⟩] 0,1,[],true⟩,[],.leaf⟩ (sl Xj 25 [] ⟨[1],[],[some [8]],[]⟩ ⟨[],[],[]⟩ [true,false] (ww k1 nn)) rfl (by kernel_rfl))) (fun k1=>(lb (fun k2=>(Kf ⟨⟨25,0,true⟩,none,(Zb prog 3 [1,1,1,1,0] 1),none,(Zy prog 80),⟨Yg [(8,(.ptr 0 0))],Vj [⟨[(ii x2),(ii x3),(ii x1)],50,none⟩] 0,1,[],true⟩,[],.leaf⟩ (sl Xj 25 [] ⟨[1],[],[some [8]],[]⟩ ⟨[],[],[]⟩ [true,true,false] (ww k2 nn)) rfl (by kernel_rfl))) (fun k2=>trivial))))))
theorem u6a (aH:Int) (x1:Int) (x2:Int) (x3:Int) (n:Nat) (vs:List AVal) (h:Zr (w3q aH x1 x2 x3) n (y5i aH x1 x2 x3)=.ret vs):Jy prog (Zy prog 80) (Zg prog 80 [(.agg [(.int .i64 aH)]),(.int .i64 x1),(.int .i64 x2),(.int .i64 x3)] true []) vs:=by have:=Zd (v1n aH x1 x2 x3) n _ (w3r aH x1 x2 x3);rwa [h] at this
inductive insS where
def insC (aH:Int) (aO:Int) (aN:Int) (aR:Int) (aW:Int) (aV:Int) (aS:Int) (aU:Int) (aT:Int) (bT:Int) (bU:Int) (bS:Int):insS→Cfg
 :=nofun
def w2f (aH:Int) (aO:Int) (aN:Int) (aR:Int) (aW:Int) (aV:Int) (aS:Int) (aU:Int) (aT:Int) (bT:Int) (bU:Int) (bS:Int):insS→Xw insS
 :=nofun
def y4x (aH:Int) (aO:Int) (aN:Int) (aR:Int) (aW:Int) (aV:Int) (aS:Int) (aU:Int) (aT:Int) (bT:Int) (bU:Int) (bS:Int):Xw insS:=(bif (decide (aH≥aS)) then (bif (decide (aO≥aU)) then (bif (decide (aN≥aT)) then (bif (decide (aR≤bT)) then (bif (decide (aW≤bU)) then (.ret [(.bool (decide (aV≤bS)))]) else (.ret [(.bool false)])) else (.ret [(.bool false)])) else (.ret [(.bool false)])) else (.ret [(.bool false)])) else (.ret [(.bool false)]))
theorem v0l (aH:Int) (aO:Int) (aN:Int) (aR:Int) (aW:Int) (aV:Int) (aS:Int) (aU:Int) (aT:Int) (bT:Int) (bU:Int) (bS:Int): ∀s,Yt prog (Zy prog 54) (insC aH aO aN aR aW aV aS aU aT bT bU bS) (insC aH aO aN aR aW aV aS aU aT bT bU bS s) (w2f aH aO aN aR aW aV aS aU aT bT bU bS s)
 :=nofun
theorem w2g (aH:Int) (aO:Int) (aN:Int) (aR:Int) (aW:Int) (aV:Int) (aS:Int) (aU:Int) (aT:Int) (bT:Int) (bU:Int) (bS:Int):Yt prog (Zy prog 54) (insC aH aO aN aR aW aV aS aU aT bT bU bS) (Zg prog 54 [(.agg [(.int .i64 aH),(.int .i64 aO),(.int .i64 aN),(.int .i64 aR),(.int .i64 aW),(.int .i64 aV)]),(.agg [(.int .i64 aS),(.int .i64 aU),(.int .i64 aT),(.int .i64 bT),(.int .i64 bU),(.int .i64 bS)])] true []) (y4x aH aO aN aR aW aV aS aU aT bT bU bS):=(lb (fun k0=>(lb (fun k1=>(lb (fun k2=>(lb (fun k3=>(lb (fun k4=>(lr 57 3 [1,1,1,1,0] 1 6 [(4,(.bool (decide (aV≤bS))))] (sl Xj 62 [] ⟨[],[],[some [4]],[]⟩ ⟨[],[],[]⟩ (trs 35 []) (tt k4 (tt k3 (tt k2 (tt k1 (tt k0 nn)))))))) (fun k4=>(lr 57 3 [1,1,1,1,0] 1 6 [(4,(.bool false))] (sl Xj 62 [] ⟨[],[],[some [4]],[]⟩ ⟨[],[],[]⟩ (trs 28 [false,false,false,false,false,false,false]) (tt k4 (tt k3 (tt k2 (tt k1 (tt k0 nn)))))))))) (fun k3=>(lr 57 3 [1,1,1,1,0] 1 6 [(4,(.bool false))] (sl Xj 62 [] ⟨[],[],[some [4]],[]⟩ ⟨[],[],[]⟩ (trs 21 [false,false,false,false,false,false,false,false,false,false,false,false,false,false]) (tt k3 (tt k2 (tt k1 (tt k0 nn))))))))) (fun k2=>(lr 57 3 [1,1,1,1,0] 1 6 [(4,(.bool false))] (sl Xj 62 [] ⟨[],[],[some [4]],[]⟩ ⟨[],[],[]⟩ (trs 14 [false,false,false,false,false,false,false,false,false,false,false,false,false,false,false,false,false,false,false,false,false]) (tt k2 (tt k1 (tt k0 nn)))))))) (fun k1=>(lr 57 3 [1,1,1,1,0] 1 6 [(4,(.bool false))] (sl Xj 62 [] ⟨[],[],[some [4]],[]⟩ ⟨[],[],[]⟩ (trs 7 [false,false,false,false,false,false,false,false,false,false,false,false,false,false,false,false,false,false,false,false,false,false,false,false,false,false,false,false]) (tt k1 (tt k0 nn))))))) (fun k0=>(lr 57 3 [1,1,1,1,0] 1 6 [(4,(.bool false))] (sl Xj 62 [] ⟨[],[],[some [4]],[]⟩ ⟨[],[],[]⟩ [false,false,false,false,false,false,false,false,false,false,false,false,false,false,false,false,false,false,false,false,false,false,false,false,false,false,false,false,false,false,false,false,false,false,false] (tt k0 nn)))))
theorem u4v (aH:Int) (aO:Int) (aN:Int) (aR:Int) (aW:Int) (aV:Int) (aS:Int) (aU:Int) (aT:Int) (bT:Int) (bU:Int) (bS:Int) (n:Nat) (vs:List AVal) (h:Zr (w2f aH aO aN aR aW aV aS aU aT bT bU bS) n (y4x aH aO aN aR aW aV aS aU aT bT bU bS)=.ret vs):Jy prog (Zy prog 54) (Zg prog 54 [(.agg [(.int .i64 aH),(.int .i64 aO),(.int .i64 aN),(.int .i64 aR),(.int .i64 aW),(.int .i64 aV)]),(.agg [(.int .i64 aS),(.int .i64 aU),(.int .i64 aT),(.int .i64 bT),(.int .i64 bU),(.int .i64 bS)])] true []) vs:=by have:=Zd (v0l aH aO aN aR aW aV aS aU aT bT bU bS) n _ (w2g aH aO aN aR aW aV aS aU aT bT bU bS);rwa [h] at this
inductive meeS where
def meeC (aH:Int) (aO:Int) (aN:Int) (aR:Int) (aW:Int) (aV:Int) (aS:Int) (aU:Int) (aT:Int) (bT:Int) (bU:Int) (bS:Int):meeS→Cfg
 :=nofun
def w1h (aH:Int) (aO:Int) (aN:Int) (aR:Int) (aW:Int) (aV:Int) (aS:Int) (aU:Int) (aT:Int) (bT:Int) (bU:Int) (bS:Int):meeS→Xw meeS
 :=nofun
def y4q (aH:Int) (aO:Int) (aN:Int) (aR:Int) (aW:Int) (aV:Int) (aS:Int) (aU:Int) (aT:Int) (bT:Int) (bU:Int) (bS:Int):Xw meeS:=(bif (decide (aH<bT)) then (bif (decide (aS<aR)) then (bif (decide (aO<bU)) then (bif (decide (aU<aW)) then (bif (decide (aN<bS)) then (.ret [(.bool (decide (aT<aV)))]) else (.ret [(.bool false)])) else (.ret [(.bool false)])) else (.ret [(.bool false)])) else (.ret [(.bool false)])) else (.ret [(.bool false)]))
theorem w9t (aH:Int) (aO:Int) (aN:Int) (aR:Int) (aW:Int) (aV:Int) (aS:Int) (aU:Int) (aT:Int) (bT:Int) (bU:Int) (bS:Int): ∀s,Yt prog (Zy prog 56) (meeC aH aO aN aR aW aV aS aU aT bT bU bS) (meeC aH aO aN aR aW aV aS aU aT bT bU bS s) (w1h aH aO aN aR aW aV aS aU aT bT bU bS s)
 :=nofun
theorem w1i (aH:Int) (aO:Int) (aN:Int) (aR:Int) (aW:Int) (aV:Int) (aS:Int) (aU:Int) (aT:Int) (bT:Int) (bU:Int) (bS:Int):Yt prog (Zy prog 56) (meeC aH aO aN aR aW aV aS aU aT bT bU bS) (Zg prog 56 [(.agg [(.int .i64 aH),(.int .i64 aO),(.int .i64 aN),(.int .i64 aR),(.int .i64 aW),(.int .i64 aV)]),(.agg [(.int .i64 aS),(.int .i64 aU),(.int .i64 aT),(.int .i64 bT),(.int .i64 bU),(.int .i64 bS)])] true []) (y4q aH aO aN aR aW aV aS aU aT bT bU bS):=(lb (fun k0=>(lb (fun k1=>(lb (fun k2=>(lb (fun k3=>(lb (fun k4=>(lr 57 3 [1,1,1,1,0] 1 6 [(4,(.bool (decide (aT<aV))))] (sl Xj 62 [] ⟨[],[],[some [4]],[]⟩ ⟨[],[],[]⟩ (trs 35 []) (tt k4 (tt k3 (tt k2 (tt k1 (tt k0 nn)))))))) (fun k4=>(lr 57 3 [1,1,1,1,0] 1 6 [(4,(.bool false))] (sl Xj 62 [] ⟨[],[],[some [4]],[]⟩ ⟨[],[],[]⟩ (trs 28 [false,false,false,false,false,false,false]) (tt k4 (tt k3 (tt k2 (tt k1 (tt k0 nn)))))))))) (fun k3=>(lr 57 3 [1,1,1,1,0] 1 6 [(4,(.bool false))] (sl Xj 62 [] ⟨[],[],[some [4]],[]⟩ ⟨[],[],[]⟩ (trs 21 [false,false,false,false,false,false,false,false,false,false,false,false,false,false]) (tt k3 (tt k2 (tt k1 (tt k0 nn))))))))) (fun k2=>(lr 57 3 [1,1,1,1,0] 1 6 [(4,(.bool false))] (sl Xj 62 [] ⟨[],[],[some [4]],[]⟩ ⟨[],[],[]⟩ (trs 14 [false,false,false,false,false,false,false,false,false,false,false,false,false,false,false,false,false,false,false,false,false]) (tt k2 (tt k1 (tt k0 nn)))))))) (fun k1=>(lr 57 3 [1,1,1,1,0] 1 6 [(4,(.bool false))] (sl Xj 62 [] ⟨[],[],[some [4]],[]⟩ ⟨[],[],[]⟩ (trs 7 [false,false,false,false,false,false,false,false,false,false,false,false,false,false,false,false,false,false,false,false,false,false,false,false,false,false,false,false]) (tt k1 (tt k0 nn))))))) (fun k0=>(lr 57 3 [1,1,1,1,0] 1 6 [(4,(.bool false))] (sl Xj 62 [] ⟨[],[],[some [4]],[]⟩ ⟨[],[],[]⟩ [false,false,false,false,false,false,false,false,false,false,false,false,false,false,false,false,false,false,false,false,false,false,false,false,false,false,false,false,false,false,false,false,false,false,false] (tt k0 nn)))))
theorem u3w (aH:Int) (aO:Int) (aN:Int) (aR:Int) (aW:Int) (aV:Int) (aS:Int) (aU:Int) (aT:Int) (bT:Int) (bU:Int) (bS:Int) (n:Nat) (vs:List AVal) (h:Zr (w1h aH aO aN aR aW aV aS aU aT bT bU bS) n (y4q aH aO aN aR aW aV aS aU aT bT bU bS)=.ret vs):Jy prog (Zy prog 56) (Zg prog 56 [(.agg [(.int .i64 aH),(.int .i64 aO),(.int .i64 aN),(.int .i64 aR),(.int .i64 aW),(.int .i64 aV)]),(.agg [(.int .i64 aS),(.int .i64 aU),(.int .i64 aT),(.int .i64 bT),(.int .i64 bU),(.int .i64 bS)])] true []) vs:=by have:=Zd (w9t aH aO aN aR aW aV aS aU aT bT bU bS) n _ (w1i aH aO aN aR aW aV aS aU aT bT bU bS);rwa [h] at this
def axO (a:Int):Bool:=decide (a=Int.ofNat 0)||(decide (a=Int.ofNat 1)||decide (a=Int.ofNat 2))
def y1q (a x y z:Int):Int:=bif decide (a=Int.ofNat 0) then x else bif decide (a=Int.ofNat 1) then y else z
def Uq (a _ _ _:Int):Bool:=axO a
theorem j9x (a x y z:Int) (h:Uq a x y z=true): ∃N,Zr (w3u a x y z) N (y5l a x y z)=.ret [.int .i64 (y1q a x y z)]:=⟨0,by
 revert h;unfold Uq axO y5l y1q;cases decide (a=Int.ofNat 0) <;> cases decide (a=Int.ofNat 1) <;> cases decide (a=Int.ofNat 2) <;> intro h <;> first | rfl | cases h⟩
def z2u (a x y _z:Int):Int:=bif decide (a=Int.ofNat 0) then y else x
def z2t (a _x y z:Int):Int:=bif decide (a=Int.ofNat 0) then z else bif decide (a=Int.ofNat 1) then z else y
def z2s (a _ _ _:Int):Bool:=axO a
theorem j6z (a x y z:Int) (h:z2s a x y z=true): ∃N,Zr (w2o a x y z) N (y5b a x y z)=.ret [.int .i64 (z2u a x y z),.int .i64 (z2t a x y z)]:=⟨0,by
 revert h;have e:(a == 0)=decide (a=Int.ofNat 0):=rfl;unfold z2s axO y5b z2u z2t;rw [e];cases decide (a=Int.ofNat 0) <;> cases decide (a=Int.ofNat 1) <;> cases decide (a=Int.ofNat 2) <;> intro h <;> first | rfl | cases h⟩
def z2v (a p x y:Int):R3:=bif decide (a=Int.ofNat 0) then ⟨p,x,y⟩ else bif decide (a=Int.ofNat 1) then ⟨x,p,y⟩ else ⟨x,y,p⟩
def Ki (a _ _ _:Int):Bool:=axO a
theorem j9v (a p x y:Int) (h:Ki a p x y=true): ∃N,Zr (w3q a p x y) N (y5i a p x y)=.ret [.agg [.int .i64 (z2v a p x y).a,.int .i64 (z2v a p x y).b,.int .i64 (z2v a p x y).c]]:=⟨0,by
 revert h;unfold Ki axO y5i z2v;cases decide (a=Int.ofNat 0) <;> cases decide (a=Int.ofNat 1) <;> cases decide (a=Int.ofNat 2) <;> intro h <;> first | rfl | cases h⟩
def fAlg :List AVal→Option (AVal×Bool)
 | [.agg [.int .i64 aH],.agg [.int .i64 aS,.int .i64 aU,.int .i64 aT]]=>some (.int .i64 (y1q aH aS aU aT),Uq aH aS aU aT)
 | _=>none
theorem j8w {S:Specs} (hS:Zu prog S):Zu prog (S.with j0t fAlg):=by
 refine z0f hS (by kernel_rfl) fun args v h=> ?_;unfold fAlg at h;split at h
 ·rename_i aH aS aU aT;simp only [Ad,Ac,Ae] at h;obtain ⟨rfl,hw⟩:=h;obtain ⟨N,hN⟩:=j9x aH aS aU aT hw;exact ⟨_,_,(.cons (.refl _) (.cons (.refl _) .nil)),rfl,u6e aH aS aU aT N _ hN,3,rfl⟩
 ·cases h
def fFlt :List AVal→Option (AVal×Bool)
 | [.agg [.int .i64 aH],.agg [.int .i64 aS,.int .i64 aU,.int .i64 aT]]=>some (.tup [.int .i64 (z2u aH aS aU aT),.int .i64 (z2t aH aS aU aT)],z2s aH aS aU aT)
 | _=>none
theorem j8p {S:Specs} (hS:Zu prog S):Zu prog (S.with nFlat fFlt):=by
 refine z0f hS (by kernel_rfl) fun args v h=> ?_;unfold fFlt at h;split at h
 ·rename_i aH aS aU aT;simp only [Ad,Ac,Ae] at h;obtain ⟨rfl,hw⟩:=h;obtain ⟨N,hN⟩:=j6z aH aS aU aT hw;exact ⟨_,_,(.cons (.refl _) (.cons (.refl _) .nil)),rfl,u5a aH aS aU aT N _ hN,3,rfl⟩
 ·cases h
def fBck :List AVal→Option (AVal×Bool)
 | [.agg [.int .i64 a],.int .i64 p,.int .i64 x,.int .i64 y]=>some (.agg [.int .i64 (z2v a p x y).a,.int .i64 (z2v a p x y).b,.int .i64 (z2v a p x y).c],Ki a p x y)
 | _=>none
theorem j8v {S:Specs} (hS:Zu prog S):Zu prog (S.with nBack fBck):=by
 refine z0f hS (by kernel_rfl) fun args v h=> ?_;unfold fBck at h;split at h
 ·rename_i a p x y;simp only [Ad,Ac] at h;obtain ⟨rfl,hw⟩:=h;obtain ⟨N,hN⟩:=j9v a p x y hw;exact ⟨_,_,(.cons (.refl _) (.cons (.refl _) (.cons (.refl _) (.cons (.refl _) .nil)))),rfl,u6a a p x y N _ hN,3,rfl⟩
 ·cases h
def j1n (a b c d e f a2 b2 c2 d2 e2 f2:Int):Bool:=decide (a≥a2)&&(decide (b≥b2)&&(decide (c≥c2)&&(decide (d≤d2)&&(decide (e≤e2)&&decide (f≤f2)))))
theorem j6s (a b c d e f a2 b2 c2 d2 e2 f2:Int): ∃N,Zr (w2f a b c d e f a2 b2 c2 d2 e2 f2) N (y4x a b c d e f a2 b2 c2 d2 e2 f2)=.ret [.bool (j1n a b c d e f a2 b2 c2 d2 e2 f2)]:=⟨0,by
 unfold y4x j1n;cases decide (a≥a2) <;> cases decide (b≥b2) <;> cases decide (c≥c2) <;> cases decide (d≤d2) <;> cases decide (e≤e2) <;> cases decide (f≤f2) <;> rfl⟩
def j1a (a b c d e f a2 b2 c2 d2 e2 f2:Int):Bool:=decide (a<d2)&&(decide (a2<d)&&(decide (b<e2)&&(decide (b2<e)&&(decide (c<f2)&&decide (c2<f)))))
theorem j6a (a b c d e f a2 b2 c2 d2 e2 f2:Int): ∃N,Zr (w1h a b c d e f a2 b2 c2 d2 e2 f2) N (y4q a b c d e f a2 b2 c2 d2 e2 f2)=.ret [.bool (j1a a b c d e f a2 b2 c2 d2 e2 f2)]:=⟨0,by
 unfold y4q j1a;cases decide (a<d2) <;> cases decide (a2<d) <;> cases decide (b<e2) <;> cases decide (b2<e) <;> cases decide (c<f2) <;> cases decide (c2<f) <;> rfl⟩
def fIns :List AVal→Option (AVal×Bool)
 | [.agg [.int .i64 aH,.int .i64 aO,.int .i64 aN,.int .i64 aR,.int .i64 aW,.int .i64 aV],.agg [.int .i64 aS,.int .i64 aU,.int .i64 aT,.int .i64 bT,.int .i64 bU,.int .i64 bS]]=>some (.bool (j1n aH aO aN aR aW aV aS aU aT bT bU bS),true)
 | _=>none
theorem j8m {S:Specs} (hS:Zu prog S):Zu prog (S.with w5s fIns):=by
 refine z0f hS (by kernel_rfl) fun args v h=> ?_;unfold fIns at h;split at h
 ·rename_i aH aO aN aR aW aV aS aU aT bT bU bS;simp only [Ad,Ac,Bk] at h;subst h;obtain ⟨N,hN⟩:=j6s aH aO aN aR aW aV aS aU aT bT bU bS;exact ⟨_,_,(.cons (.refl _) (.cons (.refl _) .nil)),rfl,u4v aH aO aN aR aW aV aS aU aT bT bU bS N _ hN,3,rfl⟩
 ·cases h
def fMee :List AVal→Option (AVal×Bool)
 | [.agg [.int .i64 aH,.int .i64 aO,.int .i64 aN,.int .i64 aR,.int .i64 aW,.int .i64 aV],.agg [.int .i64 aS,.int .i64 aU,.int .i64 aT,.int .i64 bT,.int .i64 bU,.int .i64 bS]]=>some (.bool (j1a aH aO aN aR aW aV aS aU aT bT bU bS),true)
 | _=>none
theorem j8g {S:Specs} (hS:Zu prog S):Zu prog (S.with j0j fMee):=by
 refine z0f hS (by kernel_rfl) fun args v h=> ?_;unfold fMee at h;split at h
 ·rename_i aH aO aN aR aW aV aS aU aT bT bU bS;simp only [Ad,Ac,Bk] at h;subst h;obtain ⟨N,hN⟩:=j6a aH aO aN aR aW aV aS aU aT bT bU bS;exact ⟨_,_,(.cons (.refl _) (.cons (.refl _) .nil)),rfl,u3w aH aO aN aR aW aV aS aU aT bT bU bS N _ hN,3,rfl⟩
 ·cases h
def Vb :Specs:=(((((Va.with j0t fAlg).with nFlat fFlt).with nBack fBck).with w5s fIns).with j0j fMee)
theorem Kr :Zu prog Vb:=(j8g (j8m (j8v (j8p (j8w Xj)))))
abbrev v6q :Nat:=24
abbrev nFit4 :Nat:=25
def j7c (x y z:Int):Bool:=decide (z0r (z0r x y) z≥(-1000000))&&decide (z0s (z0s x y) z≤1000000)
theorem j7b (x y z:Int): ∃N,Zr (w2r x y z) N (y5c x y z)=.ret [.bool (j7c x y z)]:=⟨0,by
 unfold y5c j7c;cases decide (z0r (z0r x y) z≥(-1000000)) <;> rfl⟩
def fFin :List AVal→Option (AVal×Bool)
 | [.agg [.int .i64 aH,.int .i64 aO,.int .i64 aN]]=>some (.bool (j7c aH aO aN),true)
 | _=>none
theorem j8r {S:Specs} (hS:Zu prog S):Zu prog (S.with j0n fFin):=by
 refine z0f hS (by kernel_rfl) fun args v h=> ?_;unfold fFin at h;split at h
 ·rename_i aH aO aN;simp only [Ad,Ac,Bk] at h;subst h;obtain ⟨N,hN⟩:=j7b aH aO aN;exact ⟨_,_,(.cons (.refl _) .nil),rfl,u5e aH aO aN N _ hN,3,rfl⟩
 ·cases h
def marV (a b c d e f g:Int):Int:=wrap .i64 (if a<2 then wrap .i64 (f - c)*wrap .i64 (g - d) else if a<4 then wrap .i64 (e - b)*wrap .i64 (g - d) else wrap .i64 (e - b)*wrap .i64 (f - c))
def z2o (a b c d e f g:Int):Bool:=decide (0≤a)&&decide (a≤5)
theorem j6e (a b c d e f g:Int) (h:z2o a b c d e f g=true): ∃N,Zr (w1l a b c d e f g) N (y4s a b c d e f g)=.ret [.int .i64 (marV a b c d e f g)]:=⟨0,by
 simp only [z2o,Ae,As] at h;unfold y4s marV;have:a=0∨a=1∨a=2∨a=3∨a=4∨a=5:=by omega
 rcases this with rfl | rfl | rfl | rfl | rfl | rfl <;> rfl⟩
def fMar :List AVal→Option (AVal×Bool)
 | [.agg [.int .u8 a,.int .i64 b,.int .i64 c,.int .i64 d,.int .i64 e,.int .i64 f,.int .i64 g]]=>some (.int .i64 (marV a b c d e f g),z2o a b c d e f g)
 | _=>none
theorem j8j {S:Specs} (hS:Zu prog S):Zu prog (S.with j0l fMar):=by
 refine z0f hS (by kernel_rfl) fun args v h=> ?_;unfold fMar at h;split at h
 ·rename_i a b c d e f g;simp only [Ad,Ac] at h;obtain ⟨rfl,hw⟩:=h;obtain ⟨N,hN⟩:=j6e a b c d e f g hw;exact ⟨_,_,(.cons (.refl _) .nil),rfl,u4e a b c d e f g N _ hN,3,rfl⟩
 ·cases h
def z3z (L:List R6):Int:=bif Zn L != 0 then 0 else wrap .i64 (sm L bxV)
def z4m (L:List R6):Int:=Zn L
def z8a (L:List R6):Bool:=true
theorem u6q (L:List R6) (hl:L.length≤400): ∀(k i:Nat) (S:Int),i+k=L.length→ ∃N,Zr (y0g L) N (.to (.h0 (wrap .i64 S) (i:Int)))=.ret [.int .i64 (wrap .i64 (S+sm (L.drop i) bxV)),.int .i64 0]
 | 0,i,S,h=>by
  refine ⟨1,?_⟩
  grind [Zw,u7g,y0g,Zp]
 | k+1,i,S,h=>by
  have hi:i<L.length:=by omega
  obtain ⟨N,hN⟩:=u6q L hl k (i+1) (S+bxV (rd L i)) (by omega);refine ⟨N+1,?_⟩;have w:wrap .i64 (wrap .i64 S+wrap .i64 (wrap .i64 (wrap .i64 ((rd L i).d - (rd L i).a)*wrap .i64 ((rd L i).e - (rd L i).b))*wrap .i64 ((rd L i).f - (rd L i).c)))=wrap .i64 (S+bxV (rd L i)):=
   Cg.eq ((Cg.wrap S).add (Cg.w ((Cg.w ((Cg.wrap _).mul (Cg.wrap _))).mul (Cg.wrap _))))
  grind [Zk,Zw,Yq,v3n,y0g,Zj]
theorem j2q (L:List R6) (h:z8a L=true): ∃N,Zr (y0g L) N (y3n L)=.ret [.int .i64 (z3z L),.int .i64 (z4m L)]:=by
 unfold y3n z3z z4m;simp only [Zc,show Vx L=true from rfl,Ab];rcases Yp (Zn L != 0) with q1 | q1
 ·exact ⟨0,by simp only [q1,Ab];rfl⟩
 ·obtain ⟨N,hN⟩:=u6q L (z5t q1) L.length 0 0 (Af _);refine ⟨N,?_⟩;simp only [q1,Aa];rw [show Zn L=0 by grind];rw [AT,BO] at hN;exact hN
def fSvo :List AVal→Option (AVal×Bool)
 | [a0]=>match asL R6 a0 with
  | some (L0,g0,n0)=>some (.tup [.int .i64 (z3z L0),.int .i64 (z4m L0)],isT R6 n0 g0&&(z8a L0))
  | _=>none
 | _=>none
theorem j7j {S:Specs} (hS:Zu prog S):Zu prog (S.with j0f fSvo):=by
 refine z0f hS (by kernel_rfl) fun args v h=> ?_;unfold fSvo at h;split at h
 ·rename_i a0;split at h
  ·rename_i L0 g0 n0 e0;simp only [Ad,Ac,Ae] at h;obtain ⟨rfl,ho0,hw⟩:=h;obtain ⟨N,hN⟩:=j2q L0 hw;exact ⟨_,_,(.cons (Yh e0 ho0) .nil),rfl,u0l L0 N _ hN,3,rfl⟩
  ·cases h
 ·cases h
def W0 :Specs:=Va.with j0n fFin
theorem z3x :Zu prog W0:=j8r Xj
-- h0: index into an array (choices [true, false, false, false, false, false, false])
inductive mckS where
 | h0 (v14:Int)
def mckC (l0:List R7):mckS→Cfg
 | .h0 v14=>⟨⟨70,0,true⟩,none,(Zb prog 69 [1,1,1,0,1,0,0] 0),none,(Zy prog 9),⟨Yg [(3,(.ptr 0 0)),(12,(.dat l0.length (Zz l0))),(13,(ii (l0.length:Int))),(14,(ii v14))],Vj [⟨[(.fn 137 []),(.fn 138 []),(.fn 139 []),(.fn 140 []),(.fn 141 []),(.fn 142 []),(.fn 143 []),(.fn 144 []),(.fn 145 [])],136,none⟩] 0,1,[],true⟩,[],.leaf⟩
def u4c :List (Option (List Nat)):=[some [3,12,13,14]]
def u4d :List (Option (List Nat)):=[]
def z7j (l0:List R7):mckS→Xw mckS
 | .h0 v14=>(bif (decide (v14<(l0.length:Int))) then (bif ((decide (0≤v14∧v14<(l0.length:Int)))&&true) then (bif (decide ((rd l0 v14.toNat).a >5)) then (.ret [(.int .i64 8)]) else (bif (!(j7c (rd l0 v14.toNat).b (rd l0 v14.toNat).c (rd l0 v14.toNat).d)) then (.ret [(.int .i64 8)]) else (bif (!(j7c (rd l0 v14.toNat).e (rd l0 v14.toNat).f (rd l0 v14.toNat).g)) then (.ret [(.int .i64 8)]) else (bif (decide ((wrap IntKind.u8 (Int.tdiv (rd l0 v14.toNat).a 2))=Int.ofNat 0)) then (bif ((rd l0 v14.toNat).b != (rd l0 v14.toNat).e) then (.ret [(.int .i64 8)]) else (bif (decide ((rd l0 v14.toNat).c ≥(rd l0 v14.toNat).f)) then (.ret [(.int .i64 8)]) else (bif (decide ((rd l0 v14.toNat).d ≥(rd l0 v14.toNat).g)) then (.ret [(.int .i64 8)]) else (.to (.h0 (wrap .i64 (v14+1))))))) else (bif (decide ((wrap IntKind.u8 (Int.tdiv (rd l0 v14.toNat).a 2))=Int.ofNat 1)) then (bif ((rd l0 v14.toNat).c != (rd l0 v14.toNat).f) then (.ret [(.int .i64 8)]) else (bif (decide ((rd l0 v14.toNat).b ≥(rd l0 v14.toNat).e)) then (.ret [(.int .i64 8)]) else (bif (decide ((rd l0 v14.toNat).d ≥(rd l0 v14.toNat).g)) then (.ret [(.int .i64 8)]) else (.to (.h0 (wrap .i64 (v14+1))))))) else (bif (decide ((wrap IntKind.u8 (Int.tdiv (rd l0 v14.toNat).a 2))=Int.ofNat 2)) then (bif ((rd l0 v14.toNat).d != (rd l0 v14.toNat).g) then (.ret [(.int .i64 8)]) else (bif (decide ((rd l0 v14.toNat).b ≥(rd l0 v14.toNat).e)) then (.ret [(.int .i64 8)]) else (bif (decide ((rd l0 v14.toNat).c ≥(rd l0 v14.toNat).f)) then (.ret [(.int .i64 8)]) else (.to (.h0 (wrap .i64 (v14+1))))))) else .stuck)))))) else .stuck) else (.ret [(.int .i64 0)]))
def y4r (l0:List R7):Xw mckS:=(bif (decide ((l0.length:Int)>3000)) then (.ret [(.int .i64 4)]) else (.to (.h0 0)))
theorem w9v (l0:List R7): ∀s,Yt prog (Zy prog 69) (mckC l0) (mckC l0 s) (z7j l0 s)
 | .h0 v14=>(lb (fun k0=>(lo fun aJ=>(lb (fun k1=>(lr 70 69 [1,1,1,0,1,0,0,1,1,0,0,1,0,1,0,0] 1 9 [(2,(ii 8))] (sl z3x 40 [] ⟨[],[],[some [2]],[]⟩ ⟨[],[],[]⟩ (trs 10 []) (tt k1 (ww aJ (tt k0 nn)))))) (fun k1=>(lb (fun k2=>(lr 70 69 [1,1,1,0,1,0,0,1,1,0,0,1,0,1,0,0] 1 9 [(2,(ii 8))] (sl z3x 40 [] ⟨[],[],[some [2]],[]⟩ ⟨[],[],[]⟩ (bl 10 993) (tt k2 (tt k1 (ww aJ (tt k0 nn))))))) (fun k2=>(lb (fun k3=>(lr 70 69 [1,1,1,0,1,0,0,1,1,0,0,1,0,1,0,0] 1 9 [(2,(ii 8))] (sl z3x 40 [] ⟨[],[],[some [2]],[]⟩ ⟨[],[],[]⟩ (bl 10 513) (tt k3 (tt k2 (tt k1 (ww aJ (tt k0 nn)))))))) (fun k3=>(lb (fun k4=>(lb (fun k5=>(lr 70 69 [1,1,1,0,1,0,0,1,1,0,0,1,1,1,1,1,0,0] 1 9 [(2,(ii 8))] (sl z3x 124 [] ⟨[],[],[some [2]],[]⟩ ⟨[],[],[]⟩ (bl 22 4192257) (tt k5 (ww k4 (tt k3 (tt k2 (tt k1 (ww aJ (tt k0 nn)))))))))) (fun k5=>(lb (fun k6=>(lr 70 69 [1,1,1,0,1,0,0,1,1,0,0,1,1,1,1,1,0,0] 1 9 [(2,(ii 8))] (sl z3x 124 [] ⟨[],[],[some [2]],[]⟩ ⟨[],[],[]⟩ (bl 22 4128769) (tt k6 (tt k5 (ww k4 (tt k3 (tt k2 (tt k1 (ww aJ (tt k0 nn))))))))))) (fun k6=>(lb (fun k7=>(lr 70 69 [1,1,1,0,1,0,0,1,1,0,0,1,1,1,1,1,0,0] 1 9 [(2,(ii 8))] (sl z3x 124 [] ⟨[],[],[some [2]],[]⟩ ⟨[],[],[]⟩ (bl 22 2097153) (tt k7 (tt k6 (tt k5 (ww k4 (tt k3 (tt k2 (tt k1 (ww aJ (tt k0 nn)))))))))))) (fun k7=>(sl z3x 127 [] ⟨[0],[],u4c,u4d⟩ ⟨[],[],[]⟩ (bl 22 1) (tt k7 (tt k6 (tt k5 (ww k4 (tt k3 (tt k2 (tt k1 (ww aJ (tt k0 nn))))))))))))))))) (fun k4=>(lb (fun k5=>(lb (fun k6=>(lr 70 69 [1,1,1,0,1,0,0,1,1,0,0,1,1,1,1,1,0,0] 1 9 [(2,(ii 8))] (sl z3x 124 [] ⟨[],[],[some [2]],[]⟩ ⟨[],[],[]⟩ (bl 23 8385537) (tt k6 (ww k5 (tt k3 (tt k2 (tt k1 (ww aJ (tt k0 nn)))))))))) (fun k6=>(lb (fun k7=>(lr 70 69 [1,1,1,0,1,0,0,1,1,0,0,1,1,1,1,1,0,0] 1 9 [(2,(ii 8))] (sl z3x 124 [] ⟨[],[],[some [2]],[]⟩ ⟨[],[],[]⟩ (bl 23 8258561) (tt k7 (tt k6 (ww k5 (tt k3 (tt k2 (tt k1 (ww aJ (tt k0 nn))))))))))) (fun k7=>(lb (fun k8=>(lr 70 69 [1,1,1,0,1,0,0,1,1,0,0,1,1,1,1,1,0,0] 1 9 [(2,(ii 8))] (sl z3x 124 [] ⟨[],[],[some [2]],[]⟩ ⟨[],[],[]⟩ (bl 23 4195329) (tt k8 (tt k7 (tt k6 (ww k5 (tt k3 (tt k2 (tt k1 (ww aJ (tt k0 nn)))))))))))) (fun k8=>(sl z3x 127 [] ⟨[0],[],u4c,u4d⟩ ⟨[],[],[]⟩ (bl 23 1025) (tt k8 (tt k7 (tt k6 (ww k5 (tt k3 (tt k2 (tt k1 (ww aJ (tt k0 nn))))))))))))))))) (fun k5=>(lb (fun k6=>(lb (fun k7=>(lr 70 69 [1,1,1,0,1,0,0,1,1,0,0,1,1,1,1,1,0,0] 1 9 [(2,(ii 8))] (sl z3x 124 [] ⟨[],[],[some [2]],[]⟩ ⟨[],[],[]⟩ (bl 24 16772097) (tt k7 (ww k6 (tt k3 (tt k2 (tt k1 (ww aJ (tt k0 nn)))))))))) (fun k7=>(lb (fun k8=>(lr 70 69 [1,1,1,0,1,0,0,1,1,0,0,1,1,1,1,1,0,0] 1 9 [(2,(ii 8))] (sl z3x 124 [] ⟨[],[],[some [2]],[]⟩ ⟨[],[],[]⟩ (bl 24 16518145) (tt k8 (tt k7 (ww k6 (tt k3 (tt k2 (tt k1 (ww aJ (tt k0 nn))))))))))) (fun k8=>(lb (fun k9=>(lr 70 69 [1,1,1,0,1,0,0,1,1,0,0,1,1,1,1,1,0,0] 1 9 [(2,(ii 8))] (sl z3x 124 [] ⟨[],[],[some [2]],[]⟩ ⟨[],[],[]⟩ (bl 24 8391681) (tt k9 (tt k8 (tt k7 (ww k6 (tt k3 (tt k2 (tt k1 (ww aJ (tt k0 nn)))))))))))) (fun k9=>(sl z3x 127 [] ⟨[0],[],u4c,u4d⟩ ⟨[],[],[]⟩ (bl 24 3073) (tt k9 (tt k8 (tt k7 (ww k6 (tt k3 (tt k2 (tt k1 (ww aJ (tt k0 nn))))))))))))))))) (fun k6=>trivial)))))))))))))) (fun k0=>(lr 70 3 [1,1,1,1,0] 1 9 [(2,(ii 0))] (sl z3x 11 [] ⟨[],[],[some [2]],[]⟩ ⟨[],[],[]⟩ [false] (tt k0 nn)))))
theorem w1k (l0:List R7):Yt prog (Zy prog 69) (mckC l0) (Zg prog 69 [(.dat l0.length (Zz l0))] true []) (y4r l0):=(lb (fun k0=>(lr 70 69 [1,0,1,0,0] 1 9 [(2,(ii 4))] (sl z3x 16 [] ⟨[],[],[some [2]],[]⟩ ⟨[],[],[]⟩ [true] (tt k0 nn)))) (fun k0=>(sl z3x 41 [] ⟨[1],[],u4c,u4d⟩ ⟨[],[],[]⟩ [false] (tt k0 nn))))
theorem u4b (l0:List R7) (n:Nat) (vs:List AVal) (h:Zr (z7j l0) n (y4r l0)=.ret vs):Jy prog (Zy prog 69) (Zg prog 69 [(.dat l0.length (Zz l0))] true []) vs:=by have:=Zd (w9v l0) n _ (w1k l0);rwa [h] at this
def u0a (r:R7):Bool:=decide (r.a≤5)&&(j7c r.b r.c r.d&&(j7c r.e r.f r.g&&
 (bif decide (r.a<2) then (r.b == r.e)&&(decide (r.c<r.f)&&decide (r.d<r.g)) else bif decide (r.a<4) then (r.c == r.f)&&(decide (r.b<r.e)&&decide (r.d<r.g)) else (r.d == r.g)&&(decide (r.b<r.e)&&decide (r.c<r.f)))))
def w9w (L:List R7):Int:=bif decide (3000<L.length) then 4 else bif L.all u0a then 0 else 8
def z0y (L:List R7):Bool:=L.all fun r=>decide (0≤r.a)&&decide (r.a<256)
theorem j2g {a:Int} (h0:0≤a) (h5:a≤5):wrap IntKind.u8 (Int.tdiv a 2)=(if a<2 then 0 else if a<4 then 1 else 2):=by
 have:a=0∨a=1∨a=2∨a=3∨a=4∨a=5:=by omega
 rcases this with rfl | rfl | rfl | rfl | rfl | rfl <;> rfl
theorem j1c (L:List R7) (hl:L.length≤3000) (ho:z0y L=true): ∀(k i:Nat),i+k=L.length→ ∃N,Zr (z7j L) N (.to (.h0 (i:Int)))=.ret [.int .i64 (bif (L.drop i).all u0a then 0 else 8)]
 | 0,i,h=>by refine ⟨1,?_⟩;rw [Zw,Ar (by omega)];simp (disch:=omega) only [z7j,Yf,Aa];rfl
 | k+1,i,h=>by
  have hi:i<L.length:=by omega
  obtain ⟨N,hN⟩:=j1c L hl ho k (i+1) (by omega);have hb:0≤(rd L i).a ∧(rd L i).a <256:=by
   have:=At.1 ho (rd L i) (by grind [Yo])
   grind
  refine ⟨N+1,?_⟩;rw [Zw,Yq hi,List.all_cons];have e:z7j L (.h0 (i:Int))=bif u0a (rd L i) then .to (.h0 ((i+1:Nat):Int)) else .ret [.int .i64 8]:=by
   have hw:wrap .i64 ((i:Int)+1)=((i+1:Nat):Int):=Zk (by omega);simp (disch:=omega) only [z7j,Yz,Zt,hw,Zj,Ah,Ab];unfold u0a;by_cases h5:(rd L i).a ≤5;all_goals grind [j2g]
  rw [e];rcases Yp (u0a (rd L i)) with q | q;all_goals grind [Zp]
theorem j6c (L:List R7) (h:z0y L=true): ∃N,Zr (z7j L) N (y4r L)=.ret [.int .i64 (w9w L)]:=by
 unfold y4r w9w;by_cases g:3000<L.length
 ·refine ⟨0,?_⟩;rw [Xv (by omega),An g];rfl
 ·obtain ⟨N,hN⟩:=j1c L (by omega) h L.length 0 (Af _)
  grind
def fMck :List AVal→Option (AVal×Bool)
 | [a0]=>match asL R7 a0 with
  | some (L0,g0,n0)=>some (.int .i64 (w9w L0),isT R7 n0 g0&&(z0y L0))
  | _=>none
 | _=>none
theorem j8i {S:Specs} (hS:Zu prog S):Zu prog (S.with v6o fMck):=by
 refine z0f hS (by kernel_rfl) fun args v h=> ?_;unfold fMck at h;split at h
 ·rename_i a0;split at h
  ·rename_i L0 g0 n0 e0;simp only [Ad,Ac,Ae] at h;obtain ⟨rfl,ho0,hw⟩:=h;obtain ⟨N,hN⟩:=j6c L0 hw;exact ⟨_,_,(.cons (Yh e0 ho0) .nil),rfl,u4b L0 N _ hN,3,rfl⟩
  ·cases h
 ·cases h
theorem u4a {l:List R7} (h:w9w l=0):l.length≤3000∧ ∀r∈l,u0a r=true:=by
 grind [w9w]
theorem val7_a {r:R7} (h:u0a r=true):r.a≤5:=by
 grind [u0a]
def W1 :Specs:=(W0.with v6o fMck).with j0l fMar
theorem u6h :Zu prog W1:=j8j (j8i z3x)
inductive mArS where
 | h0 (v5:Int) (v15:Int)
def mArC (l0:List R7):mArS→Cfg
 | .h0 v5 v15=>⟨⟨25,0,true⟩,none,(Zb prog 36 [1,1,1,0,1,0,0] 0),none,(Zy prog 14),⟨Yg [(5,(ii v5)),(13,(.dat l0.length (Zz l0))),(14,(ii (l0.length:Int))),(15,(ii v15))],Vj [] 0,0,[],true⟩,[],.leaf⟩
def mArN0 :List (Option (List Nat)):=[some [5,13,14,15]]
def mArM0 :List (Option (List Nat)):=[]
def y1d (l0:List R7):mArS→Xw mArS
 | .h0 v5 v15=>(bif (decide (v15<(l0.length:Int))) then (bif ((decide (0≤v15∧v15<(l0.length:Int)))&&true) then (bif (z2o (rd l0 v15.toNat).a (rd l0 v15.toNat).b (rd l0 v15.toNat).c (rd l0 v15.toNat).d (rd l0 v15.toNat).e (rd l0 v15.toNat).f (rd l0 v15.toNat).g) then (.to (.h0 (wrap .i64 (v5+(marV (rd l0 v15.toNat).a (rd l0 v15.toNat).b (rd l0 v15.toNat).c (rd l0 v15.toNat).d (rd l0 v15.toNat).e (rd l0 v15.toNat).f (rd l0 v15.toNat).g))) (wrap .i64 (v15+1)))) else .stuck) else .stuck) else (.ret [(.int .i64 v5),(.int .i64 0)]))
def y4t (l0:List R7):Xw mArS:=(bif (z0y (cvT l0)) then (bif ((w9w (cvT l0)) != 0) then (.ret [(.int .i64 0),(.int .i64 (w9w (cvT l0)))]) else (.to (.h0 0 0))) else .stuck)
theorem w9z (l0:List R7): ∀s,Yt prog (Zy prog 36) (mArC l0) (mArC l0 s) (y1d l0 s)
 | .h0 v5 v15=>(lb (fun k0=>(lo fun o0=>(lo fun o1=>(sl u6h 29 [] ⟨[],[],mArN0,mArM0⟩ ⟨[],[],[]⟩ [true] (ww o1 (ww o0 (tt k0 nn))))))) (fun k0=>(lr 25 3 [1,1,1,1,0] 1 14 [(2,(ii v5)),(3,(ii 0))] (sl u6h 13 [] ⟨[],[],[some [2,3]],[]⟩ ⟨[],[],[]⟩ [false] (tt k0 nn)))))
theorem w1p (l0:List R7):Yt prog (Zy prog 36) (mArC l0) (Zg prog 36 [(.dat l0.length (Zz l0))] true []) (y4t l0):=(lo fun bV=>(lb (fun k0=>(lr 25 36 [1,0,1,1,0,0] 1 14 [(2,(ii 0)),(3,(ii (w9w (cvT l0))))] (sl u6h 24 [] ⟨[],[],[some [2,3]],[]⟩ ⟨[],[],[]⟩ [true] (tt k0 (pp (pp (xr l0) (xw bV)) nn))))) (fun k0=>(sl u6h 32 [] ⟨[],[],mArN0,mArM0⟩ ⟨[],[],[]⟩ [false] (tt k0 (pp (pp (xr l0) (xw bV)) nn))))))
theorem u4k (l0:List R7) (n:Nat) (vs:List AVal) (h:Zr (y1d l0) n (y4t l0)=.ret vs):Jy prog (Zy prog 36) (Zg prog 36 [(.dat l0.length (Zz l0))] true []) vs:=by have:=Zd (w9z l0) n _ (w1p l0);rwa [h] at this
inductive rinS where
def rinC (aH:Int) (aO:Int) (aN:Int) (x1:Int):rinS→Cfg
 :=nofun
def x9z (aH:Int) (aO:Int) (aN:Int) (x1:Int):rinS→Xw rinS
 :=nofun
def y4k (aH:Int) (aO:Int) (aN:Int) (x1:Int):Xw rinS:=(bif (decide (aH≥x1)) then (bif (decide (aO≥x1)) then (bif (decide (aN≥x1)) then (bif (decide (aH≤1000000)) then (bif (decide (aO≤1000000)) then (.ret [(.bool (decide (aN≤1000000)))]) else (.ret [(.bool false)])) else (.ret [(.bool false)])) else (.ret [(.bool false)])) else (.ret [(.bool false)])) else (.ret [(.bool false)]))
theorem w9b (aH:Int) (aO:Int) (aN:Int) (x1:Int): ∀s,Yt prog (Zy prog 26) (rinC aH aO aN x1) (rinC aH aO aN x1 s) (x9z aH aO aN x1 s)
 :=nofun
theorem w0a (aH:Int) (aO:Int) (aN:Int) (x1:Int):Yt prog (Zy prog 26) (rinC aH aO aN x1) (Zg prog 26 [(.agg [(.int .i64 aH),(.int .i64 aO),(.int .i64 aN)]),(.int .i64 x1)] true []) (y4k aH aO aN x1):=(lb (fun k0=>(lb (fun k1=>(lb (fun k2=>(lb (fun k3=>(lb (fun k4=>(lr 36 3 [1,1,1,1,0] 1 6 [(4,(.bool (decide (aN≤1000000))))] (sl Xj 40 [] ⟨[],[],[some [4]],[]⟩ ⟨[],[],[]⟩ (trs 17 []) (tt k4 (tt k3 (tt k2 (tt k1 (tt k0 nn)))))))) (fun k4=>(lr 36 3 [1,1,1,1,0] 1 6 [(4,(.bool false))] (sl Xj 40 [] ⟨[],[],[some [4]],[]⟩ ⟨[],[],[]⟩ (trs 14 [false,false,false]) (tt k4 (tt k3 (tt k2 (tt k1 (tt k0 nn)))))))))) (fun k3=>(lr 36 3 [1,1,1,1,0] 1 6 [(4,(.bool false))] (sl Xj 40 [] ⟨[],[],[some [4]],[]⟩ ⟨[],[],[]⟩ (trs 11 [false,false,false,false,false,false]) (tt k3 (tt k2 (tt k1 (tt k0 nn))))))))) (fun k2=>(lr 36 3 [1,1,1,1,0] 1 6 [(4,(.bool false))] (sl Xj 40 [] ⟨[],[],[some [4]],[]⟩ ⟨[],[],[]⟩ (trs 8 [false,false,false,false,false,false,false,false,false]) (tt k2 (tt k1 (tt k0 nn)))))))) (fun k1=>(lr 36 3 [1,1,1,1,0] 1 6 [(4,(.bool false))] (sl Xj 40 [] ⟨[],[],[some [4]],[]⟩ ⟨[],[],[]⟩ (trs 4 [false,false,false,false,false,false,false,false,false,false,false,false,false]) (tt k1 (tt k0 nn))))))) (fun k0=>(lr 36 3 [1,1,1,1,0] 1 6 [(4,(.bool false))] (sl Xj 40 [] ⟨[],[],[some [4]],[]⟩ ⟨[],[],[]⟩ [false,false,false,false,false,false,false,false,false,false,false,false,false,false,false,false,false] (tt k0 nn)))))
theorem u2e (aH:Int) (aO:Int) (aN:Int) (x1:Int) (n:Nat) (vs:List AVal) (h:Zr (x9z aH aO aN x1) n (y4k aH aO aN x1)=.ret vs):Jy prog (Zy prog 26) (Zg prog 26 [(.agg [(.int .i64 aH),(.int .i64 aO),(.int .i64 aN)]),(.int .i64 x1)] true []) vs:=by have:=Zd (w9b aH aO aN x1) n _ (w0a aH aO aN x1);rwa [h] at this
inductive crdS where
def crdC (aH:Int) (aO:Int) (aN:Int) (x1:Int):crdS→Cfg
 :=nofun
def w3h (aH:Int) (aO:Int) (aN:Int) (x1:Int):crdS→Xw crdS
 :=nofun
def y5g (aH:Int) (aO:Int) (aN:Int) (x1:Int):Xw crdS:=(bif (x1 == 0) then (.ret [(.int .i64 aH)]) else (bif (x1 == 1) then (.ret [(.int .i64 aO)]) else (.ret [(.int .i64 aN)])))
theorem v1g (aH:Int) (aO:Int) (aN:Int) (x1:Int): ∀s,Yt prog (Zy prog 64) (crdC aH aO aN x1) (crdC aH aO aN x1 s) (w3h aH aO aN x1 s)
 :=nofun
theorem w3i (aH:Int) (aO:Int) (aN:Int) (x1:Int):Yt prog (Zy prog 64) (crdC aH aO aN x1) (Zg prog 64 [(.agg [(.int .i64 aH),(.int .i64 aO),(.int .i64 aN)]),(.int .i64 x1)] true []) (y5g aH aO aN x1):=(lb (fun k0=>(lr 15 64 [1,0,1,0,0] 1 6 [(4,(ii aH))] (sl Xj 18 [] ⟨[],[],[some [4]],[]⟩ ⟨[],[],[]⟩ [true] (tt k0 nn)))) (fun k0=>(lb (fun k1=>(lr 15 64 [1,1,0,1,0,0] 1 6 [(4,(ii aO))] (sl Xj 26 [] ⟨[],[],[some [4]],[]⟩ ⟨[],[],[]⟩ [false,true] (tt k1 (tt k0 nn))))) (fun k1=>(lr 15 3 [1,1,1,1,0] 1 6 [(4,(ii aN))] (sl Xj 27 [] ⟨[],[],[some [4]],[]⟩ ⟨[],[],[]⟩ [false,false] (tt k1 (tt k0 nn))))))))
theorem u5v (aH:Int) (aO:Int) (aN:Int) (x1:Int) (n:Nat) (vs:List AVal) (h:Zr (w3h aH aO aN x1) n (y5g aH aO aN x1)=.ret vs):Jy prog (Zy prog 64) (Zg prog 64 [(.agg [(.int .i64 aH),(.int .i64 aO),(.int .i64 aN)]),(.int .i64 x1)] true []) vs:=by have:=Zd (v1g aH aO aN x1) n _ (w3i aH aO aN x1);rwa [h] at this
inductive rh6S where
 | h0 (v5:Int)
def rh6C (l0:List R6) (aS:Int) (aU:Int) (aT:Int):rh6S→Cfg
 | .h0 v5=>⟨⟨18,0,true⟩,none,(Zb prog 29 [1,0,1,0,0] 0),none,(Zy prog 6),⟨Yg [(0,(.dat l0.length (Zz l0))),(3,(.ptr 0 0)),(5,(ii v5))],Vj [⟨[(ii aS),(ii aU),(ii aT)],50,none⟩] 0,1,[],true⟩,[],.leaf⟩
def w0g :List (Option (List Nat)):=[some [0,3,5]]
def w0h :List (Option (List Nat)):=[]
def z7d (l0:List R6) (aS:Int) (aU:Int) (aT:Int):rh6S→Xw rh6S
 | .h0 v5=>(bif (decide (v5<(l0.length:Int))) then (bif ((decide (0≤v5∧v5<(l0.length:Int)))&&true) then (bif (decide ((rd l0 v5.toNat).a ≤aS)) then (bif (decide (aS<(rd l0 v5.toNat).d)) then (bif (decide ((rd l0 v5.toNat).b ≤aU)) then (bif (decide (aU<(rd l0 v5.toNat).e)) then (bif (decide ((rd l0 v5.toNat).c ≤aT)) then (bif (decide (aT<(rd l0 v5.toNat).f)) then (.ret [(.bool true)]) else (.to (.h0 (wrap .i64 (v5+1))))) else (.to (.h0 (wrap .i64 (v5+1))))) else (.to (.h0 (wrap .i64 (v5+1))))) else (.to (.h0 (wrap .i64 (v5+1))))) else (.to (.h0 (wrap .i64 (v5+1))))) else (.to (.h0 (wrap .i64 (v5+1))))) else .stuck) else (.ret [(.bool false)]))
def x2z (l0:List R6) (aS:Int) (aU:Int) (aT:Int):Xw rh6S:=(.to (.h0 0))
theorem w9d (l0:List R6) (aS:Int) (aU:Int) (aT:Int): ∀s,Yt prog (Zy prog 29) (rh6C l0 aS aU aT) (rh6C l0 aS aU aT s) (z7d l0 aS aU aT s)
 | .h0 v5=>(lb (fun k0=>(lo fun aJ=>(lb (fun k1=>(lb (fun k2=>(lb (fun k3=>(lb (fun k4=>(lb (fun k5=>(lb (fun k6=>(lr 18 29 [1,0,1,0,0,1,0,0,1,0,0] 1 6 [(4,(.bool true))] (sl Xj 19 [] ⟨[],[],[some [4]],[]⟩ ⟨[],[],[]⟩ (trs 32 []) (tt k6 (tt k5 (tt k4 (tt k3 (tt k2 (tt k1 (ww aJ (tt k0 nn))))))))))) (fun k6=>(sl Xj 23 [] ⟨[0],[],w0g,w0h⟩ ⟨[],[],[]⟩ (trs 31 [false]) (tt k6 (tt k5 (tt k4 (tt k3 (tt k2 (tt k1 (ww aJ (tt k0 nn)))))))))))) (fun k5=>(sl Xj 23 [] ⟨[0],[],w0g,w0h⟩ ⟨[],[],[]⟩ (trs 25 (bl 7 0)) (tt k5 (tt k4 (tt k3 (tt k2 (tt k1 (ww aJ (tt k0 nn))))))))))) (fun k4=>(sl Xj 23 [] ⟨[0],[],w0g,w0h⟩ ⟨[],[],[]⟩ (trs 19 (bl 13 0)) (tt k4 (tt k3 (tt k2 (tt k1 (ww aJ (tt k0 nn)))))))))) (fun k3=>(sl Xj 23 [] ⟨[0],[],w0g,w0h⟩ ⟨[],[],[]⟩ (trs 13 (bl 19 0)) (tt k3 (tt k2 (tt k1 (ww aJ (tt k0 nn))))))))) (fun k2=>(sl Xj 23 [] ⟨[0],[],w0g,w0h⟩ ⟨[],[],[]⟩ (trs 7 (bl 25 0)) (tt k2 (tt k1 (ww aJ (tt k0 nn)))))))) (fun k1=>(sl Xj 23 [] ⟨[0],[],w0g,w0h⟩ ⟨[],[],[]⟩ (bl 32 1) (tt k1 (ww aJ (tt k0 nn)))))))) (fun k0=>(lr 18 3 [1,1,1,1,0] 1 6 [(4,(.bool false))] (sl Xj 14 [] ⟨[],[],[some [4]],[]⟩ ⟨[],[],[]⟩ [false] (tt k0 nn)))))
theorem w0f (l0:List R6) (aS:Int) (aU:Int) (aT:Int):Yt prog (Zy prog 29) (rh6C l0 aS aU aT) (Zg prog 29 [(.dat l0.length (Zz l0)),(.agg [(.int .i64 aS),(.int .i64 aU),(.int .i64 aT)])] true []) (x2z l0 aS aU aT):=(sl Xj 12 [] ⟨[0],[],w0g,w0h⟩ ⟨[],[],[]⟩ [] nn)
theorem u2i (l0:List R6) (aS:Int) (aU:Int) (aT:Int) (n:Nat) (vs:List AVal) (h:Zr (z7d l0 aS aU aT) n (x2z l0 aS aU aT)=.ret vs):Jy prog (Zy prog 29) (Zg prog 29 [(.dat l0.length (Zz l0)),(.agg [(.int .i64 aS),(.int .i64 aU),(.int .i64 aT)])] true []) vs:=by have:=Zd (w9d l0 aS aU aT) n _ (w0f l0 aS aU aT);rwa [h] at this
inductive rsqS where
 | h0 (v5:Int)
def rsqC (l0:List R7) (l1:List R7):rsqS→Cfg
 | .h0 v5=>⟨⟨26,0,true⟩,none,(Zb prog 23 [1,1,0,1,0,0] 0),none,(Zy prog 6),⟨Yg [(0,(.dat l0.length (Zz l0))),(1,(.dat l1.length (Zz l1))),(5,(ii v5))],Vj [] 0,0,[],true⟩,[],.leaf⟩
def rsqN0 :List (Option (List Nat)):=[some [0,1,5]]
def rsqM0 :List (Option (List Nat)):=[]
def z7a (l0:List R7) (l1:List R7):rsqS→Xw rsqS
 | .h0 v5=>(bif (decide (v5<(l0.length:Int))) then (bif ((decide (0≤v5∧v5<(l0.length:Int)))&&true) then (bif ((decide (0≤v5∧v5<(l1.length:Int)))&&true) then (bif (!(((rd l0 v5.toNat).a == (rd l1 v5.toNat).a)&&((((rd l0 v5.toNat).b == (rd l1 v5.toNat).b)&&(((rd l0 v5.toNat).c == (rd l1 v5.toNat).c)&&(((rd l0 v5.toNat).d == (rd l1 v5.toNat).d)&&true)))&&((((rd l0 v5.toNat).e == (rd l1 v5.toNat).e)&&(((rd l0 v5.toNat).f == (rd l1 v5.toNat).f)&&(((rd l0 v5.toNat).g == (rd l1 v5.toNat).g)&&true)))&&true)))) then (.ret [(.bool false)]) else (.to (.h0 (wrap .i64 (v5+1))))) else .stuck) else .stuck) else (.ret [(.bool true)]))
def y4c (l0:List R7) (l1:List R7):Xw rsqS:=(bif ((l0.length:Int) != (l1.length:Int)) then (.ret [(.bool false)]) else (.to (.h0 0)))
theorem w8s (l0:List R7) (l1:List R7): ∀s,Yt prog (Zy prog 23) (rsqC l0 l1) (rsqC l0 l1 s) (z7a l0 l1 s)
 | .h0 v5=>(lb (fun k0=>(lo fun aJ=>(lo fun bC=>(lb (fun k1=>(lr 26 23 [1,1,0,1,0,0,1,0,0,1,0,0] 1 6 [(4,(.bool false))] (sl Xj 19 [] ⟨[],[],[some [4]],[]⟩ ⟨[],[],[]⟩ (bl 2 3) (tt k1 (ww bC (ww aJ (tt k0 nn))))))) (fun k1=>(sl Xj 23 [] ⟨[],[],rsqN0,rsqM0⟩ ⟨[],[],[]⟩ (bl 2 1) (tt k1 (ww bC (ww aJ (tt k0 nn)))))))))) (fun k0=>(lr 26 3 [1,1,1,1,0] 1 6 [(4,(.bool true))] (sl Xj 14 [] ⟨[],[],[some [4]],[]⟩ ⟨[],[],[]⟩ [false] (tt k0 nn)))))
theorem x9q (l0:List R7) (l1:List R7):Yt prog (Zy prog 23) (rsqC l0 l1) (Zg prog 23 [(.dat l0.length (Zz l0)),(.dat l1.length (Zz l1))] true []) (y4c l0 l1):=(lb (fun k0=>(lr 26 23 [1,0,1,0,0] 1 6 [(4,(.bool false))] (sl Xj 18 [] ⟨[],[],[some [4]],[]⟩ ⟨[],[],[]⟩ [true] (tt k0 nn)))) (fun k0=>(sl Xj 22 [] ⟨[],[],rsqN0,rsqM0⟩ ⟨[],[],[]⟩ [false] (tt k0 nn))))
theorem u1t (l0:List R7) (l1:List R7) (n:Nat) (vs:List AVal) (h:Zr (z7a l0 l1) n (y4c l0 l1)=.ret vs):Jy prog (Zy prog 23) (Zg prog 23 [(.dat l0.length (Zz l0)),(.dat l1.length (Zz l1))] true []) vs:=by have:=Zd (w8s l0 l1) n _ (x9q l0 l1);rwa [h] at this
inductive rcmS where
def rcmC (aH:Int) (aO:Int) (aN:Int) (aR:Int) (aW:Int) (aV:Int) (aS:Int) (aU:Int) (aT:Int) (bT:Int) (bU:Int) (bS:Int):rcmS→Cfg
 :=nofun
def w0q (aH:Int) (aO:Int) (aN:Int) (aR:Int) (aW:Int) (aV:Int) (aS:Int) (aU:Int) (aT:Int) (bT:Int) (bU:Int) (bS:Int):rcmS→Xw rcmS
 :=nofun
def y4n (aH:Int) (aO:Int) (aN:Int) (aR:Int) (aW:Int) (aV:Int) (aS:Int) (aU:Int) (aT:Int) (bT:Int) (bU:Int) (bS:Int):Xw rcmS:=(bif (decide ((z0s aH aS)≥(z0r aR bT))) then (.ret [(.agg [(.int .i64 0),(.int .i64 0),(.int .i64 0),(.int .i64 0),(.int .i64 0),(.int .i64 0)])]) else (bif (decide ((z0s aO aU)≥(z0r aW bU))) then (.ret [(.agg [(.int .i64 0),(.int .i64 0),(.int .i64 0),(.int .i64 0),(.int .i64 0),(.int .i64 0)])]) else (bif (decide ((z0s aN aT)≥(z0r aV bS))) then (.ret [(.agg [(.int .i64 0),(.int .i64 0),(.int .i64 0),(.int .i64 0),(.int .i64 0),(.int .i64 0)])]) else (.ret [(.agg [(.int .i64 (z0s aH aS)),(.int .i64 (z0s aO aU)),(.int .i64 (z0s aN aT)),(.int .i64 (z0r aR bT)),(.int .i64 (z0r aW bU)),(.int .i64 (z0r aV bS))])]))))
theorem w9k (aH:Int) (aO:Int) (aN:Int) (aR:Int) (aW:Int) (aV:Int) (aS:Int) (aU:Int) (aT:Int) (bT:Int) (bU:Int) (bS:Int): ∀s,Yt prog (Zy prog 61) (rcmC aH aO aN aR aW aV aS aU aT bT bU bS) (rcmC aH aO aN aR aW aV aS aU aT bT bU bS s) (w0q aH aO aN aR aW aV aS aU aT bT bU bS s)
 :=nofun
theorem w0r (aH:Int) (aO:Int) (aN:Int) (aR:Int) (aW:Int) (aV:Int) (aS:Int) (aU:Int) (aT:Int) (bT:Int) (bU:Int) (bS:Int):Yt prog (Zy prog 61) (rcmC aH aO aN aR aW aV aS aU aT bT bU bS) (Zg prog 61 [(.agg [(.int .i64 aH),(.int .i64 aO),(.int .i64 aN),(.int .i64 aR),(.int .i64 aW),(.int .i64 aV)]),(.agg [(.int .i64 aS),(.int .i64 aU),(.int .i64 aT),(.int .i64 bT),(.int .i64 bU),(.int .i64 bS)])] true []) (y4n aH aO aN aR aW aV aS aU aT bT bU bS):=(lb (fun k0=>(Kf ⟨⟨78,0,true⟩,none,(Zb prog 61 [1,1,0,1,0,0] 1),none,(Zy prog 61),⟨Yg [(4,(.ptr 0 0))],Vj [⟨[(ii 0),(ii 0),(ii 0),(ii 0),(ii 0),(ii 0)],57,none⟩] 0,1,[],true⟩,[],.leaf⟩ (sl Xj 91 [] ⟨[2],[],[some [4]],[]⟩ ⟨[],[],[]⟩ (trs 15 []) (tt k0 nn)) rfl (by kernel_rfl))) (fun k0=>(lb (fun k1=>(Kf ⟨⟨78,0,true⟩,none,(Zb prog 61 [1,1,0,1,0,0] 1),none,(Zy prog 61),⟨Yg [(4,(.ptr 0 0))],Vj [⟨[(ii 0),(ii 0),(ii 0),(ii 0),(ii 0),(ii 0)],57,none⟩] 0,1,[],true⟩,[],.leaf⟩ (sl Xj 91 [] ⟨[2],[],[some [4]],[]⟩ ⟨[],[],[]⟩ [false,false,false,false,false,false,false,true,true,true,true,true,true,true,true] (tt k1 (tt k0 nn))) rfl (by kernel_rfl))) (fun k1=>(lb (fun k2=>(Kf ⟨⟨78,0,true⟩,none,(Zb prog 61 [1,1,0,1,0,0] 1),none,(Zy prog 61),⟨Yg [(4,(.ptr 0 0))],Vj [⟨[(ii 0),(ii 0),(ii 0),(ii 0),(ii 0),(ii 0)],57,none⟩] 0,1,[],true⟩,[],.leaf⟩ (sl Xj 91 [] ⟨[2],[],[some [4]],[]⟩ ⟨[],[],[]⟩ [false,false,false,false,false,false,false,false,false,false,false,false,false,false,true] (tt k2 (tt k1 (tt k0 nn)))) rfl (by kernel_rfl))) (fun k2=>(Kf ⟨⟨78,0,true⟩,none,(Zb prog 3 [1,1,1,1,0] 1),none,(Zy prog 61),⟨Yg [(4,(.ptr 0 0))],Vj [⟨[(ii (z0s aH aS)),(ii (z0s aO aU)),(ii (z0s aN aT)),(ii (z0r aR bT)),(ii (z0r aW bU)),(ii (z0r aV bS))],57,none⟩] 0,1,[],true⟩,[],.leaf⟩ (sl Xj 92 [] ⟨[2],[],[some [4]],[]⟩ ⟨[],[],[]⟩ [false,false,false,false,false,false,false,false,false,false,false,false,false,false,false] (tt k2 (tt k1 (tt k0 nn)))) rfl (by kernel_rfl))))))))
theorem u2y (aH:Int) (aO:Int) (aN:Int) (aR:Int) (aW:Int) (aV:Int) (aS:Int) (aU:Int) (aT:Int) (bT:Int) (bU:Int) (bS:Int) (n:Nat) (vs:List AVal) (h:Zr (w0q aH aO aN aR aW aV aS aU aT bT bU bS) n (y4n aH aO aN aR aW aV aS aU aT bT bU bS)=.ret vs):Jy prog (Zy prog 61) (Zg prog 61 [(.agg [(.int .i64 aH),(.int .i64 aO),(.int .i64 aN),(.int .i64 aR),(.int .i64 aW),(.int .i64 aV)]),(.agg [(.int .i64 aS),(.int .i64 aU),(.int .i64 aT),(.int .i64 bT),(.int .i64 bU),(.int .i64 bS)])] true []) vs:=by have:=Zd (w9k aH aO aN aR aW aV aS aU aT bT bU bS) n _ (w0r aH aO aN aR aW aV aS aU aT bT bU bS);rwa [h] at this
inductive ribS where
def ribC (aH:Int) (aO:Int) (aN:Int) (aR:Int) (aW:Int) (aV:Int) (aS:Int) (aU:Int) (aT:Int):ribS→Cfg
 :=nofun
def w0b (aH:Int) (aO:Int) (aN:Int) (aR:Int) (aW:Int) (aV:Int) (aS:Int) (aU:Int) (aT:Int):ribS→Xw ribS
 :=nofun
def y4l (aH:Int) (aO:Int) (aN:Int) (aR:Int) (aW:Int) (aV:Int) (aS:Int) (aU:Int) (aT:Int):Xw ribS:=(bif (decide (aH≤aS)) then (bif (decide (aS<aR)) then (bif (decide (aO≤aU)) then (bif (decide (aU<aW)) then (bif (decide (aN≤aT)) then (.ret [(.bool (decide (aT<aV)))]) else (.ret [(.bool false)])) else (.ret [(.bool false)])) else (.ret [(.bool false)])) else (.ret [(.bool false)])) else (.ret [(.bool false)]))
theorem w9c (aH:Int) (aO:Int) (aN:Int) (aR:Int) (aW:Int) (aV:Int) (aS:Int) (aU:Int) (aT:Int): ∀s,Yt prog (Zy prog 30) (ribC aH aO aN aR aW aV aS aU aT) (ribC aH aO aN aR aW aV aS aU aT s) (w0b aH aO aN aR aW aV aS aU aT s)
 :=nofun
theorem w0c (aH:Int) (aO:Int) (aN:Int) (aR:Int) (aW:Int) (aV:Int) (aS:Int) (aU:Int) (aT:Int):Yt prog (Zy prog 30) (ribC aH aO aN aR aW aV aS aU aT) (Zg prog 30 [(.agg [(.int .i64 aH),(.int .i64 aO),(.int .i64 aN),(.int .i64 aR),(.int .i64 aW),(.int .i64 aV)]),(.agg [(.int .i64 aS),(.int .i64 aU),(.int .i64 aT)])] true []) (y4l aH aO aN aR aW aV aS aU aT):=(lb (fun k0=>(lb (fun k1=>(lb (fun k2=>(lb (fun k3=>(lb (fun k4=>(lr 51 3 [1,1,1,1,0] 1 6 [(4,(.bool (decide (aT<aV))))] (sl Xj 56 [] ⟨[],[],[some [4]],[]⟩ ⟨[],[],[]⟩ (trs 30 []) (tt k4 (tt k3 (tt k2 (tt k1 (tt k0 nn)))))))) (fun k4=>(lr 51 3 [1,1,1,1,0] 1 6 [(4,(.bool false))] (sl Xj 56 [] ⟨[],[],[some [4]],[]⟩ ⟨[],[],[]⟩ (trs 24 [false,false,false,false,false,false]) (tt k4 (tt k3 (tt k2 (tt k1 (tt k0 nn)))))))))) (fun k3=>(lr 51 3 [1,1,1,1,0] 1 6 [(4,(.bool false))] (sl Xj 56 [] ⟨[],[],[some [4]],[]⟩ ⟨[],[],[]⟩ (trs 18 [false,false,false,false,false,false,false,false,false,false,false,false]) (tt k3 (tt k2 (tt k1 (tt k0 nn))))))))) (fun k2=>(lr 51 3 [1,1,1,1,0] 1 6 [(4,(.bool false))] (sl Xj 56 [] ⟨[],[],[some [4]],[]⟩ ⟨[],[],[]⟩ (trs 12 [false,false,false,false,false,false,false,false,false,false,false,false,false,false,false,false,false,false]) (tt k2 (tt k1 (tt k0 nn)))))))) (fun k1=>(lr 51 3 [1,1,1,1,0] 1 6 [(4,(.bool false))] (sl Xj 56 [] ⟨[],[],[some [4]],[]⟩ ⟨[],[],[]⟩ (trs 6 [false,false,false,false,false,false,false,false,false,false,false,false,false,false,false,false,false,false,false,false,false,false,false,false]) (tt k1 (tt k0 nn))))))) (fun k0=>(lr 51 3 [1,1,1,1,0] 1 6 [(4,(.bool false))] (sl Xj 56 [] ⟨[],[],[some [4]],[]⟩ ⟨[],[],[]⟩ [false,false,false,false,false,false,false,false,false,false,false,false,false,false,false,false,false,false,false,false,false,false,false,false,false,false,false,false,false,false] (tt k0 nn)))))
theorem u2f (aH:Int) (aO:Int) (aN:Int) (aR:Int) (aW:Int) (aV:Int) (aS:Int) (aU:Int) (aT:Int) (n:Nat) (vs:List AVal) (h:Zr (w0b aH aO aN aR aW aV aS aU aT) n (y4l aH aO aN aR aW aV aS aU aT)=.ret vs):Jy prog (Zy prog 30) (Zg prog 30 [(.agg [(.int .i64 aH),(.int .i64 aO),(.int .i64 aN),(.int .i64 aR),(.int .i64 aW),(.int .i64 aV)]),(.agg [(.int .i64 aS),(.int .i64 aU),(.int .i64 aT)])] true []) vs:=by have:=Zd (w9c aH aO aN aR aW aV aS aU aT) n _ (w0c aH aO aN aR aW aV aS aU aT);rwa [h] at this
inductive nr39S where
 | h0 (v3:Int)
def j5s (l0:List R6):nr39S→Cfg
 | .h0 v3=>⟨⟨103,0,true⟩,none,(Zb prog 37 [1,1,0,1,0,0] 0),none,(Zy prog 9),⟨Yg [(0,(.dat l0.length (Zz l0))),(3,(ii v3))],Vj [] 0,0,[],true⟩,[],.leaf⟩
def j0c :List (Option (List Nat)):=[some [0,3]]
def j0d :List (Option (List Nat)):=[]
def z6b (l0:List R6):nr39S→Xw nr39S
 | .h0 v3=>(bif (decide (v3<(l0.length:Int))) then (bif ((decide (0≤v3∧v3<(l0.length:Int)))&&true) then (bif (decide ((z0r (z0r (rd l0 v3.toNat).a (rd l0 v3.toNat).b) (rd l0 v3.toNat).c)<(-12))) then (.ret [(.bool false)]) else (bif (decide ((z0s (z0s (rd l0 v3.toNat).d (rd l0 v3.toNat).e) (rd l0 v3.toNat).f)>12)) then (.ret [(.bool false)]) else (bif (decide ((z0r (z0r (rd l0 v3.toNat).d (rd l0 v3.toNat).e) (rd l0 v3.toNat).f)<(-12))) then (.ret [(.bool false)]) else (bif (decide ((z0s (z0s (rd l0 v3.toNat).a (rd l0 v3.toNat).b) (rd l0 v3.toNat).c)>12)) then (.ret [(.bool false)]) else (.to (.h0 (wrap .i64 (v3+1)))))))) else .stuck) else (.ret [(.bool (decide ((l0.length:Int)≤6)))]))
def z8y (l0:List R6):Xw nr39S:=(bif (decide ((l0.length:Int)>400)) then (.ret [(.bool (decide ((l0.length:Int)≤420)))]) else (.to (.h0 0)))
theorem w1a (l0:List R6): ∀s,Yt prog (Zy prog 37) (j5s l0) (j5s l0 s) (z6b l0 s)
 | .h0 v3=>(lb (fun k0=>(lo fun aJ=>(lb (fun k1=>(lr 103 37 [1,1,0,1,0,0,1,0,0,0,1,0,0] 1 9 [(2,(.bool false))] (sl Xj 20 [] ⟨[],[],[some [2]],[]⟩ ⟨[],[],[]⟩ (trs 22 []) (tt k1 (ww aJ (ww aJ (ww aJ (tt k0 nn)))))))) (fun k1=>(lb (fun k2=>(lr 103 37 [1,1,0,1,0,0,1,0,0,0,1,0,0] 1 9 [(2,(.bool false))] (sl Xj 20 [] ⟨[],[],[some [2]],[]⟩ ⟨[],[],[]⟩ (bl 22 2097153) (tt k2 (ww aJ (ww aJ (ww aJ (tt k1 (ww aJ (ww aJ (ww aJ (tt k0 nn)))))))))))) (fun k2=>(lb (fun k3=>(lr 103 37 [1,1,0,1,0,0,1,0,0,1,1,0,0] 1 9 [(2,(.bool false))] (sl Xj 24 [] ⟨[],[],[some [2]],[]⟩ ⟨[],[],[]⟩ (bl 43 8796088827905) (tt k3 (ww aJ (ww aJ (ww aJ (tt k2 (ww aJ (ww aJ (ww aJ (tt k1 (ww aJ (ww aJ (ww aJ (tt k0 nn)))))))))))))))) (fun k3=>(lb (fun k4=>(lr 103 37 [1,1,0,1,0,0,1,0,0,1,1,0,0] 1 9 [(2,(.bool false))] (sl Xj 24 [] ⟨[],[],[some [2]],[]⟩ ⟨[],[],[]⟩ (bl 43 4398046511105) (tt k4 (ww aJ (ww aJ (ww aJ (tt k3 (ww aJ (ww aJ (ww aJ (tt k2 (ww aJ (ww aJ (ww aJ (tt k1 (ww aJ (ww aJ (ww aJ (tt k0 nn)))))))))))))))))))) (fun k4=>(sl Xj 28 [] ⟨[],[],j0c,j0d⟩ ⟨[],[],[]⟩ (bl 43 1) (tt k4 (ww aJ (ww aJ (ww aJ (tt k3 (ww aJ (ww aJ (ww aJ (tt k2 (ww aJ (ww aJ (ww aJ (tt k1 (ww aJ (ww aJ (ww aJ (tt k0 nn)))))))))))))))))))))))))))) (fun k0=>(lr 103 3 [1,1,1,1,0] 1 9 [(2,(.bool (decide ((l0.length:Int)≤6))))] (sl Xj 17 [] ⟨[],[],[some [2]],[]⟩ ⟨[],[],[]⟩ [false] (tt k0 nn)))))
theorem x6c (l0:List R6):Yt prog (Zy prog 37) (j5s l0) (Zg prog 37 [(.dat l0.length (Zz l0))] true []) (z8y l0):=(lb (fun k0=>(lr 103 37 [1,0,1,0,0] 1 9 [(2,(.bool (decide ((l0.length:Int)≤420))))] (sl Xj 19 [] ⟨[],[],[some [2]],[]⟩ ⟨[],[],[]⟩ [true] (tt k0 nn)))) (fun k0=>(sl Xj 20 [] ⟨[],[],j0c,j0d⟩ ⟨[],[],[]⟩ [false] (tt k0 nn))))
theorem v6b (l0:List R6) (n:Nat) (vs:List AVal) (h:Zr (z6b l0) n (z8y l0)=.ret vs):Jy prog (Zy prog 37) (Zg prog 37 [(.dat l0.length (Zz l0))] true []) vs:=by have:=Zd (w1a l0) n _ (x6c l0);rwa [h] at this
def x7z (x y z lo:Int):Bool:=decide (x≥lo)&&(decide (y≥lo)&&(decide (z≥lo)&&(decide (x≤1000000)&&(decide (y≤1000000)&&decide (z≤1000000)))))
theorem j4v (x y z lo:Int): ∃N,Zr (x9z x y z lo) N (y4k x y z lo)=.ret [.bool (x7z x y z lo)]:=⟨0,by
 unfold y4k x7z;cases decide (x≥lo) <;> cases decide (y≥lo) <;> cases decide (z≥lo) <;> cases decide (x≤1000000) <;> cases decide (y≤1000000) <;> rfl⟩
def fRin :List AVal→Option (AVal×Bool)
 | [.agg [.int .i64 x,.int .i64 y,.int .i64 z],.int .i64 lo]=>some (.bool (x7z x y z lo),true)
 | _=>none
theorem j7v {S:Specs} (hS:Zu prog S):Zu prog (S.with v6p fRin):=by
 refine z0f hS (by kernel_rfl) fun args v h=> ?_;unfold fRin at h;split at h
 ·rename_i x y z lo;simp only [Ad,Ac,Bk] at h;subst h;obtain ⟨N,hN⟩:=j4v x y z lo;exact ⟨_,_,(.cons (.refl _) (.cons (.refl _) .nil)),rfl,u2e x y z lo N _ hN,3,rfl⟩
 ·cases h
def crdV (x y z i:Int):Int:=bif i == 0 then x else bif i == 1 then y else z
theorem j9m (x y z i:Int): ∃N,Zr (w3h x y z i) N (y5g x y z i)=.ret [.int .i64 (crdV x y z i)]:=⟨0,by
 unfold y5g crdV;cases (i == 0) <;> cases (i == 1) <;> rfl⟩
def fCrd :List AVal→Option (AVal×Bool)
 | [.agg [.int .i64 aH,.int .i64 aO,.int .i64 aN],.int .i64 x1]=>some (.int .i64 (crdV aH aO aN x1),true)
 | _=>none
theorem j8t {S:Specs} (hS:Zu prog S):Zu prog (S.with w5y fCrd):=by
 refine z0f hS (by kernel_rfl) fun args v h=> ?_;unfold fCrd at h;split at h
 ·rename_i aH aO aN x1;simp only [Ad,Ac,Bk] at h;subst h;obtain ⟨N,hN⟩:=j9m aH aO aN x1;exact ⟨_,_,(.cons (.refl _) (.cons (.refl _) .nil)),rfl,u5v aH aO aN x1 N _ hN,3,rfl⟩
 ·cases h
def u3h (i a x y:Int):R3:=bif i == 0 then ⟨a,x,y⟩ else bif i == 1 then ⟨x,a,y⟩ else ⟨x,y,a⟩
def shR (x y z:Int) (r:R6):Bool:=decide (r.a≤x)&&(decide (x<r.d)&&(decide (r.b≤y)&&(decide (y<r.e)&&(decide (r.c≤z)&&decide (z<r.f)))))
def shsV (L:List R6) (x y z:Int):Bool:=L.any (shR x y z)
def rh6V (L:List R6) (x y z:Int):Bool:=shsV L x y z
def x5o (L:List R6) (x y z:Int):Bool:=decide (L.length≤100000)
theorem u9h {L:List R6} {x y z:Int} (hl:L.length≤100000): ∀(k i:Nat),i+k=L.length→ ∃N,Zr (z7d L x y z) N (.to (.h0 (i:Int)))=.ret [.bool ((L.drop i).any (shR x y z))]
 | 0,i,h=>by
  refine ⟨1,?_⟩
  grind [Zw,z7d,Zp]
 | k+1,i,h=>by
  have hi:i<L.length:=by omega
  obtain ⟨N,hN⟩:=u9h (x:=x) (y:=y) (z:=z) hl k (i+1) (by omega);refine ⟨N+1,?_⟩;rw [Zw,Yq hi,BK];have e:z7d L x y z (.h0 (i:Int))=bif shR x y z (rd L i) then .ret [.bool true] else .to (.h0 ((i+1:Nat):Int)):=by unfold shR;simp (disch:=omega) only [z7d,y1n,Yz,Zt,Zk,Zx,Zj,Ah,Ab]
  grind [Zp]
theorem j4y (L:List R6) (x y z:Int) (h:x5o L x y z=true): ∃N,Zr (z7d L x y z) N (x2z L x y z)=.ret [.bool (rh6V L x y z)]:=by obtain ⟨N,hN⟩:=u9h (x:=x) (y:=y) (z:=z) (Aw h) L.length 0 (Af _);exact ⟨N,hN⟩
def fRh6 :List AVal→Option (AVal×Bool)
 | [a0,.agg [.int .i64 aS,.int .i64 aU,.int .i64 aT]]=>match asL R6 a0 with
  | some (L0,g0,n0)=>some (.bool (rh6V L0 aS aU aT),isT R6 n0 g0&&(x5o L0 aS aU aT))
  | _=>none
 | _=>none
theorem j7x {S:Specs} (hS:Zu prog S):Zu prog (S.with j0k fRh6):=by
 refine z0f hS (by kernel_rfl) fun args v h=> ?_;unfold fRh6 at h;split at h
 ·rename_i a0 aS aU aT;split at h
  ·rename_i L0 g0 n0 e0;simp only [Ad,Ac,Ae] at h;obtain ⟨rfl,ho0,hw⟩:=h;obtain ⟨N,hN⟩:=j4y L0 aS aU aT hw;exact ⟨_,_,(.cons (Yh e0 ho0) (.cons (.refl _) .nil)),rfl,u2i L0 aS aU aT N _ hN,3,rfl⟩
  ·cases h
 ·cases h
def twiV (L:List R6):List R6:=L
def y5o (L:List R6):Bool:=decide (L.length≤2000000)
def fTwi :List AVal→Option (AVal×Bool)
 | [a0]=>match asL R6 a0 with
  | some (L0,g0,n0)=>some (.dat (twiV L0).length (Zz (twiV L0)),isT R6 n0 g0&&(y5o L0))
  | _=>none
 | _=>none
instance : DecidableEq R7:=Classical.typeDecidableEq _
def same7V (l m:List R7):Bool:=decide (l=m)
def eq7 (r s:R7):Bool:=(r.a == s.a)&&(((r.b == s.b)&&((r.c == s.c)&&((r.d == s.d)&&true)))&&(((r.e == s.e)&&((r.f == s.f)&&((r.g == s.g)&&true)))&&true))
theorem v8j (r s:R7):eq7 r s=true↔r=s:=by obtain ⟨a,b,c,d,e,f,g⟩:=r;obtain ⟨a',b',c',d',e',f',g'⟩:=s;simp [eq7,and_assoc]
def u1u (l m:List R7):Bool:=same7V l m
def Kd (l m:List R7):Bool:=decide (l.length≤1000000)
theorem u8p (l m:List R7) (hl:l.length≤1000000) (hm:l.length=m.length): ∀(k i:Nat),i+k=l.length→ ∃N,Zr (z7a l m) N (.to (.h0 (i:Int)))=.ret [.bool (decide (l.drop i=m.drop i))]
 | 0,i,h=>by
  refine ⟨1,?_⟩
  grind [Zw,z7a,Zp]
 | k+1,i,h=>by
  have hi:i<l.length:=by omega
  obtain ⟨N,hN⟩:=u8p l m hl hm k (i+1) (by omega);refine ⟨N+1,?_⟩;rw [Zw,Yq hi,Yq (show i<m.length by omega)];have e:z7a l m (.h0 (i:Int))=bif !(eq7 (rd l i) (rd m i)) then .ret [.bool false] else .to (.h0 ((i+1:Nat):Int)):=by
   grind [z7a,eq7,Zk]
  rw [e];by_cases q:rd l i=rd m i
  ·rw [(v8j _ _).2 q,Az,Aa,hN];simp_all
  ·rw [show eq7 (rd l i) (rd m i)=false from A2.2 fun h=>q ((v8j _ _).1 h),AE,Ab,Zp];simp_all
theorem j4g (l m:List R7) (h:Kd l m=true): ∃N,Zr (z7a l m) N (y4c l m)=.ret [.bool (u1u l m)]:=by
 have hl:l.length≤1000000:=Aw h;unfold y4c;by_cases hm:l.length=m.length
 ·obtain ⟨N,hN⟩:=u8p l m hl hm l.length 0 (Af _);refine ⟨N,?_⟩;rw [show ((l.length:Int) != (m.length:Int))=false by rw [hm];simp,Aa];exact hN
 ·refine ⟨0,?_⟩;rw [show ((l.length:Int) != (m.length:Int))=true by simp;omega,Ab,Zp]
  congr 3
  exact (AB fun e=>hm (by rw [e])).symm
def fRsq :List AVal→Option (AVal×Bool)
 | [a0,a1]=>match asL R7 a0,asL R7 a1 with
  | some (L0,g0,n0),some (L1,g1,n1)=>some (.bool (u1u L0 L1),isT R7 n0 g0&&(isT R7 n1 g1&&(Kd L0 L1)))
  | _,_=>none
 | _=>none
theorem v8f {S:Specs} (hS:Zu prog S):Zu prog (S.with v6k fRsq):=by
 refine z0f hS (by kernel_rfl) fun args v h=> ?_;unfold fRsq at h;split at h
 ·rename_i a0 a1;split at h
  ·rename_i L0 g0 n0 L1 g1 n1 e0 e1;simp only [Ad,Ac,Ae] at h;obtain ⟨rfl,ho0,ho1,hw⟩:=h;obtain ⟨N,hN⟩:=j4g L0 L1 hw;exact ⟨_,_,(.cons (Yh e0 ho0) (.cons (Yh e1 ho1) .nil)),rfl,u1t L0 L1 N _ hN,3,rfl⟩
  ·cases h
 ·cases h
def y0c (a b c d e f a2 b2 c2 d2 e2 f2:Int):R6:=bif decide (z0s a a2≥z0r d d2)||(decide (z0s b b2≥z0r e e2)||decide (z0s c c2≥z0r f f2)) then ⟨0,0,0,0,0,0⟩ else ⟨z0s a a2,z0s b b2,z0s c c2,z0r d d2,z0r e e2,z0r f f2⟩
theorem j5g (a b c d e f a2 b2 c2 d2 e2 f2:Int): ∃N,Zr (w0q a b c d e f a2 b2 c2 d2 e2 f2) N (y4n a b c d e f a2 b2 c2 d2 e2 f2)=.ret [.agg [.int .i64 (y0c a b c d e f a2 b2 c2 d2 e2 f2).a,.int .i64 (y0c a b c d e f a2 b2 c2 d2 e2 f2).b,.int .i64 (y0c a b c d e f a2 b2 c2 d2 e2 f2).c,.int .i64 (y0c a b c d e f a2 b2 c2 d2 e2 f2).d,.int .i64 (y0c a b c d e f a2 b2 c2 d2 e2 f2).e,.int .i64 (y0c a b c d e f a2 b2 c2 d2 e2 f2).f]]:=⟨0,by
 unfold y4n y0c;cases decide (z0s a a2≥z0r d d2) <;> cases decide (z0s b b2≥z0r e e2) <;> cases decide (z0s c c2≥z0r f f2) <;> rfl⟩
def fRcm :List AVal→Option (AVal×Bool)
 | [.agg [.int .i64 a,.int .i64 b,.int .i64 c,.int .i64 d,.int .i64 e,.int .i64 f],.agg [.int .i64 a2,.int .i64 b2,.int .i64 c2,.int .i64 d2,.int .i64 e2,.int .i64 f2]]=>some (.agg [.int .i64 (y0c a b c d e f a2 b2 c2 d2 e2 f2).a,.int .i64 (y0c a b c d e f a2 b2 c2 d2 e2 f2).b,.int .i64 (y0c a b c d e f a2 b2 c2 d2 e2 f2).c,.int .i64 (y0c a b c d e f a2 b2 c2 d2 e2 f2).d,.int .i64 (y0c a b c d e f a2 b2 c2 d2 e2 f2).e,.int .i64 (y0c a b c d e f a2 b2 c2 d2 e2 f2).f],true)
 | _=>none
theorem j8a {S:Specs} (hS:Zu prog S):Zu prog (S.with nRcm fRcm):=by
 refine z0f hS (by kernel_rfl) fun args v h=> ?_;unfold fRcm at h;split at h
 ·rename_i a b c d e f a2 b2 c2 d2 e2 f2;simp only [Ad,Ac,Bk] at h;subst h;obtain ⟨N,hN⟩:=j5g a b c d e f a2 b2 c2 d2 e2 f2;exact ⟨_,_,(.cons (.refl _) (.cons (.refl _) .nil)),rfl,u2y a b c d e f a2 b2 c2 d2 e2 f2 N _ hN,3,rfl⟩
 ·cases h
def ribV (a b c d e f x y z:Int):Bool:=decide (a≤x)&&(decide (x<d)&&(decide (b≤y)&&(decide (y<e)&&(decide (c≤z)&&decide (z<f)))))
theorem j4w (a b c d e f x y z:Int): ∃N,Zr (w0b a b c d e f x y z) N (y4l a b c d e f x y z)=.ret [.bool (ribV a b c d e f x y z)]:=⟨0,by
 unfold y4l ribV;cases decide (a≤x) <;> cases decide (x<d) <;> cases decide (b≤y) <;> cases decide (y<e) <;> cases decide (c≤z) <;> rfl⟩
def fRib :List AVal→Option (AVal×Bool)
 | [.agg [.int .i64 aH,.int .i64 aO,.int .i64 aN,.int .i64 aR,.int .i64 aW,.int .i64 aV],.agg [.int .i64 aS,.int .i64 aU,.int .i64 aT]]=>some (.bool (ribV aH aO aN aR aW aV aS aU aT),true)
 | _=>none
theorem j7w {S:Specs} (hS:Zu prog S):Zu prog (S.with nRib fRib):=by
 refine z0f hS (by kernel_rfl) fun args v h=> ?_;unfold fRib at h;split at h
 ·rename_i aH aO aN aR aW aV aS aU aT;simp only [Ad,Ac,Bk] at h;subst h;obtain ⟨N,hN⟩:=j4w aH aO aN aR aW aV aS aU aT;exact ⟨_,_,(.cons (.refl _) (.cons (.refl _) .nil)),rfl,u2f aH aO aN aR aW aV aS aU aT N _ hN,3,rfl⟩
 ·cases h
def u3p (r:R6):Bool:= !decide (z0r (z0r r.a r.b) r.c<(-12))&&(!decide (z0s (z0s r.d r.e) r.f>12)&&(!decide (z0r (z0r r.d r.e) r.f<(-12))&& !decide (z0s (z0s r.a r.b) r.c>12)))
def w1b (L:List R6):Bool:=bif decide ((L.length:Int)>400) then decide ((L.length:Int)≤420) else L.all u3p&&decide ((L.length:Int)≤6)
def Qw (L:List R6):Bool:=true
theorem v6a {L:List R6} (hl:L.length≤400): ∀(k i:Nat),i+k=L.length→ ∃N,Zr (z6b L) N (.to (.h0 (i:Int)))=.ret [.bool ((L.drop i).all u3p&&decide ((L.length:Int)≤6))]
 | 0,i,h=>by refine ⟨1,?_⟩;rw [Zw,Ar (by omega)];simp (disch:=omega) only [z6b,Yf,Aa];rfl
 | k+1,i,h=>by
  have hi:i<L.length:=by omega
  obtain ⟨N,hN⟩:=v6a hl k (i+1) (by omega);have hw:wrap .i64 ((i:Int)+1)=((i+1:Nat):Int):=Zk (by omega);refine ⟨N+1,?_⟩;rw [Zw,Yq hi]
  grind [z6b,Zj,u3p,Zp]
theorem u3l (L:List R6) (h:Qw L=true): ∃N,Zr (z6b L) N (z8y L)=.ret [.bool (w1b L)]:=by
 unfold z8y w1b;by_cases hl:L.length≤400
 ·obtain ⟨N,hN⟩:=v6a hl L.length 0 (Af _)
  grind
 ·refine ⟨0,?_⟩;rw [Xv (by omega)];rfl
def j8c :List AVal→Option (AVal×Bool)
 | [a0]=>match asL R6 a0 with
  | some (L0,g0,n0)=>some (.bool (w1b L0),isT R6 n0 g0&&(Qw L0))
  | _=>none
 | _=>none
theorem u5h {S:Specs} (hS:Zu prog S):Zu prog (S.with w5w j8c):=by
 refine z0f hS (by kernel_rfl) fun args v h=> ?_;unfold j8c at h;split at h
 ·rename_i a0;split at h
  ·rename_i L0 g0 n0 e0;simp only [Ad,Ac,Ae] at h;obtain ⟨rfl,ho0,hw⟩:=h;obtain ⟨N,hN⟩:=u3l L0 hw;exact ⟨_,_,(.cons (Yh e0 ho0) .nil),rfl,v6b L0 N _ hN,3,rfl⟩
  ·cases h
 ·cases h
def Vr1 :Specs:=(((((((Va.with v6p fRin).with w5y fCrd).with j0k fRh6).with v6k fRsq).with nRcm fRcm).with nRib fRib).with w5w j8c)
theorem x1v :Zu prog Vr1:=(u5h (j7w (j8a (v8f (j7x (j8t (j7v Xj)))))))
inductive rvbS where
def rvbC (aH:Int) (aO:Int) (aN:Int) (aR:Int) (aW:Int) (aV:Int):rvbS→Cfg
 :=nofun
def x9m (aH:Int) (aO:Int) (aN:Int) (aR:Int) (aW:Int) (aV:Int):rvbS→Xw rvbS
 :=nofun
def y4b (aH:Int) (aO:Int) (aN:Int) (aR:Int) (aW:Int) (aV:Int):Xw rvbS:=(bif (x7z aH aO aN (-1000000)) then (bif (x7z aR aW aV (-1000000)) then (bif (decide (aH<aR)) then (bif (decide (aO<aW)) then (.ret [(.bool (decide (aN<aV)))]) else (.ret [(.bool false)])) else (.ret [(.bool false)])) else (.ret [(.bool false)])) else (.ret [(.bool false)]))
theorem w8q (aH:Int) (aO:Int) (aN:Int) (aR:Int) (aW:Int) (aV:Int): ∀s,Yt prog (Zy prog 60) (rvbC aH aO aN aR aW aV) (rvbC aH aO aN aR aW aV s) (x9m aH aO aN aR aW aV s)
 :=nofun
theorem x9n (aH:Int) (aO:Int) (aN:Int) (aR:Int) (aW:Int) (aV:Int):Yt prog (Zy prog 60) (rvbC aH aO aN aR aW aV) (Zg prog 60 [(.agg [(.int .i64 aH),(.int .i64 aO),(.int .i64 aN),(.int .i64 aR),(.int .i64 aW),(.int .i64 aV)])] true []) (y4b aH aO aN aR aW aV):=(lb (fun k0=>(lb (fun k1=>(lb (fun k2=>(lb (fun k3=>(lr 40 3 [1,1,1,1,0] 1 9 [(2,(.bool (decide (aN<aV))))] (sl x1v 49 [] ⟨[],[],[some [2]],[]⟩ ⟨[],[],[]⟩ (trs 24 []) (tt k3 (tt k2 (tt k1 (tt k0 nn))))))) (fun k3=>(lr 40 3 [1,1,1,1,0] 1 9 [(2,(.bool false))] (sl x1v 49 [] ⟨[],[],[some [2]],[]⟩ ⟨[],[],[]⟩ (trs 17 [false,false,false,false,false,false,false]) (tt k3 (tt k2 (tt k1 (tt k0 nn))))))))) (fun k2=>(lr 40 3 [1,1,1,1,0] 1 9 [(2,(.bool false))] (sl x1v 49 [] ⟨[],[],[some [2]],[]⟩ ⟨[],[],[]⟩ (trs 10 [false,false,false,false,false,false,false,false,false,false,false,false,false,false]) (tt k2 (tt k1 (tt k0 nn)))))))) (fun k1=>(lr 40 3 [1,1,1,1,0] 1 9 [(2,(.bool false))] (sl x1v 49 [] ⟨[],[],[some [2]],[]⟩ ⟨[],[],[]⟩ (trs 3 [false,false,false,false,false,false,false,false,false,false,false,false,false,false,false,false,false,false,false,false,false]) (tt k1 (tt k0 nn))))))) (fun k0=>(lr 40 3 [1,1,1,1,0] 1 9 [(2,(.bool false))] (sl x1v 49 [] ⟨[],[],[some [2]],[]⟩ ⟨[],[],[]⟩ [false,false,false,false,false,false,false,false,false,false,false,false,false,false,false,false,false,false,false,false,false,false,false,false] (tt k0 nn)))))
theorem u1r (aH:Int) (aO:Int) (aN:Int) (aR:Int) (aW:Int) (aV:Int) (n:Nat) (vs:List AVal) (h:Zr (x9m aH aO aN aR aW aV) n (y4b aH aO aN aR aW aV)=.ret vs):Jy prog (Zy prog 60) (Zg prog 60 [(.agg [(.int .i64 aH),(.int .i64 aO),(.int .i64 aN),(.int .i64 aR),(.int .i64 aW),(.int .i64 aV)])] true []) vs:=by have:=Zd (w8q aH aO aN aR aW aV) n _ (x9n aH aO aN aR aW aV);rwa [h] at this
def rvbV (a b c d e f:Int):Bool:=x7z a b c (-1000000)&&(x7z d e f (-1000000)&&(decide (a<d)&&(decide (b<e)&&decide (c<f))))
theorem j4d (a b c d e f:Int): ∃N,Zr (x9m a b c d e f) N (y4b a b c d e f)=.ret [.bool (rvbV a b c d e f)]:=⟨0,by
 unfold y4b rvbV;cases x7z a b c (-1000000) <;> cases x7z d e f (-1000000) <;> cases decide (a<d) <;> cases decide (b<e) <;> rfl⟩
def fRvb :List AVal→Option (AVal×Bool)
 | [.agg [.int .i64 aH,.int .i64 aO,.int .i64 aN,.int .i64 aR,.int .i64 aW,.int .i64 aV]]=>some (.bool (rvbV aH aO aN aR aW aV),true)
 | _=>none
theorem j7s {S:Specs} (hS:Zu prog S):Zu prog (S.with nRvb fRvb):=by
 refine z0f hS (by kernel_rfl) fun args v h=> ?_;unfold fRvb at h;split at h
 ·rename_i aH aO aN aR aW aV;simp only [Ad,Ac,Bk] at h;subst h;obtain ⟨N,hN⟩:=j4d aH aO aN aR aW aV;exact ⟨_,_,(.cons (.refl _) .nil),rfl,u1r aH aO aN aR aW aV N _ hN,3,rfl⟩
 ·cases h
def endC (L:List R6) (i:Int):List Int:=L.flatMap fun r=>[crdV r.a r.b r.c i,crdV r.d r.e r.f i]
def cu9V (L:List R6) (i:Int):List Int:=z3b (endC L i)
def Vr2 :Specs:=Vr1.with nRvb fRvb
theorem Jb :Zu prog Vr2:=j7s x1v
end Go.Am
end
