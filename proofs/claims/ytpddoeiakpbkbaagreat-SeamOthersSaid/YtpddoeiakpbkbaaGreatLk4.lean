/- A part of a proof: several texts in one. -/
import Derived.Test.YtpddoeiakpbkbaaGreatLk3
set_option maxRecDepth 1000000
set_option maxHeartbeats 8000000
set_option linter.unusedVariables false
set_option linter.unusedSimpArgs false
noncomputable section
namespace Go.Am
open IntKind (wrap)
open Go.Proofs.Tryz
open Go.Proofs
inductive schS where
 | h0 (v10:Int)
def schC (l0:List R2):schS→Cfg
 | .h0 v10=>⟨⟨34,0,true⟩,none,(Zg prog 160 [1,1,0,1,0,0] 0),none,(Zy prog 9),⟨Yk [(0,(.dat l0.length (Zz l0))),(8,(.dat l0.length (Zz l0))),(9,(ii (l0.length:Int))),(10,(ii v10))],Vv [] 0,0,[],true⟩,[],.leaf⟩
def j4f :List (Option (List Nat)):=[some [0,8,9,10]]
def j4g :List (Option (List Nat)):=[]
def z4z (l0:List R2):schS→Xw schS
 | .h0 v10=>(bif (decide (v10<(l0.length:Int))) then (bif ((decide (0≤v10∧v10<(l0.length:Int)))&&true) then (bif (decide ((rd l0 v10.toNat).a <(rd l0 v10.toNat).b)) then (bif (decide ((rd l0 v10.toNat).a ≥(-1000000))) then (bif (!(decide ((rd l0 v10.toNat).b ≤1000000))) then (.ret [(.int .i64 8)]) else (bif (decide (v10>0)) then (bif ((decide (0≤(wrap .i64 (v10 - 1))∧(wrap .i64 (v10 - 1))<(l0.length:Int)))&&true) then (bif (decide ((rd l0 (Int.toNat (wrap .i64 (v10 - 1)))).b ≥(rd l0 v10.toNat).a)) then (.ret [(.int .i64 8)]) else (.to (.h0 (wrap .i64 (v10+1))))) else .stuck) else (.to (.h0 (wrap .i64 (v10+1)))))) else (.ret [(.int .i64 8)])) else (.ret [(.int .i64 8)])) else .stuck) else (.ret [(.int .i64 0)]))
def y4a (l0:List R2):Xw schS:=(bif (decide ((l0.length:Int)>400)) then (.ret [(.int .i64 4)]) else (.to (.h0 0)))
theorem w8e (l0:List R2): ∀s,Xv prog (Zy prog 160) (schC l0) (schC l0 s) (z4z l0 s)
 | .h0 v10=>(lb (fun k0=>(lo fun aI=>(lb (fun k1=>(lb (fun k2=>(lb (fun k3=>(lr 34 160 [1,1,0,1,0,0,1,1,0,0,1,1,0,0] 1 9 [(2,(ii 8))] (sl z6n 25 [] ⟨[],[],[some [2]],[]⟩ ⟨[],[],[]⟩ (trs 12 []) (tt k3 (tt k2 (tt k1 (ww aI (tt k0 nn)))))))) (fun k3=>(lb (fun k4=>(lo fun cL=>(lb (fun k5=>(lr 34 160 [1,1,0,1,0,0,1,1,0,0,1,1,0,0] 1 9 [(2,(ii 8))] (sl z6n 25 [] ⟨[],[],[some [2]],[]⟩ ⟨[],[],[]⟩ (trs 7 (bl 14 12280)) (tt k5 (ww cL (tt k4 (tt k3 (tt k2 (tt k1 (ww aI (tt k0 nn))))))))))) (fun k5=>(sl z6n 28 [] ⟨[],[],j4f,j4g⟩ ⟨[],[],[]⟩ (trs 7 (bl 14 4088)) (tt k5 (ww cL (tt k4 (tt k3 (tt k2 (tt k1 (ww aI (tt k0 nn))))))))))))) (fun k4=>(sl z6n 28 [] ⟨[],[],j4f,j4g⟩ ⟨[],[],[]⟩ (trs 7 (bl 14 0)) (tt k4 (tt k3 (tt k2 (tt k1 (ww aI (tt k0 nn)))))))))))) (fun k2=>(lr 34 160 [1,1,0,1,0,0,1,1,0,0,1,1,0,0] 1 9 [(2,(ii 8))] (sl z6n 25 [] ⟨[],[],[some [2]],[]⟩ ⟨[],[],[]⟩ (trs 4 (bl 8 248)) (tt k2 (tt k1 (ww aI (tt k0 nn))))))))) (fun k1=>(lr 34 160 [1,1,0,1,0,0,1,1,0,0,1,1,0,0] 1 9 [(2,(ii 8))] (sl z6n 25 [] ⟨[],[],[some [2]],[]⟩ ⟨[],[],[]⟩ (bl 12 3969) (tt k1 (ww aI (tt k0 nn))))))))) (fun k0=>(lr 34 3 [1,1,1,1,0] 1 9 [(2,(ii 0))] (sl z6n 11 [] ⟨[],[],[some [2]],[]⟩ ⟨[],[],[]⟩ [false] (tt k0 nn)))))
theorem x8z (l0:List R2):Xv prog (Zy prog 160) (schC l0) (Za prog 160 [(.dat l0.length (Zz l0))] true []) (y4a l0):=(lb (fun k0=>(lr 34 160 [1,0,1,0,0] 1 9 [(2,(ii 4))] (sl z6n 16 [] ⟨[],[],[some [2]],[]⟩ ⟨[],[],[]⟩ [true] (tt k0 nn)))) (fun k0=>(sl z6n 22 [] ⟨[],[],j4f,j4g⟩ ⟨[],[],[]⟩ [false] (tt k0 nn))))
theorem u1p (l0:List R2) (n:Nat) (vs:List AVal) (h:Zt (z4z l0) n (y4a l0)=.ret vs):Uv prog (Zy prog 160) (Za prog 160 [(.dat l0.length (Zz l0))] true []) vs:=by have:=Ze (w8e l0) n _ (x8z l0);rwa [h] at this
inductive cuS where
def cuC (x0:Bool) (x1:Bool):cuS→Cfg
 :=nofun
def v8o (x0:Bool) (x1:Bool):cuS→Xw cuS
 :=nofun
def w2v (x0:Bool) (x1:Bool):Xw cuS:=(bif x0 then (.ret [(.bool true)]) else (.ret [(.bool x1)]))
theorem v8n (x0:Bool) (x1:Bool): ∀s,Xv prog (Zy prog 164) (cuC x0 x1) (cuC x0 x1 s) (v8o x0 x1 s)
 :=nofun
theorem v0x (x0:Bool) (x1:Bool):Xv prog (Zy prog 164) (cuC x0 x1) (Za prog 164 [(.bool x0),(.bool x1)] true []) (w2v x0 x1):=(lb (fun k0=>(lr 9 3 [1,1,1,1,0] 1 6 [(4,(.bool true))] (sl z6n 12 [] ⟨[],[],[some [4]],[]⟩ ⟨[],[],[]⟩ [true] (tt k0 nn)))) (fun k0=>(lr 9 3 [1,1,1,1,0] 1 6 [(4,(.bool x1))] (sl z6n 12 [] ⟨[],[],[some [4]],[]⟩ ⟨[],[],[]⟩ [false] (tt k0 nn)))))
theorem j9n (x0:Bool) (x1:Bool) (n:Nat) (vs:List AVal) (h:Zt (v8o x0 x1) n (w2v x0 x1)=.ret vs):Uv prog (Zy prog 164) (Za prog 164 [(.bool x0),(.bool x1)] true []) vs:=by have:=Ze (v8n x0 x1) n _ (v0x x0 x1);rwa [h] at this
inductive ceS where
def ceC (x0:Bool) (x1:Bool):ceS→Cfg
 :=nofun
def v8x (x0:Bool) (x1:Bool):ceS→Xw ceS
 :=nofun
def w3c (x0:Bool) (x1:Bool):Xw ceS:=(bif x0 then (.ret [(.bool x1)]) else (.ret [(.bool false)]))
theorem v8w (x0:Bool) (x1:Bool): ∀s,Xv prog (Zy prog 133) (ceC x0 x1) (ceC x0 x1 s) (v8x x0 x1 s)
 :=nofun
theorem v1b (x0:Bool) (x1:Bool):Xv prog (Zy prog 133) (ceC x0 x1) (Za prog 133 [(.bool x0),(.bool x1)] true []) (w3c x0 x1):=(lb (fun k0=>(lr 9 3 [1,1,1,1,0] 1 6 [(4,(.bool x1))] (sl z6n 12 [] ⟨[],[],[some [4]],[]⟩ ⟨[],[],[]⟩ [true] (tt k0 nn)))) (fun k0=>(lr 9 3 [1,1,1,1,0] 1 6 [(4,(.bool false))] (sl z6n 12 [] ⟨[],[],[some [4]],[]⟩ ⟨[],[],[]⟩ [false] (tt k0 nn)))))
theorem j9r (x0:Bool) (x1:Bool) (n:Nat) (vs:List AVal) (h:Zt (v8x x0 x1) n (w3c x0 x1)=.ret vs):Uv prog (Zy prog 133) (Za prog 133 [(.bool x0),(.bool x1)] true []) vs:=by have:=Ze (v8w x0 x1) n _ (v1b x0 x1);rwa [h] at this
inductive cdS where
def cdC (x0:Bool) (x1:Bool):cdS→Cfg
 :=nofun
def v8z (x0:Bool) (x1:Bool):cdS→Xw cdS
 :=nofun
def w3e (x0:Bool) (x1:Bool):Xw cdS:=(bif x0 then (.ret [(.bool (!x1))]) else (.ret [(.bool false)]))
theorem v8y (x0:Bool) (x1:Bool): ∀s,Xv prog (Zy prog 123) (cdC x0 x1) (cdC x0 x1 s) (v8z x0 x1 s)
 :=nofun
theorem v1c (x0:Bool) (x1:Bool):Xv prog (Zy prog 123) (cdC x0 x1) (Za prog 123 [(.bool x0),(.bool x1)] true []) (w3e x0 x1):=(lb (fun k0=>(lr 10 3 [1,1,1,1,0] 1 6 [(4,(.bool (!x1)))] (sl z6n 13 [] ⟨[],[],[some [4]],[]⟩ ⟨[],[],[]⟩ [true,true] (tt k0 nn)))) (fun k0=>(lr 10 3 [1,1,1,1,0] 1 6 [(4,(.bool false))] (sl z6n 13 [] ⟨[],[],[some [4]],[]⟩ ⟨[],[],[]⟩ [false,false] (tt k0 nn)))))
theorem j9s (x0:Bool) (x1:Bool) (n:Nat) (vs:List AVal) (h:Zt (v8z x0 x1) n (w3e x0 x1)=.ret vs):Uv prog (Zy prog 123) (Za prog 123 [(.bool x0),(.bool x1)] true []) vs:=by have:=Ze (v8y x0 x1) n _ (v1c x0 x1);rwa [h] at this
open Go.Sort Go.Shelf Go.RowKit Go.Lib
def w7s (l:List R2) (i:Nat):Bool:=z1n (rd l i)&&(decide (i=0)||decide ((rd l (i - 1)).b <(rd l i).a))
def y6h (l:List R2):Int:=bif decide (400<l.length) then 4 else bif (List.range l.length).all (w7s l) then 0 else 8
def z5a (l:List R2):Bool:=true
theorem u8k (l:List R2) (hl:l.length≤400): ∀(k i:Nat),i+k=l.length→(∀j,j<i→w7s l j=true)→ ∃n,Zt (z4z l) n (.to (.h0 (i:Int)))=.ret [.int .i64 (bif (List.range l.length).all (w7s l) then 0 else 8)]
 | 0,i,h,ht=>by
  have hv:(List.range l.length).all (w7s l)=true:=Ar.2 fun j hj=>ht j (by grind);refine ⟨1,?_⟩
  grind [Zw,z4z,Zp]
 | k +1,i,h,ht=>by
  have hi:i<l.length:=by omega
  have hlt:decide ((i:Int)<(l.length:Int))=true:=An (by omega);have hin:decide (0≤(i:Int)∧(i:Int)<(l.length:Int))=true:=An (by omega);have step:z4z l (.h0 (i:Int))=bif w7s l i then .to (.h0 ((i+1:Nat):Int)) else .ret [.int .i64 8]:=by
   unfold w7s z1n;by_cases hi0:i=0
   ·simp_all [z4z,Zk,y1v]
   ·have g1:decide ((i:Int)>0)=true:=An (by omega);have g2:wrap .i64 ((i:Int) - 1)=((i - 1:Nat):Int):=by rw [Zk (by omega)];omega
    have g3:decide (0≤((i - 1:Nat):Int)∧((i - 1:Nat):Int)<(l.length:Int))=true:=An (by omega);have g4:decide ((rd l (i - 1)).b ≥(rd l i).a)= !decide ((rd l (i - 1)).b <(rd l i).a):=by
     grind
    rw [AB hi0];simp (disch:=omega) only [z4z,hlt,hin,g1,g2,g3,g4,Zk,Zx,Zj,y1v,y1u,Bool.false_or,Ah,Ab,Aa]
  rcases Yw (w7s l i) with q | q
  ·obtain ⟨n,hn⟩:=u8k l hl k (i+1) (by omega) (fun j hj=>by
    grind)
   refine ⟨n+1,?_⟩
   grind [Zw]
  ·have hv:(List.range l.length).all (w7s l)=false:=A0.2 fun e=>by
    grind
   refine ⟨1,?_⟩
   grind [Zw,Zp]
theorem j4e (l:List R2) (h:z5a l=true): ∃n,Zt (z4z l) n (y4a l)=.ret [.int .i64 (y6h l)]:=by
 unfold y4a y6h;by_cases h:400<l.length
 ·refine ⟨0,?_⟩;rw [An h,Ys (show (l.length:Int)>400 by omega)];rfl
 ·obtain ⟨n,hn⟩:=u8k l (by omega) l.length 0 (Af _) (fun j hj=>absurd hj (AG _))
  grind
inductive Op where
 | u | e | d
abbrev Op.k :Op→Nat
 | .u =>0
 | .e =>1
 | .d =>2
abbrev nC :Op→Nat
 | .u =>nSpU1
 | .e =>nSpE1
 | .d =>nSpD1
abbrev nSp :Op→Nat
 | .u =>nSpU
 | .e =>nSpE
 | .d =>nSpD
abbrev nRg :Op→Nat
 | .u =>nRgU
 | .e =>nRgE
 | .d =>nRgD
abbrev nSl :Op→Nat
 | .u =>nSlU
 | .e =>nSlE
 | .d =>nSlD
def cV (q:Op) (a b:Bool):Bool:=opB q.k a b
theorem cu_run (a b:Bool): ∃N,Zt (v8o a b) N (w2v a b)=.ret [.bool (cV .u a b)]:=⟨0,by cases a <;> cases b <;> rfl⟩
theorem ce_run (a b:Bool): ∃N,Zt (v8x a b) N (w3c a b)=.ret [.bool (cV .e a b)]:=⟨0,by cases a <;> cases b <;> rfl⟩
theorem cd_run (a b:Bool): ∃N,Zt (v8z a b) N (w3e a b)=.ret [.bool (cV .d a b)]:=⟨0,by cases a <;> cases b <;> rfl⟩
theorem z5x (l:List R2):y6h l=0↔l.length≤400∧l.all z1n=true∧Can l:=by
 unfold y6h;constructor
 ·intro h;by_cases h1:400<l.length
  ·grind
  ·rw [AB h1,Aa] at h;cases hq:(List.range l.length).all (w7s l) with
   | false=>grind
   | true=>
    have hq:=fun i hi=>Ar.1 hq i (A5.2 hi);have hv: ∀i,i<l.length→z1n (rd l i)=true:=fun i hi=>by
     grind [w7s]
    have hp: ∀i,i<l.length→(rd l i).a <(rd l i).b :=fun i hi=>by
     grind [z1n]
    have hs: ∀i,i+1<l.length→(rd l i).b <(rd l (i+1)).a :=fun i hi=>by
     grind [w7s]
    refine ⟨by omega,Ar.2 fun s hs=> ?_,⟨fun s hs=> ?_,?_⟩⟩
    ·obtain ⟨i,hi,rfl⟩:=AN hs;rw [←Yr hi];exact hv i hi
    ·obtain ⟨i,hi,rfl⟩:=AN hs;rw [←Yr hi];exact hp i hi
    ·refine A1.2 fun i j hi hj hij=> ?_;rw [←Yr hi,←Yr hj];clear hi
     induction j with
     | zero=>omega
     | succ j ih=>
      grind
 ·rintro ⟨h1,h2,h3⟩;rw [AB (by omega),Aa];have:(List.range l.length).all (w7s l)=true:=Ar.2 fun i hi=>by
   have hi:=A5.1 hi;unfold w7s;rw [Ar.1 h2 (rd l i) (by grind [Yr]),Ai,Bv];by_cases h0:i=0
   ·grind
   ·refine .inr (An ?_);have:=A1.1 h3.sep (i - 1) i (by omega) hi (by omega);rwa [←Yr,←Yr] at this
  grind
def fSch :List AVal→Option (AVal×Bool)
 | [a0]=>match asL R2 a0 with
  | some (L0,g0,n0)=>some (.int .i64 (y6h L0),isT R2 n0 g0&&(z5a L0))
  | _=>none
 | _=>none
theorem j7v {S:Specs} (hS:Zu prog S):Zu prog (S.with w5i fSch):=by
 refine z0k hS (by kernel_rfl) fun args v h=> ?_;unfold fSch at h;split at h
 ·rename_i a0;split at h
  ·rename_i L0 g0 n0 e0;simp only [Ad,Ac,Ae] at h;obtain ⟨rfl,ho0,hw⟩:=h;obtain ⟨N,hN⟩:=j4e L0 hw;exact ⟨_,_,(.cons (Yh e0 ho0) .nil),rfl,u1p L0 N _ hN,3,rfl⟩
  ·cases h
 ·cases h
def fCu :List AVal→Option (AVal×Bool)
 | [.bool b0,.bool b1]=>some (.bool (cV .u b0 b1),true)
 | _=>none
theorem fCu_ok {S:Specs} (hS:Zu prog S):Zu prog (S.with (nC .u) fCu):=by
 refine z0k hS (by kernel_rfl) fun args v h=> ?_;unfold fCu at h;split at h
 ·rename_i b0 b1;simp only [Ad,Ac,Bk] at h;subst h;obtain ⟨N,hN⟩:=cu_run b0 b1;exact ⟨_,_,(.cons (.refl _) (.cons (.refl _) .nil)),rfl,j9n b0 b1 N _ hN,3,rfl⟩
 ·cases h
def fCe :List AVal→Option (AVal×Bool)
 | [.bool b0,.bool b1]=>some (.bool (cV .e b0 b1),true)
 | _=>none
theorem fCe_ok {S:Specs} (hS:Zu prog S):Zu prog (S.with (nC .e) fCe):=by
 refine z0k hS (by kernel_rfl) fun args v h=> ?_;unfold fCe at h;split at h
 ·rename_i b0 b1;simp only [Ad,Ac,Bk] at h;subst h;obtain ⟨N,hN⟩:=ce_run b0 b1;exact ⟨_,_,(.cons (.refl _) (.cons (.refl _) .nil)),rfl,j9r b0 b1 N _ hN,3,rfl⟩
 ·cases h
def fCd :List AVal→Option (AVal×Bool)
 | [.bool b0,.bool b1]=>some (.bool (cV .d b0 b1),true)
 | _=>none
theorem fCd_ok {S:Specs} (hS:Zu prog S):Zu prog (S.with (nC .d) fCd):=by
 refine z0k hS (by kernel_rfl) fun args v h=> ?_;unfold fCd at h;split at h
 ·rename_i b0 b1;simp only [Ad,Ac,Bk] at h;subst h;obtain ⟨N,hN⟩:=cd_run b0 b1;exact ⟨_,_,(.cons (.refl _) (.cons (.refl _) .nil)),rfl,j9s b0 b1 N _ hN,3,rfl⟩
 ·cases h
def Ua :Specs:=((((T9.with w5i fSch).with (nC .u) fCu).with (nC .e) fCe).with (nC .d) fCd)
theorem z3f :Zu prog Ua:=(fCd_ok (fCe_ok (fCu_ok (j7v z6n))))
inductive spjS where
 | h0 (v3:List R3) (v17:Int)
 | h1 (v3:List R3) (v17:Int)
 | h2 (v5:List R3) (v6:Int) (v7:Int) (aD:Int) (bQ:Int) (aX:Int) (aG:Bool) (aB:List R2)
abbrev Ut (aB:List R2) (aX:Int) (v5:List R3) (v7:Int):=(aB++[(R2.mk aX (rd v5 (0+(tn v7))).a)])
def v3f (l0:List R2) (l1:List R2) (q:Op):AFr:=⟨⟨29,0,true⟩,(Wr prog 122 [1,1,1,0] 3),(Zg prog 122 [1,1,1,0] 1),none,(Zy prog 10),Yk [(21,(.dat l0.length (Zz l0))),(22,(.dat l1.length (Zz l1))),(23,(.fn (nC q) []))]⟩
abbrev y2j (aB:List R2) (aX:Int) (v5:List R3) (v7:Int):=(Zr (Zz aB) 0 aB.length 2 [(ii aX),(ii (rd v5 (0+(tn v7))).a)])
def v3e (q:Op) (l0:List R2) (l1:List R2):AFr:=⟨⟨11,0,true⟩,(Wr prog (nSp q) [1,0] 2),(Zg prog (nSp q) [1,0] 1),none,(Zy prog 16),Yk [(6,(.dat l0.length (Zz l0))),(7,(.dat l1.length (Zz l1)))]⟩
def u7a :AFr:=⟨⟨42,0,true⟩,(Wr prog 161 [1,1,1,1,1,0,0] 3),(Zg prog 161 [1,1,1,1,1,0,0] 1),none,(Zy prog 3),Yk [(5,(.ptr 1 0)),(6,.nils),(7,(.ptr 2 0)),(8,(.ptr 3 0)),(9,(.ptr 4 0)),(10,(.ptr 5 0)),(11,(.ptr 6 0)),(16,(.sl 0 0 2 (.un 1)))]⟩
abbrev y9r (v3:List R3) (l0:List R2) (v17:Int):=(v3++[(R3.mk (rd l0 (tn v17)).a 0 1),(R3.mk (rd l0 (tn v17)).b 0 (-1))])
abbrev y9q (v3:List R3) (l1:List R2) (v17:Int):=(v3++[(R3.mk (rd l1 (tn v17)).a 1 1),(R3.mk (rd l1 (tn v17)).b 1 (-1))])
def spjC (q:Op) (l0:List R2) (l1:List R2):spjS→Cfg
 | .h0 v3 v17=>⟨⟨38,0,true⟩,none,(Zg prog 184 [1,1,0,1,0,0,1,1,0,0,1,1,0,0] 0),none,(Zy prog 9),⟨Yk [(3,(.sla 7 3 0 v3.length (.un 3))),(4,(ii 0)),(8,(.sl 0 0 2 (.un 1))),(9,(ii 2)),(10,(ii 0)),(15,(.dat l0.length (Zz l0))),(16,(ii (l0.length:Int))),(17,(ii v17))],Vv [⟨[(.dat l0.length (Zz l0)),(.dat l1.length (Zz l1))],155,none⟩,⟨[(.fn (nC q) [])],167,none⟩,⟨[(ii 0),(ii 0)],222,none⟩,⟨[.nils],155,none⟩,⟨[(ii 0)],3,none⟩,⟨[(.bool false)],4,none⟩,⟨[(.fn 183 [(.ptr 5 0),(.ptr 4 0),(.ptr 3 0)])],223,none⟩,⟨Ym v3.length (Zz v3),227,some ⟨3,v3.length,(Zz v3)⟩⟩] 0,8,[],true⟩,[u7a,(v3f l0 l1 q),(v3e q l0 l1)],.leaf⟩
 | .h1 v3 v17=>⟨⟨38,0,true⟩,none,(Zg prog 184 [1,1,0,1,0,0,1,1,0,0,1,1,0,0] 0),none,(Zy prog 9),⟨Yk [(3,(.sla 7 3 0 v3.length (.un 3))),(4,(ii 1)),(8,(.sl 0 0 2 (.un 1))),(9,(ii 2)),(10,(ii 1)),(15,(.dat l1.length (Zz l1))),(16,(ii (l1.length:Int))),(17,(ii v17))],Vv [⟨[(.dat l0.length (Zz l0)),(.dat l1.length (Zz l1))],155,none⟩,⟨[(.fn (nC q) [])],167,none⟩,⟨[(ii 0),(ii 0)],222,none⟩,⟨[.nils],155,none⟩,⟨[(ii 0)],3,none⟩,⟨[(.bool false)],4,none⟩,⟨[(.fn 183 [(.ptr 5 0),(.ptr 4 0),(.ptr 3 0)])],223,none⟩,⟨Ym v3.length (Zz v3),227,some ⟨3,v3.length,(Zz v3)⟩⟩] 0,8,[],true⟩,[u7a,(v3f l0 l1 q),(v3e q l0 l1)],.leaf⟩
 | .h2 v5 v6 v7 aD bQ aX aG aB=>⟨⟨16,0,true⟩,none,(Zg prog 198 [1,0,0] 0),none,[],⟨Yk [(0,(.yld 0)),(5,(.sla 7 3 0 v5.length (.un 3))),(6,(ii v6)),(7,(ii v7))],z5j [(1,⟨[(.fn (nC q) [])],167,none⟩),(2,⟨[(ii aD),(ii bQ)],222,none⟩),(3,⟨[(ii aX)],3,none⟩),(4,⟨[(.bool aG)],4,none⟩),(5,⟨[(.fn 183 [(.ptr 4 0),(.ptr 3 0),(.ptr 6 0)])],223,none⟩),(6,⟨[(.sla 8 2 0 aB.length (.un 2))],155,none⟩),(7,⟨Ym v5.length (Zz v5),227,some ⟨3,v5.length,(Zz v5)⟩⟩),(8,⟨Ym aB.length (Zz aB),176,some ⟨2,aB.length,(Zz aB)⟩⟩)],9,[],true⟩,[⟨⟨42,0,true⟩,none,(.inRangeFunc 0::(Zg prog 161 [1,1,1,1,1,0,1,0] 1)),none,(Zy prog 3),Yk [(6,.nils),(8,(.ptr 6 0))]⟩,(v3f l0 l1 q),(v3e q l0 l1)],(z9k [(0,⟨.ready,none,42,Yk [(5,(.ptr 1 0)),(7,(.ptr 2 0)),(9,(.ptr 3 0)),(10,(.ptr 4 0)),(11,(.ptr 5 0))],[18],(Wq prog 161 [1,1,1,1,1,0,1,0,0]),(Wq prog 161 [1,1,1,1,1,0,1,0,1])⟩)])⟩
def spjN0 :List (Option (List Nat)):=[some [3,4,8,9,10,15,16,17],some [5,6,7,8,9,10,11,16],some [21,22,23],some [6,7]]
def spjM0 :List (Option (List Nat)):=[]
def spjN1 :List (Option (List Nat)):=[some [3,4,8,9,10,15,16,17],some [5,6,7,8,9,10,11,16],some [21,22,23],some [6,7]]
def spjM1 :List (Option (List Nat)):=[]
def y6c :List (Option (List Nat)):=[some [0,5,6,7],some [6,8],some [21,22,23],some [6,7]]
def y6d :List (Option (List Nat)):=[some [5,7,9,10,11],none,none,none,none,none,none,none,none]
def Wf (q:Op) (l0:List R2) (l1:List R2):spjS→Xw spjS
 | .h0 v3 v17=>(bif (decide (v17<(l0.length:Int))) then (bif ((decide (0≤v17∧v17<(l0.length:Int)))&&true) then (bif (Nat.beq 3 3&&((decide (0+v3.length=v3.length))&&decide ((v3.length+2+1)*(24+1)≤Jo))) then (.to (.h0 (v3++[(R3.mk (rd l0 v17.toNat).a 0 1),(R3.mk (rd l0 v17.toNat).b 0 (-1))]) (wrap .i64 (v17+1)))) else .stuck) else .stuck) else (.to (.h1 v3 0)))
 | .h1 v3 v17=>(bif (decide (v17<(l1.length:Int))) then (bif ((decide (0≤v17∧v17<(l1.length:Int)))&&true) then (bif (Nat.beq 3 3&&((decide (0+v3.length=v3.length))&&decide ((v3.length+2+1)*(24+1)≤Jo))) then (.to (.h1 (v3++[(R3.mk (rd l1 v17.toNat).a 1 1),(R3.mk (rd l1 v17.toNat).b 1 (-1))]) (wrap .i64 (v17+1)))) else .stuck) else .stuck) else (bif (y3e (cvT v3)) then (bif (decide (v3.length<4611686018427387904)) then (bif (decide (v3.length=v3.length)) then (.to (.h2 (z2k (cvT v3)) (v3.length:Int) 0 0 0 0 false ([]:List R2))) else .stuck) else .stuck) else .stuck))
 | .h2 v5 v6 v7 aD bQ aX aG aB=>(bif (decide (v7<v6)) then (bif ((decide (0≤v7∧v7<(v5.length:Int)))&&true) then (bif (decide ((0+v7.toNat)<v5.length)) then (bif (!aG) then (bif (decide ((rd v5 (0+v7.toNat)).b =Int.ofNat 0)) then (.to (.h2 v5 v6 (wrap .i64 (v7+1)) (wrap .i64 (aD+(rd v5 (0+v7.toNat)).c)) bQ (rd v5 (0+v7.toNat)).a ((cV q) (decide ((wrap .i64 (aD+(rd v5 (0+v7.toNat)).c))>0)) (decide (bQ>0))) aB)) else (bif (decide ((rd v5 (0+v7.toNat)).b =Int.ofNat 1)) then (.to (.h2 v5 v6 (wrap .i64 (v7+1)) aD (wrap .i64 (bQ+(rd v5 (0+v7.toNat)).c)) (rd v5 (0+v7.toNat)).a ((cV q) (decide (aD>0)) (decide ((wrap .i64 (bQ+(rd v5 (0+v7.toNat)).c))>0))) aB)) else .stuck)) else (bif (aX == (rd v5 (0+v7.toNat)).a) then (bif (decide ((rd v5 (0+v7.toNat)).b =Int.ofNat 0)) then (.to (.h2 v5 v6 (wrap .i64 (v7+1)) (wrap .i64 (aD+(rd v5 (0+v7.toNat)).c)) bQ (rd v5 (0+v7.toNat)).a ((cV q) (decide ((wrap .i64 (aD+(rd v5 (0+v7.toNat)).c))>0)) (decide (bQ>0))) aB)) else (bif (decide ((rd v5 (0+v7.toNat)).b =Int.ofNat 1)) then (.to (.h2 v5 v6 (wrap .i64 (v7+1)) aD (wrap .i64 (bQ+(rd v5 (0+v7.toNat)).c)) (rd v5 (0+v7.toNat)).a ((cV q) (decide (aD>0)) (decide ((wrap .i64 (bQ+(rd v5 (0+v7.toNat)).c))>0))) aB)) else .stuck)) else (bif (decide ((aB.length:Int)>0)) then (bif ((decide (0≤(wrap .i64 ((aB.length:Int) - 1))∧(wrap .i64 ((aB.length:Int) - 1))<(aB.length:Int)))&&true) then (bif (decide ((0+(Int.toNat (wrap .i64 ((aB.length:Int) - 1))))<aB.length)) then (bif ((rd aB (0+(Int.toNat (wrap .i64 ((aB.length:Int) - 1))))).b == aX) then (bif (decide ((rd v5 (0+v7.toNat)).b =Int.ofNat 0)) then (.to (.h2 v5 v6 (wrap .i64 (v7+1)) (wrap .i64 (aD+(rd v5 (0+v7.toNat)).c)) bQ (rd v5 (0+v7.toNat)).a ((cV q) (decide ((wrap .i64 (aD+(rd v5 (0+v7.toNat)).c))>0)) (decide (bQ>0))) (aB.set (0+(Int.toNat (wrap .i64 ((aB.length:Int) - 1)))) (R2.mk (rd aB (0+(Int.toNat (wrap .i64 ((aB.length:Int) - 1))))).a (rd v5 (0+v7.toNat)).a)))) else (bif (decide ((rd v5 (0+v7.toNat)).b =Int.ofNat 1)) then (.to (.h2 v5 v6 (wrap .i64 (v7+1)) aD (wrap .i64 (bQ+(rd v5 (0+v7.toNat)).c)) (rd v5 (0+v7.toNat)).a ((cV q) (decide (aD>0)) (decide ((wrap .i64 (bQ+(rd v5 (0+v7.toNat)).c))>0))) (aB.set (0+(Int.toNat (wrap .i64 ((aB.length:Int) - 1)))) (R2.mk (rd aB (0+(Int.toNat (wrap .i64 ((aB.length:Int) - 1))))).a (rd v5 (0+v7.toNat)).a)))) else .stuck)) else (bif (Nat.beq 2 2&&((decide (0+aB.length=aB.length))&&decide ((aB.length+1+1)*(16+1)≤Jo))) then (bif (decide ((rd v5 (0+v7.toNat)).b =Int.ofNat 0)) then (.to (.h2 v5 v6 (wrap .i64 (v7+1)) (wrap .i64 (aD+(rd v5 (0+v7.toNat)).c)) bQ (rd v5 (0+v7.toNat)).a ((cV q) (decide ((wrap .i64 (aD+(rd v5 (0+v7.toNat)).c))>0)) (decide (bQ>0))) (aB++[(R2.mk aX (rd v5 (0+v7.toNat)).a)]))) else (bif (decide ((rd v5 (0+v7.toNat)).b =Int.ofNat 1)) then (.to (.h2 v5 v6 (wrap .i64 (v7+1)) aD (wrap .i64 (bQ+(rd v5 (0+v7.toNat)).c)) (rd v5 (0+v7.toNat)).a ((cV q) (decide (aD>0)) (decide ((wrap .i64 (bQ+(rd v5 (0+v7.toNat)).c))>0))) (aB++[(R2.mk aX (rd v5 (0+v7.toNat)).a)]))) else .stuck)) else .stuck)) else .stuck) else .stuck) else (bif (Nat.beq 2 2&&((decide (0+aB.length=aB.length))&&decide ((aB.length+1+1)*(16+1)≤Jo))) then (bif (decide ((rd v5 (0+v7.toNat)).b =Int.ofNat 0)) then (.to (.h2 v5 v6 (wrap .i64 (v7+1)) (wrap .i64 (aD+(rd v5 (0+v7.toNat)).c)) bQ (rd v5 (0+v7.toNat)).a ((cV q) (decide ((wrap .i64 (aD+(rd v5 (0+v7.toNat)).c))>0)) (decide (bQ>0))) (aB++[(R2.mk aX (rd v5 (0+v7.toNat)).a)]))) else (bif (decide ((rd v5 (0+v7.toNat)).b =Int.ofNat 1)) then (.to (.h2 v5 v6 (wrap .i64 (v7+1)) aD (wrap .i64 (bQ+(rd v5 (0+v7.toNat)).c)) (rd v5 (0+v7.toNat)).a ((cV q) (decide (aD>0)) (decide ((wrap .i64 (bQ+(rd v5 (0+v7.toNat)).c))>0))) (aB++[(R2.mk aX (rd v5 (0+v7.toNat)).a)]))) else .stuck)) else .stuck)))) else .stuck) else .stuck) else (bif (decide ((aB.length:Int)>400)) then (.ret [.nils,(.int .i64 4)]) else (.ret [(.dat aB.length (Zz aB)),(.int .i64 0)])))
def y3s (q:Op) (l0:List R2) (l1:List R2):Xw spjS:=(bif (z5a (cvT l0)) then (bif ((y6h (cvT l0)) != 0) then (.ret [.nils,(.int .i64 (y6h (cvT l0)))]) else (bif (z5a (cvT l1)) then (bif ((y6h (cvT l1)) != 0) then (.ret [.nils,(.int .i64 (y6h (cvT l1)))]) else (.to (.h0 ([]:List R3) 0))) else .stuck)) else .stuck)
theorem w7q (q:Op) (l0:List R2) (l1:List R2): ∀s,Xv prog (Zy prog (nSp q)) (spjC q l0 l1) (spjC q l0 l1 s) (Wf q l0 l1 s):=by cases q <;> refine (?f: ∀q:Op,∀s,Xv prog (Zy prog (nSp q)) (spjC q l0 l1) (spjC q l0 l1 s) (Wf q l0 l1 s)) _ <;> exact fun q=>fun
 | .h0 v3 v17=>(lb (fun k0=>(lo fun o0=>(lo fun o1=>(sl z3f 36 [] ⟨[0,1,2,3,4,5,6,10],[],spjN0,spjM0⟩ ⟨[(3,.len (y9r v3 l0 v17).length)],(kpB 7 [.rowed 3 (y9r v3 l0 v17).length (Zz (y9r v3 l0 v17))]),[]⟩ [true] (pp (xL (v3.length+2) (y9r v3 l0 v17).length) (pp (xL (v3.length+2) (y9r v3 l0 v17).length) (pp (xS (v3.length+2) (Zr (Zz v3) 0 v3.length 3 [(ii (rd l0 (tn v17)).a),(ii 0),(ii 1),(ii (rd l0 (tn v17)).b),(ii 0),(ii (-1))]) (Zz (y9r v3 l0 v17))) (pp (pp (xF (Zr (Zz v3) 0 v3.length 3 [(ii (rd l0 (tn v17)).a),(ii 0),(ii 1),(ii (rd l0 (tn v17)).b),(ii 0),(ii (-1))])) nn) (ww o1 (ww o0 (tt k0 nn))))))))))) (fun k0=>(sl z3f 38 [] ⟨(List.range 8),[],spjN1,spjM1⟩ ⟨[],[],[]⟩ (bl 2 2) (pp (fl v3 nn) (tt k0 nn)))))
 | .h1 v3 v17=>(lb (fun k0=>(lo fun o0=>(lo fun o1=>(sl z3f 36 [] ⟨[0,1,2,3,4,5,6,10],[],spjN1,spjM1⟩ ⟨[(3,.len (y9q v3 l1 v17).length)],(kpB 7 [.rowed 3 (y9q v3 l1 v17).length (Zz (y9q v3 l1 v17))]),[]⟩ [true] (pp (xL (v3.length+2) (y9q v3 l1 v17).length) (pp (xL (v3.length+2) (y9q v3 l1 v17).length) (pp (xS (v3.length+2) (Zr (Zz v3) 0 v3.length 3 [(ii (rd l1 (tn v17)).a),(ii 1),(ii 1),(ii (rd l1 (tn v17)).b),(ii 1),(ii (-1))]) (Zz (y9q v3 l1 v17))) (pp (pp (xF (Zr (Zz v3) 0 v3.length 3 [(ii (rd l1 (tn v17)).a),(ii 1),(ii 1),(ii (rd l1 (tn v17)).b),(ii 1),(ii (-1))])) nn) (ww o1 (ww o0 (tt k0 nn))))))))))) (fun k0=>(lo fun o0=>(lo fun o1=>(lo fun o2=>(sl z3f 54 [(176,2,Zz ([]:List R2))] ⟨[9,1,2,4,5,6,3,7,10],[],y6c,y6d⟩ ⟨[(5,.len (z2k (cvT v3)).length)],(kpB 6 [.cells [.grow 8 2],.rowed 3 (z2k (cvT v3)).length (Zz (z2k (cvT v3))),.keep]),[]⟩ (bl 2 0) (pp (xL v3.length (z2k (cvT v3)).length (by first | exact z9l _ | exact Vo rfl)) (pp (xL v3.length (z2k (cvT v3)).length (by first | exact z9l _ | exact Vo rfl)) (pp (xS v3.length (Zz (z2k (cvT v3))) (Zz (z2k (cvT v3)))) (pp (fl (z2k (cvT v3)) (fl ([]:List R2) nn)) (pp (pp (xG (Nat.beq 3 3)) (pp (xG (Nat.beq 3 3)) (pp (xG (Nat.beq 0 0)) (pp (pp (xG (decide (v3.length=v3.length))) (pp (xr v3) (xG (decide (v3.length<4611686018427387904))))) (xG (y3e (cvT v3))))))) (tt k0 nn))))))))))))
 | .h2 v5 v6 v7 aD bQ aX aG aB=>(lb (fun k0=>(lo fun aI=>(lo fun bG=>(lb (fun k1=>(lb (fun k2=>(sl z3f 62 [] ⟨(List.range 9),[],y6c,y6d⟩ ⟨[],[],[]⟩ (trs 5 (bl 3 0)) (pp (fl v5 (fl aB nn)) (ww k2 (tt k1 (ww bG (ww aI (tt k0 nn)))))))) (fun k2=>(lb (fun k3=>(sl z3f 62 [] ⟨(List.range 9),[],y6c,y6d⟩ ⟨[],[],[]⟩ (trs 6 (bl 4 2)) (pp (fl v5 (fl aB nn)) (ww k3 (tt k1 (ww bG (ww aI (tt k0 nn)))))))) (fun k3=>trivial))))) (fun k1=>(lb (fun k2=>(lb (fun k3=>(sl z3f 62 [] ⟨(List.range 9),[],y6c,y6d⟩ ⟨[],[],[]⟩ (bl 8 17) (pp (fl v5 (fl aB nn)) (ww k3 (tt k2 (tt k1 (ww bG (ww aI (tt k0 nn))))))))) (fun k3=>(lb (fun k4=>(sl z3f 62 [] ⟨(List.range 9),[],y6c,y6d⟩ ⟨[],[],[]⟩ (bl 10 177) (pp (fl v5 (fl aB nn)) (ww k4 (tt k2 (tt k1 (ww bG (ww aI (tt k0 nn))))))))) (fun k4=>trivial))))) (fun k2=>(lb (fun k3=>(lo fun cC=>(lo fun dE=>(lb (fun k4=>(lb (fun k5=>(sl z3f 81 [] ⟨(List.range 9),[],y6c,y6d⟩ ⟨[],(kpB 6 [.cells [.len (aB.set (0+(tn (wr ((aB.length:Int) - 1)))) (R2.mk (rd aB (0+(tn (wr ((aB.length:Int) - 1))))).a (rd v5 (0+(tn v7))).a)).length],.keep,.rowed 2 (aB.set (0+(tn (wr ((aB.length:Int) - 1)))) (R2.mk (rd aB (0+(tn (wr ((aB.length:Int) - 1))))).a (rd v5 (0+(tn v7))).a)).length (Zz (aB.set (0+(tn (wr ((aB.length:Int) - 1)))) (R2.mk (rd aB (0+(tn (wr ((aB.length:Int) - 1))))).a (rd v5 (0+(tn v7))).a)))]),[]⟩ (bl 17 16353) (pp (xL aB.length (aB.set (0+(tn (wr ((aB.length:Int) - 1)))) (R2.mk (rd aB (0+(tn (wr ((aB.length:Int) - 1))))).a (rd v5 (0+(tn v7))).a)).length) (pp (xL aB.length (aB.set (0+(tn (wr ((aB.length:Int) - 1)))) (R2.mk (rd aB (0+(tn (wr ((aB.length:Int) - 1))))).a (rd v5 (0+(tn v7))).a)).length) (pp (xS aB.length (Xm (Zz aB) (0+(tn (wr ((aB.length:Int) - 1)))) 1 [(ii (rd v5 (0+(tn v7))).a)]) (Zz (aB.set (0+(tn (wr ((aB.length:Int) - 1)))) (R2.mk (rd aB (0+(tn (wr ((aB.length:Int) - 1))))).a (rd v5 (0+(tn v7))).a)))) (pp (fl v5 (pp (xF (Xm (Zz aB) (0+(tn (wr ((aB.length:Int) - 1)))) 1 [(ii (rd v5 (0+(tn v7))).a)])) nn)) (ww k5 (ww dE (ww cC (tt k4 (ww dE (ww cC (tt k3 (tt k2 (tt k1 (ww bG (ww aI (tt k0 nn)))))))))))))))))) (fun k5=>(lb (fun k6=>(sl z3f 81 [] ⟨(List.range 9),[],y6c,y6d⟩ ⟨[],(kpB 6 [.cells [.len (aB.set (0+(tn (wr ((aB.length:Int) - 1)))) (R2.mk (rd aB (0+(tn (wr ((aB.length:Int) - 1))))).a (rd v5 (0+(tn v7))).a)).length],.keep,.rowed 2 (aB.set (0+(tn (wr ((aB.length:Int) - 1)))) (R2.mk (rd aB (0+(tn (wr ((aB.length:Int) - 1))))).a (rd v5 (0+(tn v7))).a)).length (Zz (aB.set (0+(tn (wr ((aB.length:Int) - 1)))) (R2.mk (rd aB (0+(tn (wr ((aB.length:Int) - 1))))).a (rd v5 (0+(tn v7))).a)))]),[]⟩ (bl 19 98273) (pp (xL aB.length (aB.set (0+(tn (wr ((aB.length:Int) - 1)))) (R2.mk (rd aB (0+(tn (wr ((aB.length:Int) - 1))))).a (rd v5 (0+(tn v7))).a)).length) (pp (xL aB.length (aB.set (0+(tn (wr ((aB.length:Int) - 1)))) (R2.mk (rd aB (0+(tn (wr ((aB.length:Int) - 1))))).a (rd v5 (0+(tn v7))).a)).length) (pp (xS aB.length (Xm (Zz aB) (0+(tn (wr ((aB.length:Int) - 1)))) 1 [(ii (rd v5 (0+(tn v7))).a)]) (Zz (aB.set (0+(tn (wr ((aB.length:Int) - 1)))) (R2.mk (rd aB (0+(tn (wr ((aB.length:Int) - 1))))).a (rd v5 (0+(tn v7))).a)))) (pp (fl v5 (pp (xF (Xm (Zz aB) (0+(tn (wr ((aB.length:Int) - 1)))) 1 [(ii (rd v5 (0+(tn v7))).a)])) nn)) (ww k6 (ww dE (ww cC (tt k4 (ww dE (ww cC (tt k3 (tt k2 (tt k1 (ww bG (ww aI (tt k0 nn)))))))))))))))))) (fun k6=>trivial))))) (fun k4=>(lo fun cL=>(lb (fun k5=>(sl z3f 81 [] ⟨[0,1,2,3,4,5,6,7,12],[],y6c,y6d⟩ ⟨[],(kpB 6 [.cells [.len (Ut aB aX v5 v7).length],.keep,.rowed 2 (Ut aB aX v5 v7).length (Zz (Ut aB aX v5 v7))]),[]⟩ (bl 17 8161) (pp (xL (aB.length+1) (Ut aB aX v5 v7).length) (pp (xL (aB.length+1) (Ut aB aX v5 v7).length) (pp (xS (aB.length+1) (y2j aB aX v5 v7) (Zz (Ut aB aX v5 v7))) (pp (fl v5 (pp (xF (y2j aB aX v5 v7)) nn)) (ww k5 (ww cL (tt k4 (ww dE (ww cC (tt k3 (tt k2 (tt k1 (ww bG (ww aI (tt k0 nn))))))))))))))))) (fun k5=>(lb (fun k6=>(sl z3f 81 [] ⟨[0,1,2,3,4,5,6,7,12],[],y6c,y6d⟩ ⟨[],(kpB 6 [.cells [.len (Ut aB aX v5 v7).length],.keep,.rowed 2 (Ut aB aX v5 v7).length (Zz (Ut aB aX v5 v7))]),[]⟩ (bl 19 90081) (pp (xL (aB.length+1) (Ut aB aX v5 v7).length) (pp (xL (aB.length+1) (Ut aB aX v5 v7).length) (pp (xS (aB.length+1) (y2j aB aX v5 v7) (Zz (Ut aB aX v5 v7))) (pp (fl v5 (pp (xF (y2j aB aX v5 v7)) nn)) (ww k6 (ww cL (tt k4 (ww dE (ww cC (tt k3 (tt k2 (tt k1 (ww bG (ww aI (tt k0 nn))))))))))))))))) (fun k6=>trivial)))))))))) (fun k3=>(lo fun cC=>(lb (fun k4=>(sl z3f 81 [] ⟨[0,1,2,3,4,5,6,7,12],[],y6c,y6d⟩ ⟨[],(kpB 6 [.cells [.len (Ut aB aX v5 v7).length],.keep,.rowed 2 (Ut aB aX v5 v7).length (Zz (Ut aB aX v5 v7))]),[]⟩ (bl 17 1) (pp (xL (aB.length+1) (Ut aB aX v5 v7).length) (pp (xL (aB.length+1) (Ut aB aX v5 v7).length) (pp (xS (aB.length+1) (y2j aB aX v5 v7) (Zz (Ut aB aX v5 v7))) (pp (fl v5 (pp (xF (y2j aB aX v5 v7)) nn)) (ww k4 (ww cC (tt k3 (tt k2 (tt k1 (ww bG (ww aI (tt k0 nn)))))))))))))) (fun k4=>(lb (fun k5=>(sl z3f 81 [] ⟨[0,1,2,3,4,5,6,7,12],[],y6c,y6d⟩ ⟨[],(kpB 6 [.cells [.len (Ut aB aX v5 v7).length],.keep,.rowed 2 (Ut aB aX v5 v7).length (Zz (Ut aB aX v5 v7))]),[]⟩ (bl 19 81921) (pp (xL (aB.length+1) (Ut aB aX v5 v7).length) (pp (xL (aB.length+1) (Ut aB aX v5 v7).length) (pp (xS (aB.length+1) (y2j aB aX v5 v7) (Zz (Ut aB aX v5 v7))) (pp (fl v5 (pp (xF (y2j aB aX v5 v7)) nn)) (ww k5 (ww cC (tt k3 (tt k2 (tt k1 (ww bG (ww aI (tt k0 nn)))))))))))))) (fun k5=>trivial)))))))))))))) (fun k0=>(lb (fun k1=>(lr 11 3 [1,1,1,1,0] 1 16 [(4,.nils),(5,(ii 4))] (sl z3f 37 [] ⟨[],[],[some [4,5]],[]⟩ ⟨[],[],[]⟩ (bl 2 2) (tt k1 (tt k0 nn))))) (fun k1=>(lr 11 3 [1,1,1,1,0] 1 16 [(4,(.dat aB.length (Zz aB))),(5,(ii 0))] (sl z3f 39 [] ⟨[],[8],[some [4,5]],[]⟩ ⟨[(4,.frz aB.length aB.length (Zz aB) (Zz aB))],[],[]⟩ (bl 2 0) (pp (xZ (z4o 2 2 0 aB.length aB.length (Zz aB)) aB.length (Zz aB)) (pp (xL aB.length aB.length) (pp (xS aB.length (Zz aB) (Zz aB)) (pp (fl aB nn) (tt k1 (tt k0 nn))))))))))))
theorem x8n (q:Op) (l0:List R2) (l1:List R2):Xv prog (Zy prog (nSp q)) (spjC q l0 l1) (Za prog (nSp q) [(.dat l0.length (Zz l0)),(.dat l1.length (Zz l1))] true []) (y3s q l0 l1):=by cases q <;> exact (lo fun bP=>(lb (fun k0=>(lr 11 3 [1,1,1,1,0] 1 16 [(4,.nils),(5,(ii (y6h (cvT l0))))] (sl z3f 40 [] ⟨[],[],[some [4,5]],[]⟩ ⟨[],[],[]⟩ [true] (tt k0 (pp (pp (xr l0) (xw bP)) nn))))) (fun k0=>(lo fun aI=>(lb (fun k1=>(lr 11 3 [1,1,1,1,0] 1 16 [(4,.nils),(5,(ii (y6h (cvT l1))))] (sl z3f 54 [] ⟨[],[],[some [4,5]],[]⟩ ⟨[],[],[]⟩ [false,true] (tt k1 (pp (pp (xr l1) (xw aI)) (tt k0 (pp (pp (xr l0) (xw bP)) nn))))))) (fun k1=>(sl z3f 124 [(227,3,Zz ([]:List R3))] ⟨[6,0,1,2,3,4,5,7],[],spjN0,spjM0⟩ ⟨[(3,.grow 7 3)],[],[]⟩ [false,false,true] (pp (fl ([]:List R3) nn) (tt k1 (pp (pp (xr l1) (xw aI)) (tt k0 (pp (pp (xr l0) (xw bP)) nn))))))))))))
theorem u0l (q:Op) (l0:List R2) (l1:List R2) (n:Nat) (vs:List AVal) (h:Zt (Wf q l0 l1) n (y3s q l0 l1)=.ret vs):Uv prog (Zy prog (nSp q)) (Za prog (nSp q) [(.dat l0.length (Zz l0)),(.dat l1.length (Zz l1))] true []) vs:=by have:=Ze (w7q q l0 l1) n _ (x8n q l0 l1);rwa [h] at this
def spE (k:Nat) (a b:List R2):Int:=bif y6h a != 0 then y6h a else bif y6h b != 0 then y6h b else y5j (spJ k a b).length
theorem y2u (i:Int) (l:List R2):(Wn i l).length =2*l.length:=by
 induction l with
 | nil=>rfl
 | cons r l ih=>grind [Wn]
theorem x1s (j:Int) (l:List R2) (i:Nat) (h:i<l.length):Wn j (l.drop i)=Wn j [rd l i]++Wn j (l.drop (i+1)):=by rw [Yg h];rfl
theorem v8e {j:Int} {l:List R2} {e:R3} (h:e∈Wn j l):e.b=j∧(e.c=1∨e.c= -1):=by
 obtain ⟨s,_,h⟩:=AJ.1 h
 grind
theorem w4d (f:Bool→Bool→Bool) (e:R3) (r:List R3) (o p last:Int) (inn:Bool) (out:List R2):sw2 f (e::r) o p last inn out=sw2 f r (bif e.b == 0 then o+e.c else o) (bif e.b == 0 then p else p+e.c) e.a (f (decide ((bif e.b == 0 then o+e.c else o)>0)) (decide ((bif e.b == 0 then p else p+e.c)>0))) (Ug out last inn e.a):=rfl
section
variable (q:Op) (a b:List R2)
theorem u6x (L:List R3) (hL:L.length≤2000) (hE: ∀i,i<L.length→((rd L i).b =0∨(rd L i).b =1)∧((rd L i).c =1∨(rd L i).c = -1)): ∀(k i:Nat) (o p last:Int) (inn:Bool) (out:List R2),i+k=L.length→ -(i:Int)≤o→o≤i→ -(i:Int)≤p→p≤i→out.length≤i→
  ∃n,Zt (Wf q a b) n (.to (.h2 L (L.length:Int) (i:Int) o p last inn out))=.ret (Qw (sw2 (opB q.k) (L.drop i) o p last inn out))
 | 0,i,o,p,last,inn,out,h,ho1,ho2,hp1,hp2,hout=>by
  refine ⟨1,?_⟩;rw [Zw,As (by omega)];unfold Qw;show _=Xw.ret (bif decide ((out.length:Int)>400) then _ else _);rcases Yw (decide ((out.length:Int)>400)) with g | g <;>
  simp (disch:=omega) only [Wf,Ye,g,Ab,Aa,Zp];rfl
 | k + 1,i,o,p,last,inn,out,h,ho1,ho2,hp1,hp2,hout=>by
  obtain ⟨hb,hc⟩:=hE i (by omega);have hcl:=z3z out last inn (rd L i).a;have hcf: ∀x y,cV q x y=opB q.k x y:=fun _ _=>rfl;have hlt:decide ((i:Int)<(L.length:Int))=true:=An (by omega);have hw:wrap .i64 (o+(rd L i).c)=o+(rd L i).c :=Zk (by grind);have hw':wrap .i64 (p+(rd L i).c)=p+(rd L i).c :=Zk (by grind);have key: ∀(o' p':Int) (out':List R2),-((i+1:Nat):Int)≤o'→o'≤((i+1:Nat):Int)→ -((i+1:Nat):Int)≤p'→p'≤((i+1:Nat):Int)→out'=Ug out last inn (rd L i).a →
    Wf q a b (.h2 L (L.length:Int) (i:Int) o p last inn out)=.to (.h2 L (L.length:Int) ((i+1:Nat):Int) o' p' (rd L i).a (opB q.k (decide (o'>0)) (decide (p'>0))) out')→
    sw2 (opB q.k) (L.drop i) o p last inn out=sw2 (opB q.k) (L.drop (i+1)) o' p' (rd L i).a (opB q.k (decide (o'>0)) (decide (p'>0))) out'→
    ∃n,Zt (Wf q a b) n (.to (.h2 L (L.length:Int) (i:Int) o p last inn out))=.ret (Qw (sw2 (opB q.k) (L.drop i) o p last inn out)):=fun o' p' out' b1 b2 b3 b4 eo hs hq=>by
   obtain ⟨n,hn⟩:=u6x L hL hE k (i+1) o' p' (rd L i).a (opB q.k (decide (o'>0)) (decide (p'>0))) out' (by omega) b1 b2 b3 b4 (by grind);refine ⟨n+1,?_⟩;rw [Zw,hs,hq];exact hn
  rcases hb with hb | hb
  ·have hz:decide ((rd L i).b =Int.ofNat 0)=true:=An hb;have hb0:((rd L i).b == 0)=true:=by rw [hb];rfl
   refine key (o+(rd L i).c) p (Ug out last inn (rd L i).a) (by grind) (by grind) (by omega) (by omega) rfl ?_ ?_
   ·unfold Ug;cases inn with
    | false=>simp (disch:=omega) only [Wf,hlt,hz,hw,hw',hcf,Zs,Zo,Yv,Zk,Zx,Zj,Af,Ah,Ab,Aa,Az]
    | true=>
     rcases Yw (last == (rd L i).a) with g | g
     ·simp (disch:=omega) only [Wf,hlt,hz,hw,hw',hcf,Zs,Zo,Yv,Zk,Zx,Zj,Af,Ah,Ab,Aa,Aw,g]
     ·by_cases h0:0<out.length
      ·rw [An h0,Ai];rcases Yw ((rd out (out.length - 1)).b == last) with q2 | q2
       ·simp (disch:=omega) only [Wf,hlt,hz,hw,hw',hcf,Zs,Zo,Yv,Zk,Zx,Zj,Af,Ah,Ab,Aa,Aw,g,q2,Ys,Zi]
       ·simp (disch:=omega) only [Wf,hlt,hz,hw,hw',hcf,Zs,Zo,Yv,Zk,Zx,Zj,Af,Ah,Ab,Aa,Aw,Ai,g,q2,Ys,Zi,Yj,Zf,Yb,Ao]
      ·rw [AB h0,Bd];simp (disch:=omega) only [Wf,hlt,hz,hw,hw',hcf,Zs,Zo,Yv,Zk,Zx,Zj,Af,Ah,Ab,Aa,Aw,Ai,g,Xt,Yj,Zf,Yb,Ao]
   simp_all [Yg,w4d]
  ·have hz0:decide ((rd L i).b =Int.ofNat 0)=false:=AB (by grind);have hz:decide ((rd L i).b =Int.ofNat 1)=true:=An hb;have hb0:((rd L i).b == 0)=false:=by rw [hb];rfl
   refine key o (p+(rd L i).c) (Ug out last inn (rd L i).a) (by omega) (by omega) (by grind) (by grind) rfl ?_ ?_
   ·unfold Ug;cases inn with
    | false=>simp (disch:=omega) only [Wf,hlt,hz0,hz,hw,hw',hcf,Zs,Zo,Yv,Zk,Zx,Zj,Af,Ah,Ab,Aa,Az]
    | true=>
     rcases Yw (last == (rd L i).a) with g | g
     ·simp (disch:=omega) only [Wf,hlt,hz0,hz,hw,hw',hcf,Zs,Zo,Yv,Zk,Zx,Zj,Af,Ah,Ab,Aa,Aw,g]
     ·by_cases h0:0<out.length
      ·rw [An h0,Ai];rcases Yw ((rd out (out.length - 1)).b == last) with q2 | q2
       ·simp (disch:=omega) only [Wf,hlt,hz0,hz,hw,hw',hcf,Zs,Zo,Yv,Zk,Zx,Zj,Af,Ah,Ab,Aa,Aw,g,q2,Ys,Zi]
       ·simp (disch:=omega) only [Wf,hlt,hz0,hz,hw,hw',hcf,Zs,Zo,Yv,Zk,Zx,Zj,Af,Ah,Ab,Aa,Aw,Ai,g,q2,Ys,Zi,Yj,Zf,Yb,Ao]
      ·rw [AB h0,Bd];simp (disch:=omega) only [Wf,hlt,hz0,hz,hw,hw',hcf,Zs,Zo,Yv,Zk,Zx,Zj,Af,Ah,Ab,Aa,Aw,Ai,g,Xt,Yj,Zf,Yb,Ao]
   simp_all [Yg,w4d]
theorem u6y (ha:a.length≤400) (hb:b.length≤400) (va:a.all z1n=true) (vb:b.all z1n=true): ∀(k i:Nat) (E:List R3),i+k=b.length→E.length=2*a.length+2*i→E++Wn 1 (b.drop i)=Wn 0 a++Wn 1 b→ ∃n,Zt (Wf q a b) n (.to (.h1 E (i:Int)))=.ret (Qw (spJ q.k a b))
 | 0,i,E,h,hl,he=>by
  rw [As (by omega),show Wn 1 []=[] from rfl,AC] at he;subst he;have hbnd:y3e (Wn 0 a++Wn 1 b)=true:=by
   grind [x6t,y3e]
  have hsl:=y5y (Wn 0 a++Wn 1 b);obtain ⟨hp,_⟩:=Qo _ hbnd;obtain ⟨n,hn⟩:=u6x q a b (z2k (Wn 0 a++Wn 1 b)) (by grind) (fun i hi=>by
   have hm:rd (z2k (Wn 0 a++Wn 1 b)) i∈Wn 0 a++Wn 1 b:=hp.mem_iff.1 (by grind [Yr])
   grind [v8e]) (z2k (Wn 0 a++Wn 1 b)).length 0 0 0 0 false [] (Af _) (by omega) (by omega) (by omega) (by omega) (Ay _)
  refine ⟨n+1,?_⟩;rw [Zw];have step:Wf q a b (.h1 (Wn 0 a++Wn 1 b) (i:Int))=.to (.h2 (z2k (Wn 0 a++Wn 1 b)) (((Wn 0 a++Wn 1 b).length :Nat):Int) 0 0 0 0 false []):=by
   grind [Wf,Zc]
  rw [step,←hsl];exact hn
 | k+1,i,E,h,hl,he=>by rw [x1s 1 b i (by omega),←AK] at he;obtain ⟨n,hn⟩:=u6y ha hb va vb k (i+1) (E++Wn 1 [rd b i]) (by omega) (by grind [y2u]) he;refine ⟨n+1,?_⟩;rw [Zw];simp (disch:=omega) only [Wf,Yj,Zf,Yb,Ao,Ai,Zs,Zo,Yv,Zk,Zx,Zj,Af,Ah,Ab,Aa];exact hn
theorem u6z (ha:a.length≤400) (hb:b.length≤400) (va:a.all z1n=true) (vb:b.all z1n=true): ∀(k i:Nat) (E:List R3),i+k=a.length→E.length=2*i→E++Wn 0 (a.drop i)=Wn 0 a→ ∃n,Zt (Wf q a b) n (.to (.h0 E (i:Int)))=.ret (Qw (spJ q.k a b))
 | 0,i,E,h,hl,he=>by
  rw [As (by omega),show Wn 0 []=[] from rfl,AC] at he;subst he;obtain ⟨n,hn⟩:=u6y q a b ha hb va vb b.length 0 (Wn 0 a) (Af _) (by omega) (by grind);refine ⟨n+1,?_⟩
  grind [Zw,Wf]
 | k+1,i,E,h,hl,he=>by rw [x1s 0 a i (by omega),←AK] at he;obtain ⟨n,hn⟩:=u6z ha hb va vb k (i+1) (E++Wn 0 [rd a i]) (by omega) (by grind [y2u]) he;refine ⟨n+1,?_⟩;rw [Zw];simp (disch:=omega) only [Wf,Yj,Zf,Yb,Ao,Ai,Zs,Zo,Yv,Zk,Zx,Zj,Af,Ah,Ab,Aa];exact hn
theorem j2u : ∃n,Zt (Wf q a b) n (y3s q a b)=.ret (z8w (spE q.k a b) (spJ q.k a b)):=by
 unfold y3s;have o: ∀l,z5a l=true:=fun _=>rfl;simp only [Zc,o,Ab];rcases Yw (y6h a != 0) with q1 | q1
 ·exact ⟨0,by simp only [spE,q1,Ab,Vn _ q1];rfl⟩
 rcases Yw (y6h b != 0) with q2 | q2
 ·exact ⟨0,by simp only [spE,q1,q2,Ab,Aa,Vn _ q2];rfl⟩
 obtain ⟨a1,a2,_⟩:=(z5x a).1 (by grind);obtain ⟨b1,b2,_⟩:=(z5x b).1 (by grind);obtain ⟨n,hn⟩:=u6z q a b a1 b1 a2 b2 a.length 0 [] (Af _) rfl (by grind)
 grind [spE,y0c]
end
def z4w (q:Op) (a b:List R2):List R2:=y7s (spE q.k a b) (spJ q.k a b)
def w7r (q:Op) (a b:List R2):Int:=spE q.k a b
def x2h (q:Op) (a b:List R2):Bool:=true
def fSp (q:Op):List AVal→Option (AVal×Bool)
 | [a1,a2]=>match asL R2 a1,asL R2 a2 with
  | some (L1,g1,n1),some (L2,g2,n2)=>some (.tup [.dat (z4w q L1 L2).length (Zz (z4w q L1 L2)),.int .i64 (w7r q L1 L2)],isT R2 n1 g1&&(isT R2 n2 g2&&x2h q L1 L2))
  | _,_=>none
 | _=>none
theorem v7u (q:Op) {S:Specs} (hS:Zu prog S):Zu prog (S.with (nSp q) (fSp q)):=by
 refine w6l hS (by cases q <;> kernel_rfl) fun args v h=> ?_;unfold fSp at h;split at h
 ·rename_i a1 a2;split at h
  ·rename_i L1 g1 n1 L2 g2 n2 e1 e2;simp only [Ad,Ac,Ae] at h;obtain ⟨rfl,ho1,ho2,_⟩:=h;obtain ⟨N,hN⟩:=j2u q L1 L2;exact ⟨_,_,(.cons (Yh e1 ho1) (.cons (Yh e2 ho2) .nil)),z0n _ _,u0l q L1 L2 N _ hN,3,z5f _ _⟩
  ·cases h
 ·cases h
def Ub :Specs:=((Ua.with (nSp .u) (fSp .u)).with (nSp .e) (fSp .e)).with (nSp .d) (fSp .d)
theorem y8n :Zu prog Ub:=v7u .d (v7u .e (v7u .u z3f))
inductive rgcS where
 | h0 (v8:Int)
def rgcC (l0:List R4):rgcS→Cfg
 | .h0 v8=>⟨⟨19,0,true⟩,none,(Zg prog 192 [1,0,1,0,0] 0),none,(Zy prog 6),⟨Yk [(0,(.dat l0.length (Zz l0))),(1,(.fn 182 [])),(7,(ii (l0.length:Int))),(8,(ii v8))],Vv [] 0,0,[],true⟩,[⟨⟨9,0,true⟩,(Wr prog 181 [1,0] 2),(Zg prog 181 [1,0] 1),none,(Zy prog 6),Yk [(5,(.dat l0.length (Zz l0))),(6,(.fn 182 []))]⟩,⟨⟨23,0,true⟩,(Wr prog 157 [1,1,0,0] 1),(Zg prog 157 [1,1,0,0] 1),none,(Zy prog 9),Yk [(0,(.dat l0.length (Zz l0))),(8,(.dat l0.length (Zz l0)))]⟩],.leaf⟩
def rgcN0 :List (Option (List Nat)):=[some [0,1,7,8],some [5,6],some [0,8]]
def rgcM0 :List (Option (List Nat)):=[]
def z3n (l0:List R4):rgcS→Xw rgcS
 | .h0 v8=>(bif (decide (v8<(l0.length:Int))) then (bif ((decide (0≤v8∧v8<(l0.length:Int)))&&true) then (bif (!(j2a (rd l0 v8.toNat).a (rd l0 v8.toNat).b (rd l0 v8.toNat).c (rd l0 v8.toNat).d)) then (bif (decide (v8≥0)) then (.ret [(.int .i64 8)]) else (bif (Qt (cvT l0)) then (bif ((z2c (cvT l0)) != 0) then (.ret [(.int .i64 8)]) else (bif (Wv (cvT (Wc (cvT l0))) (cvT l0)) then (bif (!(Vh (cvT (Wc (cvT l0))) (cvT l0))) then (.ret [(.int .i64 8)]) else (.ret [(.int .i64 0)])) else .stuck)) else .stuck)) else (.to (.h0 (wrap .i64 (v8+1))))) else .stuck) else (bif (Qt (cvT l0)) then (bif ((z2c (cvT l0)) != 0) then (.ret [(.int .i64 8)]) else (bif (Wv (cvT (Wc (cvT l0))) (cvT l0)) then (bif (!(Vh (cvT (Wc (cvT l0))) (cvT l0))) then (.ret [(.int .i64 8)]) else (.ret [(.int .i64 0)])) else .stuck)) else .stuck))
def z8u (l0:List R4):Xw rgcS:=(bif (decide ((l0.length:Int)>400)) then (.ret [(.int .i64 4)]) else (.to (.h0 0)))
theorem w9a (l0:List R4): ∀s,Xv prog (Zy prog 157) (rgcC l0) (rgcC l0 s) (z3n l0 s)
 | .h0 v8=>(lb (fun k0=>(lo fun aI=>(lb (fun k1=>(lb (fun k2=>(lr 23 157 [1,1,0,1,0,0] 1 9 [(2,(ii 8))] (sl y8n 53 [] ⟨[],[],[some [2]],[]⟩ ⟨[],[],[]⟩ (trs 3 []) (tt k2 (tt k1 (ww aI (tt k0 nn))))))) (fun k2=>(lo fun cA=>(lb (fun k3=>(lr 23 157 [1,1,1,0,1,1,0,0] 1 9 [(2,(ii 8))] (sl y8n 77 [] ⟨[],[],[some [2]],[]⟩ ⟨[],[],[]⟩ (bl 8 251) (tt k3 (pp (pp (xr l0) (xw cA)) (tt k2 (tt k1 (ww aI (tt k0 nn))))))))) (fun k3=>(lo fun cC=>(lb (fun k4=>(lr 23 157 [1,1,1,0,1,1,0,0] 1 9 [(2,(ii 8))] (sl y8n 77 [] ⟨[],[],[some [2]],[]⟩ ⟨[],[],[]⟩ (bl 8 131) (tt k4 (pp (pp (xI R4 (Wc (cvT l0)).length (Zz (Wc (cvT l0)))) (pp (xr l0) (xw cC))) (tt k3 (pp (pp (xr l0) (xw cA)) (tt k2 (tt k1 (ww aI (tt k0 nn))))))))))) (fun k4=>(lr 23 3 [1,1,1,1,0] 1 9 [(2,(ii 0))] (sl y8n 78 [] ⟨[],[],[some [2]],[]⟩ ⟨[],[],[]⟩ (bl 8 3) (tt k4 (pp (pp (xI R4 (Wc (cvT l0)).length (Zz (Wc (cvT l0)))) (pp (xr l0) (xw cC))) (tt k3 (pp (pp (xr l0) (xw cA)) (tt k2 (tt k1 (ww aI (tt k0 nn))))))))))))))))))) (fun k1=>(sl y8n 44 [] ⟨[],[],rgcN0,rgcM0⟩ ⟨[],[],[]⟩ (bl 2 1) (tt k1 (ww aI (tt k0 nn)))))))) (fun k0=>(lo fun aI=>(lb (fun k1=>(lr 23 157 [1,1,1,0,1,1,0,0] 1 9 [(2,(ii 8))] (sl y8n 46 [] ⟨[],[],[some [2]],[]⟩ ⟨[],[],[]⟩ (bl 7 124) (tt k1 (pp (pp (xr l0) (xw aI)) (tt k0 nn)))))) (fun k1=>(lo fun bX=>(lb (fun k2=>(lr 23 157 [1,1,1,0,1,1,0,0] 1 9 [(2,(ii 8))] (sl y8n 46 [] ⟨[],[],[some [2]],[]⟩ ⟨[],[],[]⟩ (bl 7 64) (tt k2 (pp (pp (xI R4 (Wc (cvT l0)).length (Zz (Wc (cvT l0)))) (pp (xr l0) (xw bX))) (tt k1 (pp (pp (xr l0) (xw aI)) (tt k0 nn)))))))) (fun k2=>(lr 23 3 [1,1,1,1,0] 1 9 [(2,(ii 0))] (sl y8n 47 [] ⟨[],[],[some [2]],[]⟩ ⟨[],[],[]⟩ (bl 7 0) (tt k2 (pp (pp (xI R4 (Wc (cvT l0)).length (Zz (Wc (cvT l0)))) (pp (xr l0) (xw bX))) (tt k1 (pp (pp (xr l0) (xw aI)) (tt k0 nn)))))))))))))))
theorem w0d (l0:List R4):Xv prog (Zy prog 157) (rgcC l0) (Za prog 157 [(.dat l0.length (Zz l0))] true []) (z8u l0):=(lb (fun k0=>(lr 23 157 [1,0,1,0,0] 1 9 [(2,(ii 4))] (sl y8n 16 [] ⟨[],[],[some [2]],[]⟩ ⟨[],[],[]⟩ [true] (tt k0 nn)))) (fun k0=>(sl y8n 40 [] ⟨[],[],rgcN0,rgcM0⟩ ⟨[],[],[]⟩ [false] (tt k0 nn))))
theorem u2w (l0:List R4) (n:Nat) (vs:List AVal) (h:Zt (z3n l0) n (z8u l0)=.ret vs):Uv prog (Zy prog 157) (Za prog 157 [(.dat l0.length (Zz l0))] true []) vs:=by have:=Ze (w9a l0) n _ (w0d l0);rwa [h] at this
def rgcF (l:List R4):Int:=bif z2c l != 0 then 8 else bif Vh (Wc l) l then 0 else 8
def z8v (l:List R4):Int:=bif decide (400<l.length) then 4 else bif l.all Vi then rgcF l else 8
def z5e (l:List R4):Bool:=true
theorem w1a (l:List R4):(Wc l).length ≤400:=by
 grind [Wc,j1c,y7s,y5j]
theorem u9q (l:List R4) (hl:l.length≤400): ∀(k i:Nat),i+k=l.length→(∀s∈l.take i,Vi s=true)→ ∃n,Zt (z3n l) n (.to (.h0 (i:Int)))=.ret (bif l.all Vi then [.int .i64 (rgcF l)] else [.int .i64 8])
 | 0,i,h,ht=>by
  have hv:l.all Vi=true:=Ar.2 fun s hs=>ht s (by grind);have w:Qt l=true:=An hl;refine ⟨1,?_⟩;rw [Zw,hv,Ab];have w2:Wv (Wc l) l=true:=An (by have:=w1a l;omega);unfold rgcF;rcases Yw (z2c l != 0) with q | q
  ·grind [z3n,Zc,Zp]
  ·rcases Yw (Vh (Wc l) l) with q2 | q2 <;>
   simp (disch:=omega) only [z3n,Zc,w,w2,q,q2,Ye,Aw,Az,Ab,Aa,Zp]
 | k+1,i,h,ht=>by
  have hi:i<l.length:=by omega
  have hs:z3n l (.h0 (i:Int))=bif Vi (rd l i) then .to (.h0 ((i+1:Nat):Int)) else .ret [.int .i64 8]:=by have e:j2a (rd l i).a (rd l i).b (rd l i).c (rd l i).d =Vi (rd l i):=rfl;simp (disch:=omega) only [z3n,e,y1u,x6u,w6o,Zo,Zk,Zx,Zj,Ah,Ab,Aa]
  rcases Yw (Vi (rd l i)) with q | q
  ·obtain ⟨n,hn⟩:=u9q l hl k (i+1) (by omega) (fun s hs=>by
    rw [AX] at hs
    grind [Yr])
   refine ⟨n+1,?_⟩
   grind [Zw]
  ·have hv:l.all Vi=false:=A0.2 fun e=>by
    grind [Yr]
   refine ⟨1,?_⟩
   grind [Zw,Zp]
theorem u2v (l:List R4): ∃n,Zt (z3n l) n (z8u l)=.ret (bif decide (400<l.length) then [.int .i64 4] else bif l.all Vi then [.int .i64 (rgcF l)] else [.int .i64 8]):=by
 unfold z8u;by_cases h:400<l.length
 ·refine ⟨0,?_⟩;rw [An h,Ys (show (l.length:Int)>400 by omega)];rfl
 ·obtain ⟨n,hn⟩:=u9q l (by omega) l.length 0 (Af _) (fun s hs=>by simp at hs)
  grind
theorem j5j (l:List R4) (h:z5e l=true): ∃n,Zt (z3n l) n (z8u l)=.ret [.int .i64 (z8v l)]:=by
 obtain ⟨n,hn⟩:=u2v l
 grind [z8v]
def fRgc :List AVal→Option (AVal×Bool)
 | [a0]=>match asL R4 a0 with
  | some (L0,g0,n0)=>some (.int .i64 (z8v L0),isT R4 n0 g0&&(z5e L0))
  | _=>none
 | _=>none
theorem j8d {S:Specs} (hS:Zu prog S):Zu prog (S.with w5m fRgc):=by
 refine z0k hS (by kernel_rfl) fun args v h=> ?_;unfold fRgc at h;split at h
 ·rename_i a0;split at h
  ·rename_i L0 g0 n0 e0;simp only [Ad,Ac,Ae] at h;obtain ⟨rfl,ho0,hw⟩:=h;obtain ⟨N,hN⟩:=j5j L0 hw;exact ⟨_,_,(.cons (Yh e0 ho0) .nil),rfl,u2w L0 N _ hN,3,rfl⟩
  ·cases h
 ·cases h
def Uc :Specs:=(Ub.with w5m fRgc)
theorem Qx :Zu prog Uc:=(j8d y8n)
inductive rgjS where
 | h0 (v16:Int) (aD:List Int)
 | h1 (v16:Int) (aD:List Int)
 | h2 (v4:Int) (aG:List R4) (aR:List R2) (bC:Int) (bD:Int) (aE:Nat) (aK:List Int)
 | h3 (v4:Int) (v38:Int) (aG:List R4) (aR:List R2) (bC:Int) (bD:Int) (aE:Nat) (aK:List Int) (aF:Int) (aZ:Int) (aA:List R2)
 | h4 (v4:Int) (v38:Int) (aG:List R4) (aR:List R2) (bC:Int) (bD:Int) (aE:Nat) (aK:List Int) (aF:Int) (aZ:Int) (aA:List R2) (aH:List R2)
 | h5 (v1:Int) (v2:Int) (v71:List R2) (v72:Int) (v73:Int) (aY:Int) (aC:List R4) (bE:Int) (aE:Nat) (aK:List Int) (aF:List R2) (aZ:List R2)
 | h6 (v2:Int) (v8:Int) (dA:Int) (dB:List R2) (aY:Int) (aC:List R4) (bH:List R2) (bE:Int) (bT:Int) (bL:Nat) (bS:List Int) (aA:List R2) (aH:List R2)
def y6m (q:Op) (l0:List R4) (l1:List R4):AFr:=⟨⟨11,0,true⟩,(Wr prog (nRg q) [1,0] 2),(Zg prog (nRg q) [1,0] 1),none,(Zy prog 16),Yk [(6,(.dat l0.length (Zz l0))),(7,(.dat l1.length (Zz l1)))]⟩
abbrev x0q (aC:List R4) (v8:Int) (v2:Int):=(aC.set (0+(tn v8)) (R4.mk (rd aC (0+(tn v8))).a (rd aC (0+(tn v8))).b v2 (rd aC (0+(tn v8))).d))
def v5a :=(z9k [(0,⟨.ready,none,49,Yk [(5,(.ptr 1 0)),(6,(.ptr 2 0)),(7,(.ptr 3 0)),(9,(.ptr 4 0))],[23],(Wq prog 84 [1,1,1,0,1,0,0]),(Wq prog 84 [1,1,1,0,1,0,1])⟩)])
abbrev x0p (aD:List Int):=(Wy (Yq aD.length (cOf (Zz (Xk (Yq aD.length (cOf (Zz aD))))))))
def v4z :AFr:=⟨⟨49,0,true⟩,none,(.inRangeFunc 0::(Zg prog 84 [1,1,1,0,1,0] 1)),none,(Zy prog 84),Yk [(6,(.ptr 2 0)),(7,(.ptr 3 0)),(9,(.ptr 4 0))]⟩
def y6l (l0:List R4) (l1:List R4):ABlk:=⟨[(.dat l0.length (Zz l0)),(.dat l1.length (Zz l1))],81,none⟩
def u9p :AFr:=⟨⟨49,0,true⟩,(Wr prog 84 [1,1,1,0,0] 3),(Zg prog 84 [1,1,1,0,0] 1),none,(Zy prog 84),Yk [(5,(.ptr 3 0)),(6,(.ptr 4 0)),(7,(.ptr 5 0)),(9,(.ptr 6 0)),(21,(.sl 1 0 2 (.un 1)))]⟩
abbrev x0o (aA:List R2) (l0:List R4) (v38:Int):=(aA++[(R2.mk (rd l0 (tn v38)).b (rd l0 (tn v38)).d)])
abbrev x0n (aH:List R2) (l1:List R4) (v38:Int):=(aH++[(R2.mk (rd l1 (tn v38)).b (rd l1 (tn v38)).d)])
def y6k (q:Op):ABlk:=⟨[(.fn (nSp q) [])],123,none⟩
abbrev y1c (aC:List R4) (v1:Int) (v71:List R2) (v73:Int) (v2:Int):=(aC++[(R4.mk v1 (rd v71 (tn v73)).a v2 (rd v71 (tn v73)).b)])
abbrev y1b (aD:List Int) (l0:List R4) (v16:Int):=(aD++[(rd l0 (tn v16)).a,(rd l0 (tn v16)).c])
abbrev y1a (aD:List Int) (l1:List R4) (v16:Int):=(aD++[(rd l1 (tn v16)).a,(rd l1 (tn v16)).c])
def x2x :ABlk:=⟨[(.sl 8 0 2 (.un 1))],197,none⟩
def v5b :=(Zg prog 158 [1,0,0,1,0,0,1,0,1,0,0,1,1,0,0,1,1,0,0] 0)
def rgjC (q:Op) (l0:List R4) (l1:List R4):rgjS→Cfg
 | .h0 v16 aD=>⟨⟨34,0,true⟩,none,(Zg prog 119 [1,1,0,1,0,0,1,1,0,0,1,1,0,0] 0),none,(Zy prog 9),⟨Yk [(1,(.ptr 0 0)),(3,(.ptr 2 0)),(8,(.sl 1 0 2 (.un 1))),(9,(ii 2)),(10,(ii 0)),(14,(.dat l0.length (Zz l0))),(15,(ii (l0.length:Int))),(16,(ii v16))],Vv [⟨[(.sl 1 0 2 (.un 1))],197,none⟩,(y6l l0 l1),⟨[(.sla 7 1 0 aD.length (.un 1))],125,none⟩,(y6k q),⟨[.nils],81,none⟩,⟨[(ii 0)],24,none⟩,⟨[.nils,.nils,(ii 0),(ii 0)],157,none⟩,⟨Ym aD.length (Zz aD),3,some ⟨1,aD.length,(Zz aD)⟩⟩] 0,8,[],true⟩,[u9p,(y6m q l0 l1)],.leaf⟩
 | .h1 v16 aD=>⟨⟨34,0,true⟩,none,(Zg prog 119 [1,1,0,1,0,0,1,1,0,0,1,1,0,0] 0),none,(Zy prog 9),⟨Yk [(1,(.ptr 0 0)),(3,(.ptr 2 0)),(8,(.sl 1 0 2 (.un 1))),(9,(ii 2)),(10,(ii 1)),(14,(.dat l1.length (Zz l1))),(15,(ii (l1.length:Int))),(16,(ii v16))],Vv [⟨[(.sl 1 0 2 (.un 1))],197,none⟩,(y6l l0 l1),⟨[(.sla 7 1 0 aD.length (.un 1))],125,none⟩,(y6k q),⟨[.nils],81,none⟩,⟨[(ii 0)],24,none⟩,⟨[.nils,.nils,(ii 0),(ii 0)],157,none⟩,⟨Ym aD.length (Zz aD),3,some ⟨1,aD.length,(Zz aD)⟩⟩] 0,8,[],true⟩,[u9p,(y6m q l0 l1)],.leaf⟩
 | .h2 v4 aG aR bC bD aE aK=>⟨⟨76,0,true⟩,none,(Zg prog 158 [1,0,0] 0),none,[],⟨Yk [(0,(.yld 0)),(1,(.ptr 5 0)),(2,(.ptr 7 0)),(4,(ii v4))],z5j [(1,(y6k q)),(2,⟨[.nils],81,none⟩),(3,⟨[(ii 0)],24,none⟩),(4,⟨[(.sla 9 4 0 aG.length (.un 4)),(.dat aR.length (Zz aR)),(ii bC),(ii bD)],157,none⟩),(5,⟨[(.sla 6 1 0 aE (.un 1))],125,none⟩),(6,⟨Ym aK.length (Zz aK),3,some ⟨1,aK.length,(Zz aK)⟩⟩),(7,x2x),(8,(y6l l0 l1)),(9,⟨Ym aG.length (Zz aG),116,some ⟨4,aG.length,(Zz aG)⟩⟩)],10,[],true⟩,[v4z,(y6m q l0 l1)],v5a⟩
 | .h3 v4 v38 aG aR bC bD aE aK aF aZ aA=>⟨⟨76,0,true⟩,none,v5b,none,[],⟨Yk [(0,(.yld 0)),(1,(.ptr 5 0)),(2,(.ptr 7 0)),(4,(ii v4)),(5,(.ptr 9 0)),(6,(ii 0)),(29,(.sl 8 0 2 (.un 1))),(30,(ii 2)),(31,(ii 0)),(36,(.dat l0.length (Zz l0))),(37,(ii (l0.length:Int))),(38,(ii v38))],z5j [(1,(y6k q)),(2,⟨[.nils],81,none⟩),(3,⟨[(ii 0)],24,none⟩),(4,⟨[(.sla 12 4 0 aG.length (.un 4)),(.dat aR.length (Zz aR)),(ii bC),(ii bD)],157,none⟩),(5,⟨[(.sla 6 1 0 aE (.un 1))],125,none⟩),(6,⟨Ym aK.length (Zz aK),3,some ⟨1,aK.length,(Zz aK)⟩⟩),(7,x2x),(8,(y6l l0 l1)),(9,⟨[(ii aF),(ii aZ),(.sl 10 0 2 (.ex 2))],162,none⟩),(10,⟨[(.sla 11 2 0 aA.length (.un 2)),.nils],155,none⟩),(11,⟨Ym aA.length (Zz aA),176,some ⟨2,aA.length,(Zz aA)⟩⟩),(12,⟨Ym aG.length (Zz aG),116,some ⟨4,aG.length,(Zz aG)⟩⟩)],13,[],true⟩,[v4z,(y6m q l0 l1)],v5a⟩
 | .h4 v4 v38 aG aR bC bD aE aK aF aZ aA aH=>⟨⟨76,0,true⟩,none,v5b,none,[],⟨Yk [(0,(.yld 0)),(1,(.ptr 5 0)),(2,(.ptr 7 0)),(4,(ii v4)),(5,(.ptr 9 0)),(6,(ii 1)),(29,(.sl 8 0 2 (.un 1))),(30,(ii 2)),(31,(ii 1)),(36,(.dat l1.length (Zz l1))),(37,(ii (l1.length:Int))),(38,(ii v38))],z5j [(1,(y6k q)),(2,⟨[.nils],81,none⟩),(3,⟨[(ii 0)],24,none⟩),(4,⟨[(.sla 13 4 0 aG.length (.un 4)),(.dat aR.length (Zz aR)),(ii bC),(ii bD)],157,none⟩),(5,⟨[(.sla 6 1 0 aE (.un 1))],125,none⟩),(6,⟨Ym aK.length (Zz aK),3,some ⟨1,aK.length,(Zz aK)⟩⟩),(7,x2x),(8,(y6l l0 l1)),(9,⟨[(ii aF),(ii aZ),(.sl 10 0 2 (.ex 2))],162,none⟩),(10,⟨[(.sla 11 2 0 aA.length (.un 2)),(.sla 12 2 0 aH.length (.un 2))],155,none⟩),(11,⟨Ym aA.length (Zz aA),176,some ⟨2,aA.length,(Zz aA)⟩⟩),(12,⟨Ym aH.length (Zz aH),176,some ⟨2,aH.length,(Zz aH)⟩⟩),(13,⟨Ym aG.length (Zz aG),116,some ⟨4,aG.length,(Zz aG)⟩⟩)],14,[],true⟩,[v4z,(y6m q l0 l1)],v5a⟩
 | .h5 v1 v2 v71 v72 v73 aY aC bE aE aK aF aZ=>⟨⟨94,0,true⟩,none,(Zg prog 120 [1,1,1,0,0] 0),none,[],⟨Yk [(0,(.ptr 0 0)),(1,(ii v1)),(2,(ii v2)),(71,(.dat v71.length (Zz v71))),(72,(ii v72)),(73,(ii v73))],z5j [(0,⟨[(.sla 10 4 0 aC.length (.un 4)),(.dat v71.length (Zz v71)),(ii bE),(ii v2)],157,none⟩),(2,(y6k q)),(3,⟨[.nils],81,none⟩),(4,⟨[(ii 0)],24,none⟩),(5,⟨[(.sla 6 1 0 aE (.un 1))],125,none⟩),(6,⟨Ym aK.length (Zz aK),3,some ⟨1,aK.length,(Zz aK)⟩⟩),(7,x2x),(8,(y6l l0 l1)),(9,⟨[(.dat aF.length (Zz aF)),(.dat aZ.length (Zz aZ))],155,none⟩),(10,⟨Ym aC.length (Zz aC),116,some ⟨4,aC.length,(Zz aC)⟩⟩)],11,[],true⟩,[⟨⟨49,0,true⟩,(Wr prog 84 [1,1,1,0,1,0,1,0,1,1] 5),(Zg prog 84 [1,1,1,0,1,0,1,0,1,1] 1),(some 1),[],Yk [(9,(.ptr 0 0)),(41,(ii v1)),(43,(ii v2)),(44,(.dat v71.length (Zz v71)))]⟩,⟨⟨76,0,true⟩,(Wr prog 158 [1,0,0,1,0,0,1,1,0] 2),(Zg prog 158 [1,0,0,1,0,0,1,1,0] 1),none,[],Yk [(0,(.yld 1)),(1,(.ptr 5 0)),(2,(.ptr 7 0)),(4,(ii aY)),(72,(.yld 1)),(73,(.agg [(ii v1),(ii v2),(.sl 9 0 2 (.ex 2))]))]⟩,⟨⟨49,0,true⟩,none,(.inRangeFunc 1::(Zg prog 84 [1,1,1,0,1,0] 1)),none,(Zy prog 84),Yk [(6,(.ptr 3 0)),(7,(.ptr 4 0)),(9,(.ptr 0 0))]⟩,(y6m q l0 l1)],(z9k [(1,⟨.busy,none,49,Yk [(5,(.ptr 2 0)),(6,(.ptr 3 0)),(7,(.ptr 4 0)),(9,(.ptr 0 0))],[23],(Wq prog 84 [1,1,1,0,1,0,0]),(Wq prog 84 [1,1,1,0,1,0,1])⟩)])⟩
 | .h6 v2 v8 dA dB aY aC bH bE bT bL bS aA aH=>⟨⟨94,0,true⟩,none,(Zg prog 120 [0,1,0,0,1,0,0] 0),none,[],⟨Yk [(0,(.ptr 0 0)),(2,(ii v2)),(8,(ii v8))],z5j [(0,⟨[(.sla 1 4 0 aC.length (.un 4)),(.dat bH.length (Zz bH)),(ii bE),(ii bT)],157,none⟩),(1,⟨Ym aC.length (Zz aC),116,some ⟨4,aC.length,(Zz aC)⟩⟩),(3,(y6k q)),(4,⟨[.nils],81,none⟩),(5,⟨[(ii 0)],24,none⟩),(6,⟨[(.sla 7 1 0 bL (.un 1))],125,none⟩),(7,⟨Ym bS.length (Zz bS),3,some ⟨1,bS.length,(Zz bS)⟩⟩),(8,⟨[(.sl 9 0 2 (.un 1))],197,none⟩),(9,(y6l l0 l1)),(10,⟨[(.dat aA.length (Zz aA)),(.dat aH.length (Zz aH))],155,none⟩)],11,[],true⟩,[⟨⟨49,0,true⟩,(Wr prog 84 [1,1,1,0,1,0,1,0,1,1] 5),(Zg prog 84 [1,1,1,0,1,0,1,0,1,1] 1),(some 2),[],Yk [(9,(.ptr 0 0)),(41,(ii dA)),(43,(ii v2)),(44,(.dat dB.length (Zz dB)))]⟩,⟨⟨76,0,true⟩,(Wr prog 158 [1,0,0,1,0,0,1,1,0] 2),(Zg prog 158 [1,0,0,1,0,0,1,1,0] 1),none,[],Yk [(0,(.yld 2)),(1,(.ptr 6 0)),(2,(.ptr 8 0)),(4,(ii aY)),(72,(.yld 2)),(73,(.agg [(ii dA),(ii v2),(.sl 10 0 2 (.ex 2))]))]⟩,⟨⟨49,0,true⟩,none,(.inRangeFunc 2::(Zg prog 84 [1,1,1,0,1,0] 1)),none,(Zy prog 84),Yk [(6,(.ptr 4 0)),(7,(.ptr 5 0)),(9,(.ptr 0 0))]⟩,(y6m q l0 l1)],(z9k [(2,⟨.busy,none,49,Yk [(5,(.ptr 3 0)),(6,(.ptr 4 0)),(7,(.ptr 5 0)),(9,(.ptr 0 0))],[23],(Wq prog 84 [1,1,1,0,1,0,0]),(Wq prog 84 [1,1,1,0,1,0,1])⟩)])⟩
def rgjN0 :List (Option (List Nat)):=[some [1,3,8,9,10,14,15,16],some [5,6,7,9,21],some [6,7]]
def rgjM0 :List (Option (List Nat)):=[]
def rgjN1 :List (Option (List Nat)):=[some [1,3,8,9,10,14,15,16],some [5,6,7,9,21],some [6,7]]
def rgjM1 :List (Option (List Nat)):=[]
def j5h :List (Option (List Nat)):=[some [0,1,2,4],some [6,7,9],some [6,7]]
def j5i :List (Option (List Nat)):=[some [5,6,7,9],none,none,none,none,none,none,none,none,none]
def u2r :List (Option (List Nat)):=[some [0,1,2,4,5,6,29,30,31,36,37,38],some [6,7,9],some [6,7]]
def u2u :List (Option (List Nat)):=[some [5,6,7,9],none,none,none,none,none,none,none,none,none,none,none,none]
def u2q :List (Option (List Nat)):=[some [0,1,2,4,5,6,29,30,31,36,37,38],some [6,7,9],some [6,7]]
def u2t :List (Option (List Nat)):=[some [5,6,7,9],none,none,none,none,none,none,none,none,none,none,none,none,none]
def u2p :List (Option (List Nat)):=[some [0,1,2,71,72,73],some [9,41,43,44],some [0,1,2,4,72,73],some [6,7,9],some [6,7]]
def u2s :List (Option (List Nat)):=[none,some [5,6,7,9],none,none,none,none,none,none,none,none,none]
def rgjN6 :List (Option (List Nat)):=[some [0,2,8],some [9,41,43,44],some [0,1,2,4,72,73],some [6,7,9],some [6,7]]
def rgjM6 :List (Option (List Nat)):=[none,none,some [5,6,7,9],none,none,none,none,none,none,none,none]
def Xz (q:Op) (l0:List R4) (l1:List R4):rgjS→Xw rgjS
 | .h0 v16 aD=>(bif (decide (v16<(l0.length:Int))) then (bif ((decide (0≤v16∧v16<(l0.length:Int)))&&true) then (bif (Nat.beq 1 1&&((decide (0+aD.length=aD.length))&&decide ((aD.length+2+1)*(8+1)≤Jo))) then (.to (.h0 (wrap .i64 (v16+1)) (aD++[(rd l0 v16.toNat).a,(rd l0 v16.toNat).c]))) else .stuck) else .stuck) else (.to (.h1 0 aD)))
 | .h1 v16 aD=>(bif (decide (v16<(l1.length:Int))) then (bif ((decide (0≤v16∧v16<(l1.length:Int)))&&true) then (bif (Nat.beq 1 1&&((decide (0+aD.length=aD.length))&&decide ((aD.length+2+1)*(8+1)≤Jo))) then (.to (.h1 (wrap .i64 (v16+1)) (aD++[(rd l1 v16.toNat).a,(rd l1 v16.toNat).c]))) else .stuck) else .stuck) else (bif (decide (aD.length<4611686018427387904)) then (bif (decide (aD.length=aD.length)) then (.to (.h2 1 ([]:List R4) ([]:List R2) 0 0 (v1y (Yq aD.length (cOf (Zz (Xk (Yq aD.length (cOf (Zz aD)))))))) (Wy (Yq aD.length (cOf (Zz (Xk (Yq aD.length (cOf (Zz aD)))))))))) else .stuck) else .stuck))
 | .h2 v4 aG aR bC bD aE aK=>(bif (decide (v4<((aE:Nat):Int))) then (bif ((decide (0≤(wrap .i64 (v4 - 1))∧(wrap .i64 (v4 - 1))<((aE:Nat):Int)))&&true) then (bif (decide ((0+(Int.toNat (wrap .i64 (v4 - 1))))<aK.length)) then (bif ((decide (0≤v4∧v4<((aE:Nat):Int)))&&true) then (bif (decide ((0+v4.toNat)<aK.length)) then (.to (.h3 v4 0 aG aR bC bD aE aK (rd aK (0+(Int.toNat (wrap .i64 (v4 - 1))))) (rd aK (0+v4.toNat)) ([]:List R2))) else .stuck) else .stuck) else .stuck) else .stuck) else (bif (decide ((aG.length:Int)>400)) then (.ret [.nils,(.int .i64 4)]) else (.ret [(.dat aG.length (Zz aG)),(.int .i64 0)])))
 | .h3 v4 v38 aG aR bC bD aE aK aF aZ aA=>(bif (decide (v38<(l0.length:Int))) then (bif ((decide (0≤v38∧v38<(l0.length:Int)))&&true) then (bif (decide ((rd l0 v38.toNat).a ≤aF)) then (bif (decide (aF<(rd l0 v38.toNat).c)) then (bif (Nat.beq 2 2&&((decide (0+aA.length=aA.length))&&decide ((aA.length+1+1)*(16+1)≤Jo))) then (.to (.h3 v4 (wrap .i64 (v38+1)) aG aR bC bD aE aK aF aZ (aA++[(R2.mk (rd l0 v38.toNat).b (rd l0 v38.toNat).d)]))) else .stuck) else (.to (.h3 v4 (wrap .i64 (v38+1)) aG aR bC bD aE aK aF aZ aA))) else (.to (.h3 v4 (wrap .i64 (v38+1)) aG aR bC bD aE aK aF aZ aA))) else .stuck) else (.to (.h4 v4 0 aG aR bC bD aE aK aF aZ aA ([]:List R2))))
 | .h4 v4 v38 aG aR bC bD aE aK aF aZ aA aH=>(bif (decide (v38<(l1.length:Int))) then (bif ((decide (0≤v38∧v38<(l1.length:Int)))&&true) then (bif (decide ((rd l1 v38.toNat).a ≤aF)) then (bif (decide (aF<(rd l1 v38.toNat).c)) then (bif (Nat.beq 2 2&&((decide (0+aH.length=aH.length))&&decide ((aH.length+1+1)*(16+1)≤Jo))) then (.to (.h4 v4 (wrap .i64 (v38+1)) aG aR bC bD aE aK aF aZ aA (aH++[(R2.mk (rd l1 v38.toNat).b (rd l1 v38.toNat).d)]))) else .stuck) else (.to (.h4 v4 (wrap .i64 (v38+1)) aG aR bC bD aE aK aF aZ aA aH))) else (.to (.h4 v4 (wrap .i64 (v38+1)) aG aR bC bD aE aK aF aZ aA aH))) else .stuck) else (bif ((x2h q) (cvT aA) (cvT aH)) then (bif (((w7r q) (cvT aA) (cvT aH)) != 0) then (.ret [.nils,(.int .i64 ((w7r q) (cvT aA) (cvT aH)))]) else (bif (decide (((((z4w q) (cvT aA) (cvT aH)).length :Nat):Int)>0)) then (bif (bD == aF) then (bif (Uy (cvT aR) (cvT ((z4w q) (cvT aA) (cvT aH)))) then (bif (Qr (cvT aR) (cvT ((z4w q) (cvT aA) (cvT aH)))) then (.to (.h6 aZ bC aF ((z4w q) (cvT aA) (cvT aH)) v4 aG aR bC bD aE aK aA aH)) else (.to (.h5 aF aZ ((z4w q) (cvT aA) (cvT aH)) ((((z4w q) (cvT aA) (cvT aH)).length :Nat):Int) 0 v4 aG (aG.length:Int) aE aK aA aH))) else .stuck) else (.to (.h5 aF aZ ((z4w q) (cvT aA) (cvT aH)) ((((z4w q) (cvT aA) (cvT aH)).length :Nat):Int) 0 v4 aG (aG.length:Int) aE aK aA aH))) else (.to (.h5 aF aZ ((z4w q) (cvT aA) (cvT aH)) ((((z4w q) (cvT aA) (cvT aH)).length :Nat):Int) 0 v4 aG (aG.length:Int) aE aK aA aH)))) else .stuck))
 | .h5 v1 v2 v71 v72 v73 aY aC bE aE aK aF aZ=>(bif (decide (v73<v72)) then (bif ((decide (0≤v73∧v73<(v71.length:Int)))&&true) then (bif (Nat.beq 4 4&&((decide (0+aC.length=aC.length))&&decide ((aC.length+1+1)*(32+1)≤Jo))) then (.to (.h5 v1 v2 v71 v72 (wrap .i64 (v73+1)) aY (aC++[(R4.mk v1 (rd v71 v73.toNat).a v2 (rd v71 v73.toNat).b)]) bE aE aK aF aZ)) else .stuck) else .stuck) else (.to (.h2 (wrap .i64 (aY+1)) aC v71 bE v2 aE aK)))
 | .h6 v2 v8 dA dB aY aC bH bE bT bL bS aA aH=>(bif (decide (v8<(aC.length:Int))) then (bif ((decide (0≤v8∧v8<(aC.length:Int)))&&true) then (bif (decide ((0+v8.toNat)<aC.length)) then (.to (.h6 v2 (wrap .i64 (v8+1)) dA dB aY (aC.set (0+v8.toNat) (R4.mk (rd aC (0+v8.toNat)).a (rd aC (0+v8.toNat)).b v2 (rd aC (0+v8.toNat)).d)) bH bE bT bL bS aA aH)) else .stuck) else .stuck) else (.to (.h2 (wrap .i64 (aY+1)) aC bH bE v2 bL bS)))
def y4p (q:Op) (l0:List R4) (l1:List R4):Xw rgjS:=(bif (z5e (cvT l0)) then (bif ((z8v (cvT l0)) != 0) then (.ret [.nils,(.int .i64 (z8v (cvT l0)))]) else (bif (z5e (cvT l1)) then (bif ((z8v (cvT l1)) != 0) then (.ret [.nils,(.int .i64 (z8v (cvT l1)))]) else (.to (.h0 0 ([]:List Int)))) else .stuck)) else .stuck)
theorem w8z (q:Op) (l0:List R4) (l1:List R4): ∀s,Xv prog (Zy prog (nRg q)) (rgjC q l0 l1) (rgjC q l0 l1 s) (Xz q l0 l1 s):=by cases q <;> refine (?f: ∀q:Op,∀s,Xv prog (Zy prog (nRg q)) (rgjC q l0 l1) (rgjC q l0 l1 s) (Xz q l0 l1 s)) _ <;> exact fun q=>fun
 | .h0 v16 aD=>(lb (fun k0=>(lo fun o0=>(lo fun o1=>(sl Qx 32 [] ⟨[0,1,2,3,4,5,6,10],[],rgjN0,rgjM0⟩ ⟨[],[.keep,.keep,.cells [.len (y1b aD l0 v16).length],.keep,.keep,.keep,.keep,.rowed 1 (y1b aD l0 v16).length (Zz (y1b aD l0 v16))],[]⟩ [true] (pp (xL (aD.length+2) (y1b aD l0 v16).length) (pp (xL (aD.length+2) (y1b aD l0 v16).length) (pp (xS (aD.length+2) (Zr (Zz aD) 0 aD.length 1 [(ii (rd l0 (tn v16)).a),(ii (rd l0 (tn v16)).c)]) (Zz (y1b aD l0 v16))) (pp (pp (xF (Zr (Zz aD) 0 aD.length 1 [(ii (rd l0 (tn v16)).a),(ii (rd l0 (tn v16)).c)])) nn) (ww o1 (ww o0 (tt k0 nn))))))))))) (fun k0=>(sl Qx 36 [] ⟨(List.range 8),[],rgjN1,rgjM1⟩ ⟨[],[],[]⟩ (bl 2 2) (pp (fl aD nn) (tt k0 nn)))))
 | .h1 v16 aD=>(lb (fun k0=>(lo fun o0=>(lo fun o1=>(sl Qx 32 [] ⟨[0,1,2,3,4,5,6,10],[],rgjN1,rgjM1⟩ ⟨[],[.keep,.keep,.cells [.len (y1a aD l1 v16).length],.keep,.keep,.keep,.keep,.rowed 1 (y1a aD l1 v16).length (Zz (y1a aD l1 v16))],[]⟩ [true] (pp (xL (aD.length+2) (y1a aD l1 v16).length) (pp (xL (aD.length+2) (y1a aD l1 v16).length) (pp (xS (aD.length+2) (Zr (Zz aD) 0 aD.length 1 [(ii (rd l1 (tn v16)).a),(ii (rd l1 (tn v16)).c)]) (Zz (y1a aD l1 v16))) (pp (pp (xF (Zr (Zz aD) 0 aD.length 1 [(ii (rd l1 (tn v16)).a),(ii (rd l1 (tn v16)).c)])) nn) (ww o1 (ww o0 (tt k0 nn))))))))))) (fun k0=>(lo fun o0=>(lo fun o1=>(sl Qx 46 [(116,4,Zz ([]:List R4))] ⟨[8,3,4,5,6,2,7,0,1,9],[],j5h,j5i⟩ ⟨[],(kpB 4 [.cells [.grow 9 4,.list 0 (Zz ([]:List R2)),.keep,.keep],.keep,.rowed 1 (x0p aD).length (Zz (x0p aD)),.keep,.keep,.keep]),[]⟩ (bl 2 0) (pp (xL aD.length (x0p aD).length (by first | exact z1d _ _ | exact Vo rfl)) (pp (xS aD.length (Zz (x0p aD)) (Zz (x0p aD))) (pp (fl (x0p aD) (fl ([]:List R4) nn)) (pp (pp (xG (Nat.beq 1 1)) (pp (xG (Nat.beq 1 1)) (pp (xG (Nat.beq 0 0)) (pp (xG (decide (aD.length=aD.length))) (pp (xG (isI (Zz (Xk (Yq aD.length (cOf (Zz aD))))))) (xG (decide (aD.length<4611686018427387904)))))))) (pp (pp (xG (Nat.beq 1 1)) (pp (xG (Nat.beq 1 1)) (pp (xG (Nat.beq 0 0)) (pp (xG (decide (aD.length=aD.length))) (pp (xG (isI (Zz aD))) (xG (decide (aD.length<4611686018427387904)))))))) (tt k0 nn)))))))))))
 | .h2 v4 aG aR bC bD aE aK=>(lb (fun k0=>(lo fun o0=>(lo fun o1=>(lo fun o2=>(lo fun o3=>(sl Qx 48 [(176,2,Zz ([]:List R2))] ⟨[0,1,2,3,4,5,6,7,8,10,11,12,9],[],u2r,u2u⟩ ⟨[],(kpB 10 [.cells [.grow 11 2,.keep],.keep,.keep]),[]⟩ (trs 3 []) (pp (fl aK (fl ([]:List R2) (fl aG nn))) (ww o3 (ww o2 (ww o1 (ww o0 (tt k0 nn)))))))))))) (fun k0=>(lb (fun k1=>(lr 11 3 [1,1,1,1,0] 1 16 [(4,.nils),(5,(ii 4))] (sl Qx 49 [] ⟨[],[],[some [4,5]],[]⟩ ⟨[],[],[]⟩ (bl 2 2) (tt k1 (tt k0 nn))))) (fun k1=>(lr 11 3 [1,1,1,1,0] 1 16 [(4,(.dat aG.length (Zz aG))),(5,(ii 0))] (sl Qx 54 [] ⟨[],[9],[some [4,5]],[]⟩ ⟨[(4,.frz aG.length aG.length (Zz aG) (Zz aG))],[],[]⟩ (bl 2 0) (pp (xZ (z4o 4 4 0 aG.length aG.length (Zz aG)) aG.length (Zz aG)) (pp (xL aG.length aG.length) (pp (xS aG.length (Zz aG) (Zz aG)) (pp (fl aG nn) (tt k1 (tt k0 nn))))))))))))
 | .h3 v4 v38 aG aR bC bD aE aK aF aZ aA=>(lb (fun k0=>(lo fun aI=>(lb (fun k1=>(lb (fun k2=>(lo fun o0=>(sl Qx 39 [] ⟨[0,1,2,3,4,5,6,7,8,9,10,15,12],[],u2r,u2u⟩ ⟨[],(kpB 10 [.cells [.len (x0o aA l0 v38).length,.keep],.rowed 2 (x0o aA l0 v38).length (Zz (x0o aA l0 v38)),.keep]),[]⟩ (trs 7 []) (pp (xL (aA.length+1) (x0o aA l0 v38).length) (pp (xL (aA.length+1) (x0o aA l0 v38).length) (pp (xS (aA.length+1) (Zr (Zz aA) 0 aA.length 2 [(ii (rd l0 (tn v38)).b),(ii (rd l0 (tn v38)).d)]) (Zz (x0o aA l0 v38))) (pp (fl aK (pp (xF (Zr (Zz aA) 0 aA.length 2 [(ii (rd l0 (tn v38)).b),(ii (rd l0 (tn v38)).d)])) (fl aG nn))) (ww o0 (tt k2 (tt k1 (ww aI (tt k0 nn)))))))))))) (fun k2=>(sl Qx 39 [] ⟨(List.range 13),[],u2r,u2u⟩ ⟨[],[],[]⟩ (trs 6 [false]) (pp (fl aK (fl aA (fl aG nn))) (tt k2 (tt k1 (ww aI (tt k0 nn))))))))) (fun k1=>(sl Qx 39 [] ⟨(List.range 13),[],u2r,u2u⟩ ⟨[],[],[]⟩ (bl 7 1) (pp (fl aK (fl aA (fl aG nn))) (tt k1 (ww aI (tt k0 nn))))))))) (fun k0=>(sl Qx 38 [(176,2,Zz ([]:List R2))] ⟨[0,1,2,3,4,5,6,7,8,9,10,11,13,12],[],u2q,u2t⟩ ⟨[],(kpB 10 [.cells [.keep,.grow 12 2],.keep,.keep,.keep]),[]⟩ (bl 2 2) (pp (fl aK (fl aA (fl ([]:List R2) (fl aG nn)))) (tt k0 nn)))))
 | .h4 v4 v38 aG aR bC bD aE aK aF aZ aA aH=>(lb (fun k0=>(lo fun aI=>(lb (fun k1=>(lb (fun k2=>(lo fun o0=>(sl Qx 39 [] ⟨[0,1,2,3,4,5,6,7,8,9,10,11,16,13],[],u2q,u2t⟩ ⟨[],(kpB 10 [.cells [.keep,.len (x0n aH l1 v38).length],.keep,.rowed 2 (x0n aH l1 v38).length (Zz (x0n aH l1 v38)),.keep]),[]⟩ (trs 7 []) (pp (xL (aH.length+1) (x0n aH l1 v38).length) (pp (xL (aH.length+1) (x0n aH l1 v38).length) (pp (xS (aH.length+1) (Zr (Zz aH) 0 aH.length 2 [(ii (rd l1 (tn v38)).b),(ii (rd l1 (tn v38)).d)]) (Zz (x0n aH l1 v38))) (pp (fl aK (fl aA (pp (xF (Zr (Zz aH) 0 aH.length 2 [(ii (rd l1 (tn v38)).b),(ii (rd l1 (tn v38)).d)])) (fl aG nn)))) (ww o0 (tt k2 (tt k1 (ww aI (tt k0 nn)))))))))))) (fun k2=>(sl Qx 39 [] ⟨(List.range 14),[],u2q,u2t⟩ ⟨[],[],[]⟩ (trs 6 [false]) (pp (fl aK (fl aA (fl aH (fl aG nn)))) (tt k2 (tt k1 (ww aI (tt k0 nn))))))))) (fun k1=>(sl Qx 39 [] ⟨(List.range 14),[],u2q,u2t⟩ ⟨[],[],[]⟩ (bl 7 1) (pp (fl aK (fl aA (fl aH (fl aG nn)))) (tt k1 (ww aI (tt k0 nn))))))))) (fun k0=>(Xd (sl Qx (C':=⟨⟨49,0,true⟩,none,(Zg prog 84 [1,1,1,0,1,0,1,0,0] 0),(some 0),[],⟨Yk [(5,(.ptr 1 0)),(6,(.ptr 2 0)),(7,(.ptr 3 0)),(9,(.ptr 4 0)),(10,(.ptr 6 0))],z5j [(1,⟨[(.fn (nSp q) [])],123,none⟩),(2,⟨[.nils],81,none⟩),(3,⟨[(ii 0)],24,none⟩),(4,⟨[(.sla 5 4 0 aG.length (.un 4)),(.dat aR.length (Zz aR)),(ii bC),(ii bD)],157,none⟩),(5,⟨Ym aG.length (Zz aG),116,some ⟨4,aG.length,(Zz aG)⟩⟩),(6,⟨[(ii aF),(ii aZ),(.sl 7 0 2 (.ex 2))],162,none⟩),(7,⟨[(.dat aA.length (Zz aA)),(.dat aH.length (Zz aH))],155,none⟩),(8,⟨[(.sla 9 1 0 aE (.un 1))],125,none⟩),(9,⟨Ym aK.length (Zz aK),3,some ⟨1,aK.length,(Zz aK)⟩⟩),(10,⟨[(.sl 11 0 2 (.un 1))],197,none⟩),(11,⟨[(.dat l0.length (Zz l0)),(.dat l1.length (Zz l1))],81,none⟩)],12,[],true⟩,[⟨⟨76,0,true⟩,(Wr prog 158 [1,0,0,1,0,0,1,1,0] 2),(Zg prog 158 [1,0,0,1,0,0,1,1,0] 1),none,[],Yk [(0,(.yld 0)),(1,(.ptr 8 0)),(2,(.ptr 10 0)),(4,(ii v4)),(72,(.yld 0)),(73,(.agg [(ii aF),(ii aZ),(.sl 7 0 2 (.ex 2))]))]⟩,⟨⟨49,0,true⟩,none,(.inRangeFunc 0::(Zg prog 84 [1,1,1,0,1,0] 1)),none,(Zy prog 84),Yk [(6,(.ptr 2 0)),(7,(.ptr 3 0)),(9,(.ptr 4 0))]⟩,⟨⟨11,0,true⟩,(Wr prog (nRg q) [1,0] 2),(Zg prog (nRg q) [1,0] 1),none,(Zy prog 16),Yk [(6,(.dat l0.length (Zz l0))),(7,(.dat l1.length (Zz l1)))]⟩],(z9k [(0,⟨.busy,none,49,Yk [(5,(.ptr 1 0)),(6,(.ptr 2 0)),(7,(.ptr 3 0)),(9,(.ptr 4 0))],[23],(Wq prog 84 [1,1,1,0,1,0,0]),(Wq prog 84 [1,1,1,0,1,0,1])⟩)])⟩) 32 [] ⟨[0,1,2,3,4,13,14,10,5,6,7,8],[11,12],[some [5,6,7,9,10],some [0,1,2,4,72,73],some [6,7,9],some [6,7]],[some [5,6,7,9],none,none,none,none,none,none,none,none,none,none,none]⟩ ⟨[],[.keep,.keep,.keep,.keep,.keep,.keep,.keep,.cells [.frz aA.length aA.length (Zz aA) (Zz aA),.frz aH.length aH.length (Zz aH) (Zz aH)],.keep,.keep,.keep,.keep],[]⟩ (bl 2 0) (pp (xZ (z4o 2 2 0 aA.length aA.length (Zz aA)) aA.length (Zz aA)) (pp (xL aA.length aA.length) (pp (xS aA.length (Zz aA) (Zz aA)) (pp (xZ (z4o 2 2 0 aH.length aH.length (Zz aH)) aH.length (Zz aH)) (pp (xL aH.length aH.length) (pp (xS aH.length (Zz aH) (Zz aH)) (pp (fl aG (fl aK nn)) (pp (fl aA (fl aH nn)) (tt k0 nn)))))))))) (lo fun aI=>(lb (fun k1=>(lr 11 3 [1,1,1,1,0] 1 16 [(4,.nils),(5,(ii ((w7r q) (cvT aA) (cvT aH))))] (sl Qx 26 [] ⟨[],[],[some [4,5]],[]⟩ ⟨[],[],[]⟩ (bl 2 3) (tt k1 (pp (pp (xr aA) (pp (xr aH) (xw aI))) nn))))) (fun k1=>(lb (fun k2=>(lb (fun k3=>(lo fun cC=>(lb (fun k4=>(sl Qx 51 [] ⟨[4,5,0,1,2,3,8,9,10,11,7],[],rgjN6,rgjM6⟩ ⟨[],[],[]⟩ (bl 14 16382) (pp (fl aG (fl aK nn)) (tt k4 (pp (pp (xr aR) (pp (xI R2 ((z4w q) (cvT aA) (cvT aH)).length (Zz ((z4w q) (cvT aA) (cvT aH)))) (xw cC))) (tt k3 (tt k2 (tt k1 (pp (pp (xr aA) (pp (xr aH) (xw aI))) nn))))))))) (fun k4=>(sl Qx 71 [] ⟨[4,0,1,2,3,8,9,10,11,7,5],[],u2p,u2s⟩ ⟨[],[],[]⟩ (bl 14 8190) (pp (fl aK (fl aG nn)) (tt k4 (pp (pp (xr aR) (pp (xI R2 ((z4w q) (cvT aA) (cvT aH)).length (Zz ((z4w q) (cvT aA) (cvT aH)))) (xw cC))) (tt k3 (tt k2 (tt k1 (pp (pp (xr aA) (pp (xr aH) (xw aI))) nn)))))))))))) (fun k3=>(sl Qx 71 [] ⟨[4,0,1,2,3,8,9,10,11,7,5],[],u2p,u2s⟩ ⟨[],[],[]⟩ (bl 14 126) (pp (fl aK (fl aG nn)) (tt k3 (tt k2 (tt k1 (pp (pp (xr aA) (pp (xr aH) (xw aI))) nn))))))))) (fun k2=>(sl Qx 71 [] ⟨[4,0,1,2,3,8,9,10,11,7,5],[],u2p,u2s⟩ ⟨[],[],[]⟩ (bl 14 0) (pp (fl aK (fl aG nn)) (tt k2 (tt k1 (pp (pp (xr aA) (pp (xr aH) (xw aI))) nn)))))))))))))
 | .h5 v1 v2 v71 v72 v73 aY aC bE aE aK aF aZ=>(lb (fun k0=>(lo fun o0=>(lo fun o1=>(sl Qx 23 [] ⟨[0,1,2,3,4,5,6,7,8,9,13],[],u2p,u2s⟩ ⟨[],[.cells [.len (y1c aC v1 v71 v73 v2).length,.keep,.keep,.keep],.keep,.keep,.keep,.keep,.keep,.keep,.keep,.keep,.keep,.rowed 4 (y1c aC v1 v71 v73 v2).length (Zz (y1c aC v1 v71 v73 v2))],[]⟩ [true] (pp (xL (aC.length+1) (y1c aC v1 v71 v73 v2).length) (pp (xL (aC.length+1) (y1c aC v1 v71 v73 v2).length) (pp (xS (aC.length+1) (Zr (Zz aC) 0 aC.length 4 [(ii v1),(ii (rd v71 (tn v73)).a),(ii v2),(ii (rd v71 (tn v73)).b)]) (Zz (y1c aC v1 v71 v73 v2))) (pp (fl aK (pp (xF (Zr (Zz aC) 0 aC.length 4 [(ii v1),(ii (rd v71 (tn v73)).a),(ii v2),(ii (rd v71 (tn v73)).b)])) nn)) (ww o1 (ww o0 (tt k0 nn))))))))))) (fun k0=>(sl Qx 22 [] ⟨[1,2,3,4,0,5,6,7,8,10],[],j5h,j5i⟩ ⟨[],[],[]⟩ (bl 2 0) (pp (fl aK (fl aC nn)) (tt k0 nn)))))
 | .h6 v2 v8 dA dB aY aC bH bE bT bL bS aA aH=>(lb (fun k0=>(lo fun o0=>(lo fun o1=>(sl Qx 33 [] ⟨(List.range 11),[],rgjN6,rgjM6⟩ ⟨[],[.cells [.len (x0q aC v8 v2).length,.keep,.keep,.keep],.rowed 4 (x0q aC v8 v2).length (Zz (x0q aC v8 v2)),.keep,.keep,.keep,.keep,.keep,.keep,.keep,.keep,.keep],[]⟩ [true] (pp (xL aC.length (x0q aC v8 v2).length) (pp (xL aC.length (x0q aC v8 v2).length) (pp (xS aC.length (Xm (Zz aC) (0+(tn v8)) 2 [(ii v2)]) (Zz (x0q aC v8 v2))) (pp (pp (xF (Xm (Zz aC) (0+(tn v8)) 2 [(ii v2)])) (fl bS nn)) (ww o1 (ww o0 (tt k0 nn))))))))))) (fun k0=>(sl Qx 36 [] ⟨[2,3,4,5,0,6,7,8,9,1],[],j5h,j5i⟩ ⟨[],[],[]⟩ (bl 2 0) (pp (fl bS (fl aC nn)) (tt k0 nn)))))
theorem w0c (q:Op) (l0:List R4) (l1:List R4):Xv prog (Zy prog (nRg q)) (rgjC q l0 l1) (Za prog (nRg q) [(.dat l0.length (Zz l0)),(.dat l1.length (Zz l1))] true []) (y4p q l0 l1):=by cases q <;> exact (lo fun bP=>(lb (fun k0=>(lr 11 3 [1,1,1,1,0] 1 16 [(4,.nils),(5,(ii (z8v (cvT l0))))] (sl Qx 65 [] ⟨[],[],[some [4,5]],[]⟩ ⟨[],[],[]⟩ [true,true] (tt k0 (tt k0 (pp (pp (xr l0) (xw bP)) nn)))))) (fun k0=>(lo fun aI=>(lb (fun k1=>(lr 11 3 [1,1,1,1,0] 1 16 [(4,.nils),(5,(ii (z8v (cvT l1))))] (sl Qx 67 [] ⟨[],[],[some [4,5]],[]⟩ ⟨[],[],[]⟩ [false,true] (tt k1 (pp (pp (xr l1) (xw aI)) (tt k0 (pp (pp (xr l0) (xw bP)) nn))))))) (fun k1=>(sl Qx 108 [(3,1,Zz ([]:List Int))] ⟨[5,4,6,0,1,2,3,7],[],rgjN0,rgjM0⟩ ⟨[],[.keep,.keep,.cells [.grow 7 1],.keep,.keep,.keep,.keep,.keep],[]⟩ [false,false,true] (pp (fl ([]:List Int) nn) (tt k1 (pp (pp (xr l1) (xw aI)) (tt k0 (pp (pp (xr l0) (xw bP)) nn))))))))))))
theorem u2o (q:Op) (l0:List R4) (l1:List R4) (n:Nat) (vs:List AVal) (h:Zt (Xz q l0 l1) n (y4p q l0 l1)=.ret vs):Uv prog (Zy prog (nRg q)) (Za prog (nRg q) [(.dat l0.length (Zz l0)),(.dat l1.length (Zz l1))] true []) vs:=by have:=Ze (w8z q l0 l1) n _ (w0c q l0 l1);rwa [h] at this
def z7p (E:Int→Int) (cs:List Int):Nat→Nat→Int
 | 0,_=>0
 | k+1,i=>bif E (rd cs i) != 0 then E (rd cs i) else z7p E cs k (i+1)
def eJ (e:Int) (n:Nat):Int:=bif e != 0 then e else y5j n
theorem w4z {α:Type} [Xa α] (L:List α):z8w (eJ 0 L.length) L=Qw L:=(y0c L).symm
theorem y0d {n:Nat} (h:y5j n=0):n≤400:=by
 grind [y5j]
theorem x6q {α:Type} {e:Int} (L:List α) (h:(e != 0)=false):y7s e L=L:=by unfold y7s;rw [h];rfl
def rgS (q:Op) (a b:List R4) (x:Int):List R2:=spJ q.k (D4.inn a x) (D4.inn b x)
def rgA (q:Op) (a b:List R4) (x:Int):Int:=spE q.k (D4.inn a x) (D4.inn b x)
theorem j5k (q:Op) (a b:List R4) (x:Int) (h:(rgA q a b x != 0)=false):(rgS q a b x).length ≤1000:=by
 have h:rgA q a b x=0:=by simpa using h
 unfold rgA spE at h;cases g1:(y6h (D4.inn a x) != 0) with
 | true=>grind
 | false=>
  cases g2:(y6h (D4.inn b x) != 0) with
  | true=>grind
  | false=>rw [g1,g2,Aa,Aa] at h;exact AE (y0d h) (by omega)
section
variable (q:Op) (a b:List R4) (ha:a.length≤400) (hb:b.length≤400)
include ha hb
theorem u9m (i:Nat) (out:List R4) (last:List R2) (first fin x x':Int): ∀(k j:Nat) (acc:List R2),j+k=a.length→acc.length≤j→
  ∃n,∀N,Zt (Xz q a b) (N+n) (.to (.h3 (i:Int) (j:Int) out last first fin ((D4.cuts (a++b)).length) (Wy (Xk (D4.ends (a++b)))) x x' acc))=Zt (Xz q a b) N (.to (.h4 (i:Int) 0 out last first fin ((D4.cuts (a++b)).length) (Wy (Xk (D4.ends (a++b)))) x x' (acc++D4.inn (a.drop j) x) []))
 | 0,j,acc,h,h'=>by
  have _u:=ha;have _v:=hb;refine ⟨1,fun N=> ?_⟩;rw [As (by omega),show D4.inn ([]:List R4) x=[] from rfl,AC,Zw]
  grind [Xz]
 | k+1,j,acc,h,h'=>by
  have hj:j<a.length:=by omega
  obtain ⟨n,hn⟩:=u9m i out last first fin x x' k (j+1) (acc++D4.inn [rd a j] x) (by omega) (by have:=D4.inn_length [rd a j] x;grind)
  refine ⟨n+1,fun N=> ?_⟩;have e:D4.inn (a.drop j) x=D4.inn [rd a j] x++D4.inn (a.drop (j+1)) x:=by rw [Yg hj,←D4.inn_append];rfl
  rw [e,←AD,Zw,←AK,←hn N];by_cases h1:D4.lo (rd a j)≤x
  ·by_cases h2:x<D4.hi (rd a j)
   ·rw [D4.inn_t _ _ h1 h2];simp only [D4] at h1 h2 ⊢;simp (disch:=omega) only [Xz,Wz,Zc,Zq,Zs,Zo,Yc,Yv,Yj,Zf,Zk,Zx,Yb,Zj,Af,Ao,Ah,Ai,Ab,Aa]
   ·rw [D4.inn_f2 _ _ h2,AC];simp only [D4] at h1 h2;simp (disch:=omega) only [Xz,Wz,Ye,Zc,Zq,Zs,Zo,Yc,Yv,Yj,Zf,Zk,Zx,Yb,Zj,Af,Ao,Ah,Ai,Ab,Aa]
  ·rw [D4.inn_f1 _ _ h1,AC];simp only [D4] at h1;simp (disch:=omega) only [Xz,w2s,Zc,Zq,Zs,Zo,Yc,Yv,Yj,Zf,Zk,Zx,Yb,Zj,Af,Ao,Ah,Ai,Ab,Aa]
theorem u9l (i:Nat) (out:List R4) (last:List R2) (first fin x x':Int) (o1:List R2): ∀(k j:Nat) (acc:List R2),j+k=b.length→acc.length≤j→
  ∃n,∀N,Zt (Xz q a b) (N+n) (.to (.h4 (i:Int) (j:Int) out last first fin ((D4.cuts (a++b)).length) (Wy (Xk (D4.ends (a++b)))) x x' o1 acc))=Zt (Xz q a b) N (.to (.h4 (i:Int) (b.length:Int) out last first fin ((D4.cuts (a++b)).length) (Wy (Xk (D4.ends (a++b)))) x x' o1 (acc++D4.inn (b.drop j) x)))
 | 0,j,acc,h,h'=>by have _u:=ha;have _v:=hb;refine ⟨0,fun N=> ?_⟩;rw [As (by omega),show D4.inn ([]:List R4) x=[] from rfl,AC,Bg,show j=b.length by omega]
 | k+1,j,acc,h,h'=>by
  have hj:j<b.length:=by omega
  obtain ⟨n,hn⟩:=u9l i out last first fin x x' o1 k (j+1) (acc++D4.inn [rd b j] x) (by omega) (by have:=D4.inn_length [rd b j] x;grind)
  refine ⟨n+1,fun N=> ?_⟩;have e:D4.inn (b.drop j) x=D4.inn [rd b j] x++D4.inn (b.drop (j+1)) x:=by rw [Yg hj,←D4.inn_append];rfl
  rw [e,←AD,Zw,←AK,←hn N];by_cases h1:D4.lo (rd b j)≤x
  ·by_cases h2:x<D4.hi (rd b j)
   ·rw [D4.inn_t _ _ h1 h2];simp only [D4] at h1 h2 ⊢;simp (disch:=omega) only [Xz,Wz,Zc,Zq,Zs,Zo,Yc,Yv,Yj,Zf,Zk,Zx,Yb,Zj,Af,Ao,Ah,Ai,Ab,Aa]
   ·rw [D4.inn_f2 _ _ h2,AC];simp only [D4] at h1 h2;simp (disch:=omega) only [Xz,Wz,Ye,Zc,Zq,Zs,Zo,Yc,Yv,Yj,Zf,Zk,Zx,Yb,Zj,Af,Ao,Ah,Ai,Ab,Aa]
  ·rw [D4.inn_f1 _ _ h1,AC];simp only [D4] at h1;simp (disch:=omega) only [Xz,w2s,Zc,Zq,Zs,Zo,Yc,Yv,Yj,Zf,Zk,Zx,Yb,Zj,Af,Ao,Ah,Ai,Ab,Aa]
theorem u9k (i:Nat) (hi:i≤2000) (x x':Int) (s:List R2) (first:Int) (o1 o2:List R2) (hs:s.length≤1000): ∀(k j:Nat) (out:List R4),j+k=s.length→out.length≤10000000+j→
  ∃n,∀N,Zt (Xz q a b) (N+n) (.to (.h5 x x' s (s.length:Int) (j:Int) (i:Int) out first ((D4.cuts (a++b)).length) (Wy (Xk (D4.ends (a++b)))) o1 o2))=Zt (Xz q a b) N (.to (.h2 ((i+1:Nat):Int) (out++(s.drop j).map (D4.put x x')) s first x' ((D4.cuts (a++b)).length) (Wy (Xk (D4.ends (a++b))))))
 | 0,j,out,h,ho=>by
  have _u:=ha;have _v:=hb;refine ⟨1,fun N=> ?_⟩
  grind [Zw,Xz,Zk]
 | k+1,j,out,h,ho=>by
  obtain ⟨n,hn⟩:=u9k i hi x x' s first o1 o2 hs k (j+1) (out++[D4.put x x' (rd s j)]) (by omega) (by simp;omega)
  refine ⟨n+1,fun N=> ?_⟩;have:=hn N;rw [Yg (show j<s.length by omega),AU,←AD,Zw];simp (disch:=omega) only [Xz,Zc,Zq,Zs,Zo,Yc,Yv,Yj,Zf,Zk,Zx,Yb,Zj,Af,Ao,Ah,Ai,Ab,Aa];rw [AK] at this;exact this
theorem u9j (i:Nat) (hi:i≤2000) (x x' fin:Int) (s last:List R2) (first:Int) (o1 o2:List R2): ∀(k j:Nat) (out:List R4),j+k=out.length→out.length≤10000000→
  ∃n,∀N,Zt (Xz q a b) (N+n) (.to (.h6 x' (j:Int) x s (i:Int) out last first fin ((D4.cuts (a++b)).length) (Wy (Xk (D4.ends (a++b)))) o1 o2))=Zt (Xz q a b) N (.to (.h2 ((i+1:Nat):Int) (D4.grow out j x') last first x' ((D4.cuts (a++b)).length) (Wy (Xk (D4.ends (a++b))))))
 | 0,j,out,h,ho=>by
  have _u:=ha;have _v:=hb;refine ⟨1,fun N=> ?_⟩;rw [D4.grow_nil _ _ _ (by omega),Zw]
  grind [Xz,Zk]
 | k+1,j,out,h,ho=>by
  obtain ⟨n,hn⟩:=u9j i hi x x' fin s last first o1 o2 k (j+1) (out.set j (D4.ext x' (rd out j))) (by simp;omega) (by grind)
  refine ⟨n+1,fun N=> ?_⟩;have:=hn N;rw [D4.grow_set out j _ (by omega)] at this;rw [←AD,Zw];simp (disch:=omega) only [Xz,Zc,Zq,Zs,Zo,Yc,Yv,Yj,Zf,Zk,Zx,Yb,Zj,Af,Ao,Ah,Ai,Ab,Aa];exact this
theorem v4y : ∀(k i:Nat) (s:Sw R4 R2),k=(D4.cuts (a++b)).length - 1 - i→i≤(D4.cuts (a++b)).length →s.out.length≤i*1000→s.last.length≤1000→s.first≤s.out.length→
  ∃n,Zt (Xz q a b) n (.to (.h2 ((i+1:Nat):Int) s.out s.last (s.first:Int) s.fin ((D4.cuts (a++b)).length) (Wy (Xk (D4.ends (a++b))))))=.ret (z8w (eJ (z7p (rgA q a b) (D4.cuts (a++b)) k i) (D4.goS (rgS q a b) (D4.cuts (a++b)) k i s).out.length) (D4.goS (rgS q a b) (D4.cuts (a++b)) k i s).out)
 | 0,i,s,h,hi,ho,hla,hf=>by
  have _u:=ha;have _v:=hb;have hc:=D4.cuts_length (a++b);refine ⟨1,?_⟩;rw [Zw,show D4.goS (rgS q a b) (D4.cuts (a++b)) 0 i s=s from rfl,show z7p (rgA q a b) (D4.cuts (a++b)) 0 i=0 from rfl,w4z]
  grind [Qw,Xz,Zp]
 | k +1,i,s,h,hi,ho,hla,hf=>by
  have hc:=D4.cuts_length (a++b);rw [AP] at hc;have hi1:i+1<(D4.cuts (a++b)).length :=by omega
  have hpl:(Wy (Xk (D4.ends (a++b)))).length =2*(a.length+b.length):=by rw [Uw,Vg,D4.ends_length,AP]
  have r0:rd (Wy (Xk (D4.ends (a++b)))) i=rd (D4.cuts (a++b)) i:=z4n _ _ (by show i<(D4.cuts (a++b)).length;omega);have r1:rd (Wy (Xk (D4.ends (a++b)))) (i+1)=rd (D4.cuts (a++b)) (i+1):=z4n _ _ (by show i+1<(D4.cuts (a++b)).length;omega);have hbig:i*1000≤2000*1000:=AA _ (by omega);have hgo:D4.goS (rgS q a b) (D4.cuts (a++b)) (k+1) i s=D4.goS (rgS q a b) (D4.cuts (a++b)) k (i+1) (D4.oneS (rgS q a b (rd (D4.cuts (a++b)) i)) (rd (D4.cuts (a++b)) i) (rd (D4.cuts (a++b)) (i+1)) s):=rfl;have hfe: ∀x,x=rd (D4.cuts (a++b)) i→(rgA q a b x != 0)=false→z7p (rgA q a b) (D4.cuts (a++b)) (k+1) i=z7p (rgA q a b) (D4.cuts (a++b)) k (i+1):=fun x hx z=>by
   show (bif rgA q a b (rd (D4.cuts (a++b)) i) != 0 then _ else _)=_
   grind
  revert hgo hfe r0;generalize hx:rd (D4.cuts (a++b)) i=x;generalize hx':rd (D4.cuts (a++b)) (i+1)=x' at r1;intro r0 hgo hfe;obtain ⟨n3,h3⟩:=u9m q a b ha hb (i+1) s.out s.last (s.first:Int) s.fin x x' a.length 0 [] (Af _) (Aq _);simp only [AS,A9,z4a] at h3;obtain ⟨n4,h4⟩:=u9l q a b ha hb (i+1) s.out s.last (s.first:Int) s.fin x x' (D4.inn a x) b.length 0 [] (Af _) (Aq _);simp only [AS,A9,z4a] at h4;have st0: ∀N,Zt (Xz q a b) (N+n4+n3+1) (.to (.h2 ((i+1:Nat):Int) s.out s.last (s.first:Int) s.fin ((D4.cuts (a++b)).length) (Wy (Xk (D4.ends (a++b))))))=Zt (Xz q a b) N (.to (.h4 ((i+1:Nat):Int) (b.length:Int) s.out s.last (s.first:Int) s.fin ((D4.cuts (a++b)).length) (Wy (Xk (D4.ends (a++b)))) x x' (D4.inn a x) (D4.inn b x))):=fun N=>by
   rw [←h4 N,←h3 (N+n4),Zw];have e1:wrap .i64 (((i+1:Nat):Int) - 1)=(i:Int):=by rw [Yz];exact Zk (by omega)
   simp (disch:=omega) only [Xz,e1,r0,r1,Zc,Zq,Zs,Zo,Yc,Yv,Yj,Zf,Zk,Zx,Yb,Zj,Af,Ao,Ah,Ai,Ab,Aa]
  have w1:x2h q (D4.inn a x) (D4.inn b x)=true:=rfl;have f1:z1e (Zz (D4.inn a x))=true:=Xf _;have f2:z1e (Zz (D4.inn b x))=true:=Xf _;rcases Yw (rgA q a b x != 0) with z | z
  ·have z':(w7r q (D4.inn a x) (D4.inn b x) != 0)=true:=z;refine ⟨1+n4+n3+1,?_⟩;rw [st0 1,Zw];have e:z7p (rgA q a b) (D4.cuts (a++b)) (k+1) i=rgA q a b x:=by show (bif rgA q a b (rd (D4.cuts (a++b)) i) != 0 then rgA q a b (rd (D4.cuts (a++b)) i) else _)=_;grind
   simp (disch:=omega) only [Xz,Ye,z',w1,f1,f2,Zc,Zq,Zs,Zo,Yc,Yv,Yj,Zf,Zk,Zx,Yb,Zj,Af,Ao,Ah,Ai,Ab,Aa,Zp];rw [e,show eJ (rgA q a b x) _=rgA q a b x by unfold eJ;rw [z];rfl,Vn _ z];rfl
  have z':(w7r q (D4.inn a x) (D4.inn b x) != 0)=false:=z;have v:z4w q (D4.inn a x) (D4.inn b x)=rgS q a b x:=x6q _ z;have hsl:=j5k q a b x z;have w2:Uy s.last (rgS q a b x)=true:=An (by omega);rw [hgo,hfe x rfl z];have ol:(D4.oneS (rgS q a b x) x x' s).out.length ≤s.out.length+(rgS q a b x).length :=by
   grind [Dim.oneS,Dim.grow_length]
  rcases Yw (decide (0<(rgS q a b x).length)&&((s.fin == x)&&D4.same s.last (rgS q a b x))) with g | g
  ·obtain ⟨n6,h6⟩:=u9j q a b ha hb (i+1) (by omega) x x' s.fin (rgS q a b x) s.last (s.first:Int) (D4.inn a x) (D4.inn b x) (s.out.length - s.first) s.first s.out (by omega) (by omega)
   have e:D4.oneS (rgS q a b x) x x' s=⟨D4.grow s.out s.first x',s.last,s.first,x'⟩:=by unfold Dim.oneS;rw [g];rfl
   obtain ⟨n0,h0⟩:=v4y k (i+1) (D4.oneS (rgS q a b x) x x' s) (by omega) (by omega) (by omega) (by grind) (by grind [Dim.grow_length]);refine ⟨n0+n6+1+n4+n3+1,?_⟩;rw [st0 (n0+n6+1),Zw];simp only [Ae,At] at g;obtain ⟨g1,g2,g3⟩:=g;have g3':Qr s.last (rgS q a b x)=true:=g3;simp (disch:=omega) only [Xz,Ye,Ys,z',v,g2,g3',w1,f1,f2,w2,Zc,Zq,Zs,Zo,Yc,Yv,Yj,Zf,Zk,Zx,Yb,Zj,Af,Ao,Ah,Ai,Ab,Aa]
   grind
  ·obtain ⟨n5,h5⟩:=u9k q a b ha hb (i+1) (by omega) x x' (rgS q a b x) (s.out.length:Int) (D4.inn a x) (D4.inn b x) hsl (rgS q a b x).length 0 s.out (Af _) (by omega);simp only [AS,z4a] at h5;have e:D4.oneS (rgS q a b x) x x' s=⟨s.out++(rgS q a b x).map (D4.put x x'),rgS q a b x,s.out.length,x'⟩:=by unfold Dim.oneS;rw [g];rfl
   obtain ⟨n0,h0⟩:=v4y k (i+1) (D4.oneS (rgS q a b x) x x' s) (by omega) (by omega) (by omega) (by grind) (by rw [e];simp);have hg:Zt (Xz q a b) 1 (.to (.h4 ((i+1:Nat):Int) (b.length:Int) s.out s.last (s.first:Int) s.fin ((D4.cuts (a++b)).length) (Wy (Xk (D4.ends (a++b)))) x x' (D4.inn a x) (D4.inn b x)))=.to (.h5 x x' (rgS q a b x) ((rgS q a b x).length :Int) 0 ((i+1:Nat):Int) s.out (s.out.length:Int) ((D4.cuts (a++b)).length) (Wy (Xk (D4.ends (a++b)))) (D4.inn a x) (D4.inn b x)):=by
    rw [show (1:Nat)=0+1 from rfl,Zw];have e3:D4.same s.last (rgS q a b x)=Qr s.last (rgS q a b x):=rfl;rw [e3] at g;by_cases g1:0<(rgS q a b x).length
    ·rw [An g1,Ai] at g;rcases Yw (s.fin == x) with g2 | g2
     ·rw [g2,Ai] at g;simp (disch:=omega) only [Xz,Ye,Ys,z',v,g2,g,w1,f1,f2,w2,Zc,Zq,Zs,Zo,Yc,Yv,Yj,Zf,Zk,Zx,Yb,Zj,Af,Ao,Ah,Ai,Ab,Aa];rfl
     ·simp (disch:=omega) only [Xz,Ye,Ys,z',v,g2,w1,f1,f2,w2,Zc,Zq,Zs,Zo,Yc,Yv,Yj,Zf,Zk,Zx,Yb,Zj,Af,Ao,Ah,Ai,Ab,Aa];rfl
    ·simp (disch:=omega) only [Xz,Ye,Xt,z',v,w1,f1,f2,w2,Zc,Zq,Zs,Zo,Yc,Yv,Yj,Zf,Zk,Zx,Yb,Zj,Af,Ao,Ah,Ai,Ab,Aa];rfl
   refine ⟨n0+n5+1+n4+n3+1,?_⟩;simp_all [z5n]
theorem u9n : ∀(k i:Nat) (acc:List Int),i+k=b.length→acc=D4.ends (a++b.take i)→ ∃n,Zt (Xz q a b) n (.to (.h1 (i:Int) acc))=.ret (z8w (eJ (z7p (rgA q a b) (D4.cuts (a++b)) ((D4.cuts (a++b)).length - 1) 0) (D4.goS (rgS q a b) (D4.cuts (a++b)) ((D4.cuts (a++b)).length - 1) 0 ⟨[],[],0,0⟩).out.length) (D4.goS (rgS q a b) (D4.cuts (a++b)) ((D4.cuts (a++b)).length - 1) 0 ⟨[],[],0,0⟩).out)
 | 0,i,acc,h,h'=>by
  have _u:=ha;have _v:=hb;have e:acc=D4.ends (a++b):=by grind
  subst e;have hle:=D4.ends_length (a++b);rw [AP] at hle;obtain ⟨n,hn⟩:=v4y q a b ha hb ((D4.cuts (a++b)).length - 1) 0 ⟨[],[],0,0⟩ (by omega) (Ay _) (Ay _) (Ay _) (Ay _);refine ⟨n+1,?_⟩;rw [Zw];simp (disch:=omega) only [Xz,Jq,Qq,z7w,Ye,Yv,Yj,Ao,Ab,Aa];exact hn
 | k+1,i,acc,h,h'=>by
  have hle:acc.length≤2*(400+i):=by rw [h',D4.ends_length];grind
  obtain ⟨n,hn⟩:=u9n k (i+1) (acc++D4.ends [rd b i]) (by omega) (by
   rw [h',AX]
   grind [Yr,Dim.ends])
  refine ⟨n+1,?_⟩;rw [Zw];simp (disch:=omega) only [Xz,Zc,Zq,Zs,Zo,Yc,Yv,Yj,Zf,Zk,Zx,Yb,Zj,Af,Ao,Ah,Ai,Ab,Aa];exact hn
theorem u9o : ∀(k i:Nat) (acc:List Int),i+k=a.length→acc=D4.ends (a.take i)→ ∃n,Zt (Xz q a b) n (.to (.h0 (i:Int) acc))=.ret (z8w (eJ (z7p (rgA q a b) (D4.cuts (a++b)) ((D4.cuts (a++b)).length - 1) 0) (D4.goS (rgS q a b) (D4.cuts (a++b)) ((D4.cuts (a++b)).length - 1) 0 ⟨[],[],0,0⟩).out.length) (D4.goS (rgS q a b) (D4.cuts (a++b)) ((D4.cuts (a++b)).length - 1) 0 ⟨[],[],0,0⟩).out)
 | 0,i,acc,h,h'=>by
  have _u:=ha;have _v:=hb;obtain ⟨n,hn⟩:=u9n q a b ha hb b.length 0 acc (Af _) (by grind);refine ⟨n+1,?_⟩
  grind [Zw,Xz]
 | k+1,i,acc,h,h'=>by
  have hle:acc.length≤2*(400+i):=by rw [h',D4.ends_length];grind
  obtain ⟨n,hn⟩:=u9o k (i+1) (acc++D4.ends [rd a i]) (by omega) (by
   rw [h',AX]
   grind [Yr,Dim.ends])
  refine ⟨n+1,?_⟩;rw [Zw];simp (disch:=omega) only [Xz,Zc,Zq,Zs,Zo,Yc,Yv,Yj,Zf,Zk,Zx,Yb,Zj,Af,Ao,Ah,Ai,Ab,Aa];exact hn
end
def rgE (q:Op) (a b:List R4):Int:=bif z8v a != 0 then z8v a else bif z8v b != 0 then z8v b else eJ (z7p (rgA q a b) (D4.cuts (a++b)) ((D4.cuts (a++b)).length - 1) 0) (rgJ q.k a b).length
def Wg (q:Op) (a b:List R4):List R4:=y7s (rgE q a b) (rgJ q.k a b)
def Ko (q:Op) (a b:List R4):Int:=rgE q a b
def Kw (q:Op) (a b:List R4):Bool:=true
theorem w4x {l:List R4} (h:(z8v l != 0)=false):l.length≤400:=by
 grind [z8v]
theorem rg_run (q:Op) (a b:List R4) (h:Kw q a b=true): ∃n,Zt (Xz q a b) n (y4p q a b)=.ret (z8w (rgE q a b) (rgJ q.k a b)):=by
 unfold y4p;have o: ∀l,z5e l=true:=fun _=>rfl;simp only [Zc,o,Ab];rcases Yw (z8v a != 0) with q1 | q1
 ·exact ⟨0,by simp only [rgE,q1,Ab,Vn _ q1];rfl⟩
 rcases Yw (z8v b != 0) with q2 | q2
 ·exact ⟨0,by simp only [rgE,q1,q2,Ab,Aa,Vn _ q2];rfl⟩
 obtain ⟨n,hn⟩:=u9o q a b (w4x q1) (w4x q2) a.length 0 [] (Af _) rfl;refine ⟨n,?_⟩;simp only [rgE,q1,q2,Aa];exact hn
def fRg (q:Op):List AVal→Option (AVal×Bool)
 | [a0,a1]=>match asL R4 a0,asL R4 a1 with
  | some (L0,g0,n0),some (L1,g1,n1)=>some (.tup [.dat (Wg q L0 L1).length (Zz (Wg q L0 L1)),.int .i64 (Ko q L0 L1)],isT R4 n0 g0&&(isT R4 n1 g1&&(Kw q L0 L1)))
  | _,_=>none
 | _=>none
theorem v8a (q:Op) {S:Specs} (hS:Zu prog S):Zu prog (S.with (nRg q) (fRg q)):=by
 refine w6l hS (by cases q <;> kernel_rfl) fun args v h=> ?_;unfold fRg at h;split at h
 ·rename_i a0 a1;split at h
  ·rename_i L0 g0 n0 L1 g1 n1 e0 e1;simp only [Ad,Ac,Ae] at h;obtain ⟨rfl,ho0,ho1,hw⟩:=h;obtain ⟨N,hN⟩:=rg_run q L0 L1 hw;exact ⟨_,_,(.cons (Yh e0 ho0) (.cons (Yh e1 ho1) .nil)),z0n _ _,u2o q L0 L1 N _ hN,3,z5f _ _⟩
  ·cases h
 ·cases h
def Ud :Specs:=((Uc.with (nRg .u) (fRg .u)).with (nRg .e) (fRg .e)).with (nRg .d) (fRg .d)
theorem Kp :Zu prog Ud:=v8a .d (v8a .e (v8a .u Qx))
inductive sljS where
 | h0 (v16:Int) (aD:List Int)
 | h1 (v16:Int) (aD:List Int)
 | h2 (v4:Int) (aG:List R6) (aR:List R4) (bC:Int) (bD:Int) (aE:Nat) (aK:List Int)
 | h3 (v4:Int) (v38:Int) (aG:List R6) (aR:List R4) (bC:Int) (bD:Int) (aE:Nat) (aK:List Int) (aF:Int) (aZ:Int) (aA:List R4)
 | h4 (v4:Int) (v38:Int) (aG:List R6) (aR:List R4) (bC:Int) (bD:Int) (aE:Nat) (aK:List Int) (aF:Int) (aZ:Int) (aA:List R4) (aH:List R4)
 | h5 (v1:Int) (v2:Int) (v72:List R4) (v73:Int) (v74:Int) (aY:Int) (aC:List R6) (bE:Int) (aE:Nat) (aK:List Int) (aF:List R4) (aZ:List R4)
 | h6 (v2:Int) (v8:Int) (bZ:Int) (bN:List R4) (aY:Int) (aC:List R6) (bH:List R4) (bE:Int) (bT:Int) (bL:Nat) (bS:List Int) (aA:List R4) (aH:List R4)
def y6f (q:Op) (l0:List R6) (l1:List R6):AFr:=⟨⟨12,0,true⟩,(Wr prog (nSl q) [1,0] 3),(Zg prog (nSl q) [1,0] 1),none,(Zy prog 16),Yk [(6,(.dat l0.length (Zz l0))),(7,(.dat l1.length (Zz l1))),(8,(.agg [(.fn (nRg q) [])]))]⟩
abbrev y9w (aC:List R6) (v8:Int) (v2:Int):=(aC.set (0+(tn v8)) (R6.mk (rd aC (0+(tn v8))).a (rd aC (0+(tn v8))).b (rd aC (0+(tn v8))).c (rd aC (0+(tn v8))).d (rd aC (0+(tn v8))).e v2))
def w4j (q:Op):AFr:=⟨⟨27,0,true⟩,(Wr prog 66 [1,1,1,0] 4),(Zg prog 66 [1,1,1,0] 1),none,(Zy prog 10),Yk [(20,(.agg [(.fn (nRg q) [])])),(23,(.sl 8 0 2 (.un 1)))]⟩
def v3n :=(z9k [(0,⟨.ready,none,65,Yk [(2,(.ptr 1 0)),(4,(.ptr 2 0)),(5,(.ptr 3 0)),(6,(.ptr 4 0))],[15],(Wq prog 93 [1,1,0,1,0,0]),(Wq prog 93 [1,1,0,1,0,1])⟩)])
abbrev y9v (aD:List Int):=(Wy (Yq aD.length (cOf (Zz (Xk (Yq aD.length (cOf (Zz aD))))))))
def v3m :AFr:=⟨⟨65,0,true⟩,none,(.inRangeFunc 0::(Zg prog 93 [1,1,0,1,0] 1)),none,(Zy prog 93),Yk [(4,(.ptr 2 0)),(5,(.ptr 3 0)),(6,(.ptr 4 0))]⟩
abbrev y9u (aA:List R4) (l0:List R6) (v38:Int):=(aA++[(R4.mk (rd l0 (tn v38)).a (rd l0 (tn v38)).b (rd l0 (tn v38)).d (rd l0 (tn v38)).e)])
abbrev y9t (aH:List R4) (l1:List R6) (v38:Int):=(aH++[(R4.mk (rd l1 (tn v38)).a (rd l1 (tn v38)).b (rd l1 (tn v38)).d (rd l1 (tn v38)).e)])
abbrev y9s (aC:List R6) (v72:List R4) (v74:Int) (v1:Int) (v2:Int):=(aC++[(R6.mk (rd v72 (tn v74)).a (rd v72 (tn v74)).b v1 (rd v72 (tn v74)).c (rd v72 (tn v74)).d v2)])
def y6e (l0:List R6) (l1:List R6):ABlk:=⟨[(.dat l0.length (Zz l0)),(.dat l1.length (Zz l1))],32,none⟩
def v3q :AFr:=⟨⟨65,0,true⟩,(Wr prog 93 [1,1,0,0] 1),(Zg prog 93 [1,1,0,0] 1),none,(Zy prog 93),Yk [(2,(.ptr 3 0)),(4,(.ptr 4 0)),(5,(.ptr 5 0)),(6,(.ptr 6 0)),(13,(.sl 1 0 2 (.un 1)))]⟩
def v3p (q:Op):AFr:=⟨⟨27,0,true⟩,(Wr prog 66 [1,1,1,0] 4),(Zg prog 66 [1,1,1,0] 1),none,(Zy prog 10),Yk [(20,(.agg [(.fn (nRg q) [])])),(23,(.sl 1 0 2 (.un 1)))]⟩
def z7b (q:Op):ABlk:=⟨[(.fn (nRg q) [])],101,none⟩
abbrev y0v (aD:List Int) (l0:List R6) (v16:Int):=(aD++[(rd l0 (tn v16)).c,(rd l0 (tn v16)).f])
abbrev y0u (aD:List Int) (l1:List R6) (v16:Int):=(aD++[(rd l1 (tn v16)).c,(rd l1 (tn v16)).f])
def x2i :ABlk:=⟨[(.sl 8 0 2 (.un 1))],177,none⟩
def v3o :=(Zg prog 162 [1,0,0,1,0,0,1,0,1,0,0,1,1,0,0,1,1,0,0] 0)
def sljC (q:Op) (l0:List R6) (l1:List R6):sljS→Cfg
 | .h0 v16 aD=>⟨⟨36,0,true⟩,none,(Zg prog 135 [1,1,0,1,0,0,1,1,0,0,1,1,0,0] 0),none,(Zy prog 9),⟨Yk [(1,(.ptr 0 0)),(3,(.ptr 2 0)),(8,(.sl 1 0 2 (.un 1))),(9,(ii 2)),(10,(ii 0)),(14,(.dat l0.length (Zz l0))),(15,(ii (l0.length:Int))),(16,(ii v16))],Vv [⟨[(.sl 1 0 2 (.un 1))],177,none⟩,(y6e l0 l1),⟨[(.sla 7 1 0 aD.length (.un 1))],125,none⟩,(z7b q),⟨[.nils],33,none⟩,⟨[(ii 0)],24,none⟩,⟨[.nils,.nils,(ii 0),(ii 0)],179,none⟩,⟨Ym aD.length (Zz aD),3,some ⟨1,aD.length,(Zz aD)⟩⟩] 0,8,[],true⟩,[v3q,(v3p q),(y6f q l0 l1)],.leaf⟩
 | .h1 v16 aD=>⟨⟨36,0,true⟩,none,(Zg prog 135 [1,1,0,1,0,0,1,1,0,0,1,1,0,0] 0),none,(Zy prog 9),⟨Yk [(1,(.ptr 0 0)),(3,(.ptr 2 0)),(8,(.sl 1 0 2 (.un 1))),(9,(ii 2)),(10,(ii 1)),(14,(.dat l1.length (Zz l1))),(15,(ii (l1.length:Int))),(16,(ii v16))],Vv [⟨[(.sl 1 0 2 (.un 1))],177,none⟩,(y6e l0 l1),⟨[(.sla 7 1 0 aD.length (.un 1))],125,none⟩,(z7b q),⟨[.nils],33,none⟩,⟨[(ii 0)],24,none⟩,⟨[.nils,.nils,(ii 0),(ii 0)],179,none⟩,⟨Ym aD.length (Zz aD),3,some ⟨1,aD.length,(Zz aD)⟩⟩] 0,8,[],true⟩,[v3q,(v3p q),(y6f q l0 l1)],.leaf⟩
 | .h2 v4 aG aR bC bD aE aK=>⟨⟨86,0,true⟩,none,(Zg prog 162 [1,0,0] 0),none,[],⟨Yk [(0,(.yld 0)),(1,(.ptr 5 0)),(2,(.ptr 7 0)),(4,(ii v4))],z5j [(1,(z7b q)),(2,⟨[.nils],33,none⟩),(3,⟨[(ii 0)],24,none⟩),(4,⟨[(.sla 9 6 0 aG.length (.un 6)),(.dat aR.length (Zz aR)),(ii bC),(ii bD)],179,none⟩),(5,⟨[(.sla 6 1 0 aE (.un 1))],125,none⟩),(6,⟨Ym aK.length (Zz aK),3,some ⟨1,aK.length,(Zz aK)⟩⟩),(7,x2i),(8,(y6e l0 l1)),(9,⟨Ym aG.length (Zz aG),57,some ⟨6,aG.length,(Zz aG)⟩⟩)],10,[],true⟩,[v3m,(w4j q),(y6f q l0 l1)],v3n⟩
 | .h3 v4 v38 aG aR bC bD aE aK aF aZ aA=>⟨⟨86,0,true⟩,none,v3o,none,[],⟨Yk [(0,(.yld 0)),(1,(.ptr 5 0)),(2,(.ptr 7 0)),(4,(ii v4)),(5,(.ptr 9 0)),(6,(ii 0)),(29,(.sl 8 0 2 (.un 1))),(30,(ii 2)),(31,(ii 0)),(36,(.dat l0.length (Zz l0))),(37,(ii (l0.length:Int))),(38,(ii v38))],z5j [(1,(z7b q)),(2,⟨[.nils],33,none⟩),(3,⟨[(ii 0)],24,none⟩),(4,⟨[(.sla 12 6 0 aG.length (.un 6)),(.dat aR.length (Zz aR)),(ii bC),(ii bD)],179,none⟩),(5,⟨[(.sla 6 1 0 aE (.un 1))],125,none⟩),(6,⟨Ym aK.length (Zz aK),3,some ⟨1,aK.length,(Zz aK)⟩⟩),(7,x2i),(8,(y6e l0 l1)),(9,⟨[(ii aF),(ii aZ),(.sl 10 0 2 (.ex 2))],184,none⟩),(10,⟨[(.sla 11 4 0 aA.length (.un 4)),.nils],80,none⟩),(11,⟨Ym aA.length (Zz aA),116,some ⟨4,aA.length,(Zz aA)⟩⟩),(12,⟨Ym aG.length (Zz aG),57,some ⟨6,aG.length,(Zz aG)⟩⟩)],13,[],true⟩,[v3m,(w4j q),(y6f q l0 l1)],v3n⟩
 | .h4 v4 v38 aG aR bC bD aE aK aF aZ aA aH=>⟨⟨86,0,true⟩,none,v3o,none,[],⟨Yk [(0,(.yld 0)),(1,(.ptr 5 0)),(2,(.ptr 7 0)),(4,(ii v4)),(5,(.ptr 9 0)),(6,(ii 1)),(29,(.sl 8 0 2 (.un 1))),(30,(ii 2)),(31,(ii 1)),(36,(.dat l1.length (Zz l1))),(37,(ii (l1.length:Int))),(38,(ii v38))],z5j [(1,(z7b q)),(2,⟨[.nils],33,none⟩),(3,⟨[(ii 0)],24,none⟩),(4,⟨[(.sla 13 6 0 aG.length (.un 6)),(.dat aR.length (Zz aR)),(ii bC),(ii bD)],179,none⟩),(5,⟨[(.sla 6 1 0 aE (.un 1))],125,none⟩),(6,⟨Ym aK.length (Zz aK),3,some ⟨1,aK.length,(Zz aK)⟩⟩),(7,x2i),(8,(y6e l0 l1)),(9,⟨[(ii aF),(ii aZ),(.sl 10 0 2 (.ex 2))],184,none⟩),(10,⟨[(.sla 11 4 0 aA.length (.un 4)),(.sla 12 4 0 aH.length (.un 4))],80,none⟩),(11,⟨Ym aA.length (Zz aA),116,some ⟨4,aA.length,(Zz aA)⟩⟩),(12,⟨Ym aH.length (Zz aH),116,some ⟨4,aH.length,(Zz aH)⟩⟩),(13,⟨Ym aG.length (Zz aG),57,some ⟨6,aG.length,(Zz aG)⟩⟩)],14,[],true⟩,[v3m,(w4j q),(y6f q l0 l1)],v3n⟩
 | .h5 v1 v2 v72 v73 v74 aY aC bE aE aK aF aZ=>⟨⟨101,0,true⟩,none,(Zg prog 136 [1,1,1,0,0] 0),none,[],⟨Yk [(0,(.ptr 0 0)),(1,(ii v1)),(2,(ii v2)),(72,(.dat v72.length (Zz v72))),(73,(ii v73)),(74,(ii v74))],z5j [(0,⟨[(.sla 10 6 0 aC.length (.un 6)),(.dat v72.length (Zz v72)),(ii bE),(ii v2)],179,none⟩),(2,(z7b q)),(3,⟨[.nils],33,none⟩),(4,⟨[(ii 0)],24,none⟩),(5,⟨[(.sla 6 1 0 aE (.un 1))],125,none⟩),(6,⟨Ym aK.length (Zz aK),3,some ⟨1,aK.length,(Zz aK)⟩⟩),(7,x2i),(8,(y6e l0 l1)),(9,⟨[(.dat aF.length (Zz aF)),(.dat aZ.length (Zz aZ))],80,none⟩),(10,⟨Ym aC.length (Zz aC),57,some ⟨6,aC.length,(Zz aC)⟩⟩)],11,[],true⟩,[⟨⟨65,0,true⟩,(Wr prog 93 [1,1,0,1,0,1,0,1,1,1] 5),(Zg prog 93 [1,1,0,1,0,1,0,1,1,1] 1),(some 1),[],Yk [(6,(.ptr 0 0)),(54,(ii v1)),(56,(ii v2)),(57,(.dat v72.length (Zz v72)))]⟩,⟨⟨86,0,true⟩,(Wr prog 162 [1,0,0,1,0,0,1,1,0] 2),(Zg prog 162 [1,0,0,1,0,0,1,1,0] 1),none,[],Yk [(0,(.yld 1)),(1,(.ptr 5 0)),(2,(.ptr 7 0)),(4,(ii aY)),(82,(.yld 1)),(83,(.agg [(ii v1),(ii v2),(.sl 9 0 2 (.ex 2))]))]⟩,⟨⟨65,0,true⟩,none,(.inRangeFunc 1::(Zg prog 93 [1,1,0,1,0] 1)),none,(Zy prog 93),Yk [(4,(.ptr 3 0)),(5,(.ptr 4 0)),(6,(.ptr 0 0))]⟩,(w4j q),(y6f q l0 l1)],(z9k [(1,⟨.busy,none,65,Yk [(2,(.ptr 2 0)),(4,(.ptr 3 0)),(5,(.ptr 4 0)),(6,(.ptr 0 0))],[15],(Wq prog 93 [1,1,0,1,0,0]),(Wq prog 93 [1,1,0,1,0,1])⟩)])⟩
 | .h6 v2 v8 bZ bN aY aC bH bE bT bL bS aA aH=>⟨⟨101,0,true⟩,none,(Zg prog 136 [0,1,0,0,1,0,0] 0),none,[],⟨Yk [(0,(.ptr 0 0)),(2,(ii v2)),(8,(ii v8))],z5j [(0,⟨[(.sla 1 6 0 aC.length (.un 6)),(.dat bH.length (Zz bH)),(ii bE),(ii bT)],179,none⟩),(1,⟨Ym aC.length (Zz aC),57,some ⟨6,aC.length,(Zz aC)⟩⟩),(3,(z7b q)),(4,⟨[.nils],33,none⟩),(5,⟨[(ii 0)],24,none⟩),(6,⟨[(.sla 7 1 0 bL (.un 1))],125,none⟩),(7,⟨Ym bS.length (Zz bS),3,some ⟨1,bS.length,(Zz bS)⟩⟩),(8,⟨[(.sl 9 0 2 (.un 1))],177,none⟩),(9,(y6e l0 l1)),(10,⟨[(.dat aA.length (Zz aA)),(.dat aH.length (Zz aH))],80,none⟩)],11,[],true⟩,[⟨⟨65,0,true⟩,(Wr prog 93 [1,1,0,1,0,1,0,1,1,1] 5),(Zg prog 93 [1,1,0,1,0,1,0,1,1,1] 1),(some 2),[],Yk [(6,(.ptr 0 0)),(54,(ii bZ)),(56,(ii v2)),(57,(.dat bN.length (Zz bN)))]⟩,⟨⟨86,0,true⟩,(Wr prog 162 [1,0,0,1,0,0,1,1,0] 2),(Zg prog 162 [1,0,0,1,0,0,1,1,0] 1),none,[],Yk [(0,(.yld 2)),(1,(.ptr 6 0)),(2,(.ptr 8 0)),(4,(ii aY)),(82,(.yld 2)),(83,(.agg [(ii bZ),(ii v2),(.sl 10 0 2 (.ex 2))]))]⟩,⟨⟨65,0,true⟩,none,(.inRangeFunc 2::(Zg prog 93 [1,1,0,1,0] 1)),none,(Zy prog 93),Yk [(4,(.ptr 4 0)),(5,(.ptr 5 0)),(6,(.ptr 0 0))]⟩,⟨⟨27,0,true⟩,(Wr prog 66 [1,1,1,0] 4),(Zg prog 66 [1,1,1,0] 1),none,(Zy prog 10),Yk [(20,(.agg [(.fn (nRg q) [])])),(23,(.sl 9 0 2 (.un 1)))]⟩,(y6f q l0 l1)],(z9k [(2,⟨.busy,none,65,Yk [(2,(.ptr 3 0)),(4,(.ptr 4 0)),(5,(.ptr 5 0)),(6,(.ptr 0 0))],[15],(Wq prog 93 [1,1,0,1,0,0]),(Wq prog 93 [1,1,0,1,0,1])⟩)])⟩
def sljN0 :List (Option (List Nat)):=[some [1,3,8,9,10,14,15,16],some [2,4,5,6,13],some [20,23],some [6,7,8]]
def sljM0 :List (Option (List Nat)):=[]
def sljN1 :List (Option (List Nat)):=[some [1,3,8,9,10,14,15,16],some [2,4,5,6,13],some [20,23],some [6,7,8]]
def sljM1 :List (Option (List Nat)):=[]
def j3c :List (Option (List Nat)):=[some [0,1,2,4],some [4,5,6],some [20,23],some [6,7,8]]
def j3d :List (Option (List Nat)):=[some [2,4,5,6],none,none,none,none,none,none,none,none,none]
def u0v :List (Option (List Nat)):=[some [0,1,2,4,5,6,29,30,31,36,37,38],some [4,5,6],some [20,23],some [6,7,8]]
def u0y :List (Option (List Nat)):=[some [2,4,5,6],none,none,none,none,none,none,none,none,none,none,none,none]
def u0u :List (Option (List Nat)):=[some [0,1,2,4,5,6,29,30,31,36,37,38],some [4,5,6],some [20,23],some [6,7,8]]
def u0x :List (Option (List Nat)):=[some [2,4,5,6],none,none,none,none,none,none,none,none,none,none,none,none,none]
def u0t :List (Option (List Nat)):=[some [0,1,2,72,73,74],some [6,54,56,57],some [0,1,2,4,82,83],some [4,5,6],some [20,23],some [6,7,8]]
def u0w :List (Option (List Nat)):=[none,some [2,4,5,6],none,none,none,none,none,none,none,none,none]
def sljN6 :List (Option (List Nat)):=[some [0,2,8],some [6,54,56,57],some [0,1,2,4,82,83],some [4,5,6],some [20,23],some [6,7,8]]
def sljM6 :List (Option (List Nat)):=[none,none,some [2,4,5,6],none,none,none,none,none,none,none,none]
def Yn (q:Op) (l0:List R6) (l1:List R6):sljS→Xw sljS
 | .h0 v16 aD=>(bif (decide (v16<(l0.length:Int))) then (bif ((decide (0≤v16∧v16<(l0.length:Int)))&&true) then (bif (Nat.beq 1 1&&((decide (0+aD.length=aD.length))&&decide ((aD.length+2+1)*(8+1)≤Jo))) then (.to (.h0 (wrap .i64 (v16+1)) (aD++[(rd l0 v16.toNat).c,(rd l0 v16.toNat).f]))) else .stuck) else .stuck) else (.to (.h1 0 aD)))
 | .h1 v16 aD=>(bif (decide (v16<(l1.length:Int))) then (bif ((decide (0≤v16∧v16<(l1.length:Int)))&&true) then (bif (Nat.beq 1 1&&((decide (0+aD.length=aD.length))&&decide ((aD.length+2+1)*(8+1)≤Jo))) then (.to (.h1 (wrap .i64 (v16+1)) (aD++[(rd l1 v16.toNat).c,(rd l1 v16.toNat).f]))) else .stuck) else .stuck) else (bif (decide (aD.length<4611686018427387904)) then (bif (decide (aD.length=aD.length)) then (.to (.h2 1 ([]:List R6) ([]:List R4) 0 0 (v1y (Yq aD.length (cOf (Zz (Xk (Yq aD.length (cOf (Zz aD)))))))) (Wy (Yq aD.length (cOf (Zz (Xk (Yq aD.length (cOf (Zz aD)))))))))) else .stuck) else .stuck))
 | .h2 v4 aG aR bC bD aE aK=>(bif (decide (v4<((aE:Nat):Int))) then (bif ((decide (0≤(wrap .i64 (v4 - 1))∧(wrap .i64 (v4 - 1))<((aE:Nat):Int)))&&true) then (bif (decide ((0+(Int.toNat (wrap .i64 (v4 - 1))))<aK.length)) then (bif ((decide (0≤v4∧v4<((aE:Nat):Int)))&&true) then (bif (decide ((0+v4.toNat)<aK.length)) then (.to (.h3 v4 0 aG aR bC bD aE aK (rd aK (0+(Int.toNat (wrap .i64 (v4 - 1))))) (rd aK (0+v4.toNat)) ([]:List R4))) else .stuck) else .stuck) else .stuck) else .stuck) else (bif (decide ((aG.length:Int)>400)) then (.ret [.nils,(.int .i64 4)]) else (.ret [(.dat aG.length (Zz aG)),(.int .i64 0)])))
 | .h3 v4 v38 aG aR bC bD aE aK aF aZ aA=>(bif (decide (v38<(l0.length:Int))) then (bif ((decide (0≤v38∧v38<(l0.length:Int)))&&true) then (bif (decide ((rd l0 v38.toNat).c ≤aF)) then (bif (decide (aF<(rd l0 v38.toNat).f)) then (bif (Nat.beq 4 4&&((decide (0+aA.length=aA.length))&&decide ((aA.length+1+1)*(32+1)≤Jo))) then (.to (.h3 v4 (wrap .i64 (v38+1)) aG aR bC bD aE aK aF aZ (aA++[(R4.mk (rd l0 v38.toNat).a (rd l0 v38.toNat).b (rd l0 v38.toNat).d (rd l0 v38.toNat).e)]))) else .stuck) else (.to (.h3 v4 (wrap .i64 (v38+1)) aG aR bC bD aE aK aF aZ aA))) else (.to (.h3 v4 (wrap .i64 (v38+1)) aG aR bC bD aE aK aF aZ aA))) else .stuck) else (.to (.h4 v4 0 aG aR bC bD aE aK aF aZ aA ([]:List R4))))
 | .h4 v4 v38 aG aR bC bD aE aK aF aZ aA aH=>(bif (decide (v38<(l1.length:Int))) then (bif ((decide (0≤v38∧v38<(l1.length:Int)))&&true) then (bif (decide ((rd l1 v38.toNat).c ≤aF)) then (bif (decide (aF<(rd l1 v38.toNat).f)) then (bif (Nat.beq 4 4&&((decide (0+aH.length=aH.length))&&decide ((aH.length+1+1)*(32+1)≤Jo))) then (.to (.h4 v4 (wrap .i64 (v38+1)) aG aR bC bD aE aK aF aZ aA (aH++[(R4.mk (rd l1 v38.toNat).a (rd l1 v38.toNat).b (rd l1 v38.toNat).d (rd l1 v38.toNat).e)]))) else .stuck) else (.to (.h4 v4 (wrap .i64 (v38+1)) aG aR bC bD aE aK aF aZ aA aH))) else (.to (.h4 v4 (wrap .i64 (v38+1)) aG aR bC bD aE aK aF aZ aA aH))) else .stuck) else (bif (Uq (cvT aA)) then (bif ((Yo (cvT aA)) == 0) then (bif (Uq (cvT aH)) then (bif ((Yo (cvT aH)) == 0) then (bif ((Kw q) (cvT (Zm (cvT aA))) (cvT (Zm (cvT aH)))) then (bif (((Ko q) (cvT (Zm (cvT aA))) (cvT (Zm (cvT aH)))) != 0) then (.ret [.nils,(.int .i64 ((Ko q) (cvT (Zm (cvT aA))) (cvT (Zm (cvT aH)))))]) else (bif (decide (((((Wg q) (cvT (Zm (cvT aA))) (cvT (Zm (cvT aH)))).length :Nat):Int)>0)) then (bif (bD == aF) then (bif (Wv (cvT aR) (cvT ((Wg q) (cvT (Zm (cvT aA))) (cvT (Zm (cvT aH)))))) then (bif (Vh (cvT aR) (cvT ((Wg q) (cvT (Zm (cvT aA))) (cvT (Zm (cvT aH)))))) then (.to (.h6 aZ bC aF ((Wg q) (cvT (Zm (cvT aA))) (cvT (Zm (cvT aH)))) v4 aG aR bC bD aE aK aA aH)) else (.to (.h5 aF aZ ((Wg q) (cvT (Zm (cvT aA))) (cvT (Zm (cvT aH)))) ((((Wg q) (cvT (Zm (cvT aA))) (cvT (Zm (cvT aH)))).length :Nat):Int) 0 v4 aG (aG.length:Int) aE aK aA aH))) else .stuck) else (.to (.h5 aF aZ ((Wg q) (cvT (Zm (cvT aA))) (cvT (Zm (cvT aH)))) ((((Wg q) (cvT (Zm (cvT aA))) (cvT (Zm (cvT aH)))).length :Nat):Int) 0 v4 aG (aG.length:Int) aE aK aA aH))) else (.to (.h5 aF aZ ((Wg q) (cvT (Zm (cvT aA))) (cvT (Zm (cvT aH)))) ((((Wg q) (cvT (Zm (cvT aA))) (cvT (Zm (cvT aH)))).length :Nat):Int) 0 v4 aG (aG.length:Int) aE aK aA aH)))) else .stuck) else (.ret [.nils,(.int .i64 (Yo (cvT aH)))])) else .stuck) else (.ret [.nils,(.int .i64 (Yo (cvT aA)))])) else .stuck))
 | .h5 v1 v2 v72 v73 v74 aY aC bE aE aK aF aZ=>(bif (decide (v74<v73)) then (bif ((decide (0≤v74∧v74<(v72.length:Int)))&&true) then (bif (Nat.beq 6 6&&((decide (0+aC.length=aC.length))&&decide ((aC.length+1+1)*(48+1)≤Jo))) then (.to (.h5 v1 v2 v72 v73 (wrap .i64 (v74+1)) aY (aC++[(R6.mk (rd v72 v74.toNat).a (rd v72 v74.toNat).b v1 (rd v72 v74.toNat).c (rd v72 v74.toNat).d v2)]) bE aE aK aF aZ)) else .stuck) else .stuck) else (.to (.h2 (wrap .i64 (aY+1)) aC v72 bE v2 aE aK)))
 | .h6 v2 v8 bZ bN aY aC bH bE bT bL bS aA aH=>(bif (decide (v8<(aC.length:Int))) then (bif ((decide (0≤v8∧v8<(aC.length:Int)))&&true) then (bif (decide ((0+v8.toNat)<aC.length)) then (.to (.h6 v2 (wrap .i64 (v8+1)) bZ bN aY (aC.set (0+v8.toNat) (R6.mk (rd aC (0+v8.toNat)).a (rd aC (0+v8.toNat)).b (rd aC (0+v8.toNat)).c (rd aC (0+v8.toNat)).d (rd aC (0+v8.toNat)).e v2)) bH bE bT bL bS aA aH)) else .stuck) else .stuck) else (.to (.h2 (wrap .i64 (aY+1)) aC bH bE v2 bL bS)))
def y3u (q:Op) (l0:List R6) (l1:List R6):Xw sljS:=(bif (Wt (cvT l0)) then (bif ((Zh (cvT l0)) != 0) then (.ret [.nils,(.int .i64 (Zh (cvT l0)))]) else (bif (Wt (cvT l1)) then (bif ((Zh (cvT l1)) != 0) then (.ret [.nils,(.int .i64 (Zh (cvT l1)))]) else (.to (.h0 0 ([]:List Int)))) else .stuck)) else .stuck)
theorem w7v (q:Op) (l0:List R6) (l1:List R6): ∀s,Xv prog (Zy prog (nSl q)) (sljC q l0 l1) (sljC q l0 l1 s) (Yn q l0 l1 s):=by cases q <;> refine (?f: ∀q:Op,∀s,Xv prog (Zy prog (nSl q)) (sljC q l0 l1) (sljC q l0 l1 s) (Yn q l0 l1 s)) _ <;> exact fun q=>fun
 | .h0 v16 aD=>(lb (fun k0=>(lo fun o0=>(lo fun o1=>(sl Kp 34 [] ⟨[0,1,2,3,4,5,6,10],[],sljN0,sljM0⟩ ⟨[],[.keep,.keep,.cells [.len (y0v aD l0 v16).length],.keep,.keep,.keep,.keep,.rowed 1 (y0v aD l0 v16).length (Zz (y0v aD l0 v16))],[]⟩ [true] (pp (xL (aD.length+2) (y0v aD l0 v16).length) (pp (xL (aD.length+2) (y0v aD l0 v16).length) (pp (xS (aD.length+2) (Zr (Zz aD) 0 aD.length 1 [(ii (rd l0 (tn v16)).c),(ii (rd l0 (tn v16)).f)]) (Zz (y0v aD l0 v16))) (pp (pp (xF (Zr (Zz aD) 0 aD.length 1 [(ii (rd l0 (tn v16)).c),(ii (rd l0 (tn v16)).f)])) nn) (ww o1 (ww o0 (tt k0 nn))))))))))) (fun k0=>(sl Kp 36 [] ⟨(List.range 8),[],sljN1,sljM1⟩ ⟨[],[],[]⟩ (bl 2 2) (pp (fl aD nn) (tt k0 nn)))))
 | .h1 v16 aD=>(lb (fun k0=>(lo fun o0=>(lo fun o1=>(sl Kp 34 [] ⟨[0,1,2,3,4,5,6,10],[],sljN1,sljM1⟩ ⟨[],[.keep,.keep,.cells [.len (y0u aD l1 v16).length],.keep,.keep,.keep,.keep,.rowed 1 (y0u aD l1 v16).length (Zz (y0u aD l1 v16))],[]⟩ [true] (pp (xL (aD.length+2) (y0u aD l1 v16).length) (pp (xL (aD.length+2) (y0u aD l1 v16).length) (pp (xS (aD.length+2) (Zr (Zz aD) 0 aD.length 1 [(ii (rd l1 (tn v16)).c),(ii (rd l1 (tn v16)).f)]) (Zz (y0u aD l1 v16))) (pp (pp (xF (Zr (Zz aD) 0 aD.length 1 [(ii (rd l1 (tn v16)).c),(ii (rd l1 (tn v16)).f)])) nn) (ww o1 (ww o0 (tt k0 nn))))))))))) (fun k0=>(lo fun o0=>(lo fun o1=>(sl Kp 46 [(57,6,Zz ([]:List R6))] ⟨[8,3,4,5,6,2,7,0,1,9],[],j3c,j3d⟩ ⟨[],(kpB 4 [.cells [.grow 9 6,.list 0 (Zz ([]:List R4)),.keep,.keep],.keep,.rowed 1 (y9v aD).length (Zz (y9v aD)),.keep,.keep,.keep]),[]⟩ (bl 2 0) (pp (xL aD.length (y9v aD).length (by first | exact z1d _ _ | exact Vo rfl)) (pp (xS aD.length (Zz (y9v aD)) (Zz (y9v aD))) (pp (fl (y9v aD) (fl ([]:List R6) nn)) (pp (pp (xG (Nat.beq 1 1)) (pp (xG (Nat.beq 1 1)) (pp (xG (Nat.beq 0 0)) (pp (xG (decide (aD.length=aD.length))) (pp (xG (isI (Zz (Xk (Yq aD.length (cOf (Zz aD))))))) (xG (decide (aD.length<4611686018427387904)))))))) (pp (pp (xG (Nat.beq 1 1)) (pp (xG (Nat.beq 1 1)) (pp (xG (Nat.beq 0 0)) (pp (xG (decide (aD.length=aD.length))) (pp (xG (isI (Zz aD))) (xG (decide (aD.length<4611686018427387904)))))))) (tt k0 nn)))))))))))
 | .h2 v4 aG aR bC bD aE aK=>(lb (fun k0=>(lo fun o0=>(lo fun o1=>(lo fun o2=>(lo fun o3=>(sl Kp 48 [(116,4,Zz ([]:List R4))] ⟨[0,1,2,3,4,5,6,7,8,10,11,12,9],[],u0v,u0y⟩ ⟨[],(kpB 10 [.cells [.grow 11 4,.keep],.keep,.keep]),[]⟩ (trs 3 []) (pp (fl aK (fl ([]:List R4) (fl aG nn))) (ww o3 (ww o2 (ww o1 (ww o0 (tt k0 nn)))))))))))) (fun k0=>(lb (fun k1=>(lr 12 3 [1,1,1,1,0] 1 16 [(4,.nils),(5,(ii 4))] (sl Kp 39 [] ⟨[],[],[some [4,5]],[]⟩ ⟨[],[],[]⟩ (bl 2 2) (tt k1 (tt k0 nn))))) (fun k1=>(lr 12 3 [1,1,1,1,0] 1 16 [(4,(.dat aG.length (Zz aG))),(5,(ii 0))] (sl Kp 42 [] ⟨[],[9],[some [4,5]],[]⟩ ⟨[(4,.frz aG.length aG.length (Zz aG) (Zz aG))],[],[]⟩ (bl 2 0) (pp (xZ (z4o 6 6 0 aG.length aG.length (Zz aG)) aG.length (Zz aG)) (pp (xL aG.length aG.length) (pp (xS aG.length (Zz aG) (Zz aG)) (pp (fl aG nn) (tt k1 (tt k0 nn))))))))))))
 | .h3 v4 v38 aG aR bC bD aE aK aF aZ aA=>(lb (fun k0=>(lo fun aI=>(lb (fun k1=>(lb (fun k2=>(lo fun o0=>(sl Kp 41 [] ⟨[0,1,2,3,4,5,6,7,8,9,10,15,12],[],u0v,u0y⟩ ⟨[],(kpB 10 [.cells [.len (y9u aA l0 v38).length,.keep],.rowed 4 (y9u aA l0 v38).length (Zz (y9u aA l0 v38)),.keep]),[]⟩ (trs 8 []) (pp (xL (aA.length+1) (y9u aA l0 v38).length) (pp (xL (aA.length+1) (y9u aA l0 v38).length) (pp (xS (aA.length+1) (Zr (Zz aA) 0 aA.length 4 [(ii (rd l0 (tn v38)).a),(ii (rd l0 (tn v38)).b),(ii (rd l0 (tn v38)).d),(ii (rd l0 (tn v38)).e)]) (Zz (y9u aA l0 v38))) (pp (fl aK (pp (xF (Zr (Zz aA) 0 aA.length 4 [(ii (rd l0 (tn v38)).a),(ii (rd l0 (tn v38)).b),(ii (rd l0 (tn v38)).d),(ii (rd l0 (tn v38)).e)])) (fl aG nn))) (ww o0 (tt k2 (tt k1 (ww aI (tt k0 nn)))))))))))) (fun k2=>(sl Kp 41 [] ⟨(List.range 13),[],u0v,u0y⟩ ⟨[],[],[]⟩ (trs 7 [false]) (pp (fl aK (fl aA (fl aG nn))) (tt k2 (tt k1 (ww aI (tt k0 nn))))))))) (fun k1=>(sl Kp 41 [] ⟨(List.range 13),[],u0v,u0y⟩ ⟨[],[],[]⟩ (bl 8 1) (pp (fl aK (fl aA (fl aG nn))) (tt k1 (ww aI (tt k0 nn))))))))) (fun k0=>(sl Kp 38 [(116,4,Zz ([]:List R4))] ⟨[0,1,2,3,4,5,6,7,8,9,10,11,13,12],[],u0u,u0x⟩ ⟨[],(kpB 10 [.cells [.keep,.grow 12 4],.keep,.keep,.keep]),[]⟩ (bl 2 2) (pp (fl aK (fl aA (fl ([]:List R4) (fl aG nn)))) (tt k0 nn)))))
 | .h4 v4 v38 aG aR bC bD aE aK aF aZ aA aH=>(lb (fun k0=>(lo fun aI=>(lb (fun k1=>(lb (fun k2=>(lo fun o0=>(sl Kp 41 [] ⟨[0,1,2,3,4,5,6,7,8,9,10,11,16,13],[],u0u,u0x⟩ ⟨[],(kpB 10 [.cells [.keep,.len (y9t aH l1 v38).length],.keep,.rowed 4 (y9t aH l1 v38).length (Zz (y9t aH l1 v38)),.keep]),[]⟩ (trs 8 []) (pp (xL (aH.length+1) (y9t aH l1 v38).length) (pp (xL (aH.length+1) (y9t aH l1 v38).length) (pp (xS (aH.length+1) (Zr (Zz aH) 0 aH.length 4 [(ii (rd l1 (tn v38)).a),(ii (rd l1 (tn v38)).b),(ii (rd l1 (tn v38)).d),(ii (rd l1 (tn v38)).e)]) (Zz (y9t aH l1 v38))) (pp (fl aK (fl aA (pp (xF (Zr (Zz aH) 0 aH.length 4 [(ii (rd l1 (tn v38)).a),(ii (rd l1 (tn v38)).b),(ii (rd l1 (tn v38)).d),(ii (rd l1 (tn v38)).e)])) (fl aG nn)))) (ww o0 (tt k2 (tt k1 (ww aI (tt k0 nn)))))))))))) (fun k2=>(sl Kp 41 [] ⟨(List.range 14),[],u0u,u0x⟩ ⟨[],[],[]⟩ (trs 7 [false]) (pp (fl aK (fl aA (fl aH (fl aG nn)))) (tt k2 (tt k1 (ww aI (tt k0 nn))))))))) (fun k1=>(sl Kp 41 [] ⟨(List.range 14),[],u0u,u0x⟩ ⟨[],[],[]⟩ (bl 8 1) (pp (fl aK (fl aA (fl aH (fl aG nn)))) (tt k1 (ww aI (tt k0 nn))))))))) (fun k0=>(Xd (sl Kp (C':=⟨⟨65,0,true⟩,(Wr prog 93 [1,1,0,1,0,1,0,0] 4),(Zg prog 93 [1,1,0,1,0,1,0,0] 1),(some 0),[],⟨Yk [(2,(.ptr 1 0)),(4,(.ptr 2 0)),(5,(.ptr 3 0)),(6,(.ptr 4 0)),(7,(.ptr 6 0)),(20,(.dat aA.length (Zz aA)))],z5j [(1,⟨[(.fn (nRg q) [])],101,none⟩),(2,⟨[.nils],33,none⟩),(3,⟨[(ii 0)],24,none⟩),(4,⟨[(.sla 5 6 0 aG.length (.un 6)),(.dat aR.length (Zz aR)),(ii bC),(ii bD)],179,none⟩),(5,⟨Ym aG.length (Zz aG),57,some ⟨6,aG.length,(Zz aG)⟩⟩),(6,⟨[(ii aF),(ii aZ),(.sl 7 0 2 (.ex 2))],184,none⟩),(7,⟨[(.dat aA.length (Zz aA)),(.sla 8 4 0 aH.length (.un 4))],80,none⟩),(8,⟨Ym aH.length (Zz aH),116,some ⟨4,aH.length,(Zz aH)⟩⟩),(9,⟨[(.sla 10 1 0 aE (.un 1))],125,none⟩),(10,⟨Ym aK.length (Zz aK),3,some ⟨1,aK.length,(Zz aK)⟩⟩),(11,⟨[(.sl 12 0 2 (.un 1))],177,none⟩),(12,⟨[(.dat l0.length (Zz l0)),(.dat l1.length (Zz l1))],32,none⟩)],13,[],true⟩,[⟨⟨86,0,true⟩,(Wr prog 162 [1,0,0,1,0,0,1,1,0] 2),(Zg prog 162 [1,0,0,1,0,0,1,1,0] 1),none,[],Yk [(0,(.yld 0)),(1,(.ptr 9 0)),(2,(.ptr 11 0)),(4,(ii v4)),(82,(.yld 0)),(83,(.agg [(ii aF),(ii aZ),(.sl 7 0 2 (.ex 2))]))]⟩,⟨⟨65,0,true⟩,none,(.inRangeFunc 0::(Zg prog 93 [1,1,0,1,0] 1)),none,(Zy prog 93),Yk [(4,(.ptr 2 0)),(5,(.ptr 3 0)),(6,(.ptr 4 0))]⟩,⟨⟨27,0,true⟩,(Wr prog 66 [1,1,1,0] 4),(Zg prog 66 [1,1,1,0] 1),none,(Zy prog 10),Yk [(20,(.agg [(.fn (nRg q) [])])),(23,(.sl 12 0 2 (.un 1)))]⟩,⟨⟨12,0,true⟩,(Wr prog (nSl q) [1,0] 3),(Zg prog (nSl q) [1,0] 1),none,(Zy prog 16),Yk [(6,(.dat l0.length (Zz l0))),(7,(.dat l1.length (Zz l1))),(8,(.agg [(.fn (nRg q) [])]))]⟩],(z9k [(0,⟨.busy,none,65,Yk [(2,(.ptr 1 0)),(4,(.ptr 2 0)),(5,(.ptr 3 0)),(6,(.ptr 4 0))],[15],(Wq prog 93 [1,1,0,1,0,0]),(Wq prog 93 [1,1,0,1,0,1])⟩)])⟩) 37 [] ⟨[0,1,2,3,4,13,14,10,12,5,6,7,8],[11],[some [2,4,5,6,7,20],some [0,1,2,4,82,83],some [4,5,6],some [20,23],some [6,7,8]],[some [2,4,5,6],none,none,none,none,none,none,none,none,none,none,none,none]⟩ ⟨[(20,.frz aA.length aA.length (Zz aA) (Zz aA))],[.keep,.keep,.keep,.keep,.keep,.keep,.keep,.cells [.frz aA.length aA.length (Zz aA) (Zz aA),.keep],.keep,.keep,.keep,.keep,.keep],[]⟩ (bl 2 0) (pp (xZ (z4o 4 4 0 aA.length aA.length (Zz aA)) aA.length (Zz aA)) (pp (xL aA.length aA.length) (pp (xS aA.length (Zz aA) (Zz aA)) (pp (xZ (z4o 4 4 0 aA.length aA.length (Zz aA)) aA.length (Zz aA)) (pp (xL aA.length aA.length) (pp (xS aA.length (Zz aA) (Zz aA)) (pp (fl aG (fl aH (fl aK nn))) (pp (fl aA nn) (tt k0 nn)))))))))) (lo fun aI=>(lb (fun k1=>(Xd (sl Kp (C':=⟨⟨65,0,true⟩,(Wr prog 93 [1,1,0,1,0,1,0,1,0,1,0,0,1,1,0,0,1,1,0,1,0] 1),(Zg prog 93 [1,1,0,1,0,1,0,1,0,1,0,0,1,1,0,0,1,1,0,1,0] 1),(some 0),[],⟨Yk [(2,(.ptr 1 0)),(4,(.ptr 2 0)),(5,(.ptr 3 0)),(6,(.ptr 4 0)),(7,(.ptr 6 0)),(8,(.dat (Zm (cvT aA)).length (Zz (Zm (cvT aA))))),(26,(.sl 7 1 1 (.ex 1))),(27,(ii 1)),(28,(ii 0)),(35,(.dat aH.length (Zz aH)))],z5j [(1,⟨[(.fn (nRg q) [])],101,none⟩),(2,⟨[.nils],33,none⟩),(3,⟨[(ii 0)],24,none⟩),(4,⟨[(.sla 5 6 0 aG.length (.un 6)),(.dat aR.length (Zz aR)),(ii bC),(ii bD)],179,none⟩),(5,⟨Ym aG.length (Zz aG),57,some ⟨6,aG.length,(Zz aG)⟩⟩),(6,⟨[(ii aF),(ii aZ),(.sl 7 0 2 (.ex 2))],184,none⟩),(7,⟨[(.dat aA.length (Zz aA)),(.dat aH.length (Zz aH))],80,none⟩),(8,⟨[(.sla 9 1 0 aE (.un 1))],125,none⟩),(9,⟨Ym aK.length (Zz aK),3,some ⟨1,aK.length,(Zz aK)⟩⟩),(10,⟨[(.sl 11 0 2 (.un 1))],177,none⟩),(11,⟨[(.dat l0.length (Zz l0)),(.dat l1.length (Zz l1))],32,none⟩)],12,[],true⟩,[⟨⟨86,0,true⟩,(Wr prog 162 [1,0,0,1,0,0,1,1,0] 2),(Zg prog 162 [1,0,0,1,0,0,1,1,0] 1),none,[],Yk [(0,(.yld 0)),(1,(.ptr 8 0)),(2,(.ptr 10 0)),(4,(ii v4)),(82,(.yld 0)),(83,(.agg [(ii aF),(ii aZ),(.sl 7 0 2 (.ex 2))]))]⟩,⟨⟨65,0,true⟩,none,(.inRangeFunc 0::(Zg prog 93 [1,1,0,1,0] 1)),none,(Zy prog 93),Yk [(4,(.ptr 2 0)),(5,(.ptr 3 0)),(6,(.ptr 4 0))]⟩,⟨⟨27,0,true⟩,(Wr prog 66 [1,1,1,0] 4),(Zg prog 66 [1,1,1,0] 1),none,(Zy prog 10),Yk [(20,(.agg [(.fn (nRg q) [])])),(23,(.sl 11 0 2 (.un 1)))]⟩,⟨⟨12,0,true⟩,(Wr prog (nSl q) [1,0] 3),(Zg prog (nSl q) [1,0] 1),none,(Zy prog 16),Yk [(6,(.dat l0.length (Zz l0))),(7,(.dat l1.length (Zz l1))),(8,(.agg [(.fn (nRg q) [])]))]⟩],(z9k [(0,⟨.busy,none,65,Yk [(2,(.ptr 1 0)),(4,(.ptr 2 0)),(5,(.ptr 3 0)),(6,(.ptr 4 0))],[15],(Wq prog 93 [1,1,0,1,0,0]),(Wq prog 93 [1,1,0,1,0,1])⟩)])⟩) 46 [] ⟨[0,1,2,3,4,5,6,7,9,10,11,12],[8],[some [2,4,5,6,7,8,26,27,28,35],some [0,1,2,4,82,83],some [4,5,6],some [20,23],some [6,7,8]],[some [2,4,5,6],none,none,none,none,none,none,none,none,none,none,none]⟩ ⟨[(35,.frz aH.length aH.length (Zz aH) (Zz aH))],[.keep,.keep,.keep,.keep,.keep,.keep,.keep,.cells [.keep,.frz aH.length aH.length (Zz aH) (Zz aH)],.keep,.keep,.keep,.keep],[]⟩ (bl 2 3) (pp (xZ (z4o 4 4 0 aH.length aH.length (Zz aH)) aH.length (Zz aH)) (pp (xL aH.length aH.length) (pp (xS aH.length (Zz aH) (Zz aH)) (pp (xZ (z4o 4 4 0 aH.length aH.length (Zz aH)) aH.length (Zz aH)) (pp (xL aH.length aH.length) (pp (xS aH.length (Zz aH) (Zz aH)) (pp (fl aG (fl aK nn)) (pp (fl aH nn) (tt k1 (pp (pp (xr aA) (xw aI)) nn))))))))))) (lo fun bX=>(lb (fun k2=>(lo fun cA=>(lb (fun k3=>(lr 12 3 [1,1,1,1,0] 1 16 [(4,.nils),(5,(ii ((Ko q) (cvT (Zm (cvT aA))) (cvT (Zm (cvT aH))))))] (sl Kp 69 [] ⟨[],[],[some [4,5]],[]⟩ ⟨[],[],[]⟩ (bl 4 13) (tt k3 (pp (pp (xI R4 (Zm (cvT aA)).length (Zz (Zm (cvT aA)))) (pp (xI R4 (Zm (cvT aH)).length (Zz (Zm (cvT aH)))) (xw cA))) (tt k2 (pp (pp (xr aH) (xw bX)) nn))))))) (fun k3=>(lb (fun k4=>(lb (fun k5=>(lo fun dG=>(lb (fun k6=>(sl Kp 88 [] ⟨[4,5,0,1,2,3,8,9,10,11,7],[],sljN6,sljM6⟩ ⟨[],[],[]⟩ (bl 16 65529) (pp (fl aG (fl aK nn)) (tt k6 (pp (pp (xr aR) (pp (xI R4 ((Wg q) (cvT (Zm (cvT aA))) (cvT (Zm (cvT aH)))).length (Zz ((Wg q) (cvT (Zm (cvT aA))) (cvT (Zm (cvT aH)))))) (xw dG))) (tt k5 (tt k4 (tt k3 (pp (pp (xI R4 (Zm (cvT aA)).length (Zz (Zm (cvT aA)))) (pp (xI R4 (Zm (cvT aH)).length (Zz (Zm (cvT aH)))) (xw cA))) (tt k2 (pp (pp (xr aH) (xw bX)) nn))))))))))) (fun k6=>(sl Kp 108 [] ⟨[4,0,1,2,3,8,9,10,11,7,5],[],u0t,u0w⟩ ⟨[],[],[]⟩ (bl 16 32761) (pp (fl aK (fl aG nn)) (tt k6 (pp (pp (xr aR) (pp (xI R4 ((Wg q) (cvT (Zm (cvT aA))) (cvT (Zm (cvT aH)))).length (Zz ((Wg q) (cvT (Zm (cvT aA))) (cvT (Zm (cvT aH)))))) (xw dG))) (tt k5 (tt k4 (tt k3 (pp (pp (xI R4 (Zm (cvT aA)).length (Zz (Zm (cvT aA)))) (pp (xI R4 (Zm (cvT aH)).length (Zz (Zm (cvT aH)))) (xw cA))) (tt k2 (pp (pp (xr aH) (xw bX)) nn)))))))))))))) (fun k5=>(sl Kp 108 [] ⟨[4,0,1,2,3,8,9,10,11,7,5],[],u0t,u0w⟩ ⟨[],[],[]⟩ (bl 16 505) (pp (fl aK (fl aG nn)) (tt k5 (tt k4 (tt k3 (pp (pp (xI R4 (Zm (cvT aA)).length (Zz (Zm (cvT aA)))) (pp (xI R4 (Zm (cvT aH)).length (Zz (Zm (cvT aH)))) (xw cA))) (tt k2 (pp (pp (xr aH) (xw bX)) nn))))))))))) (fun k4=>(sl Kp 108 [] ⟨[4,0,1,2,3,8,9,10,11,7,5],[],u0t,u0w⟩ ⟨[],[],[]⟩ (bl 16 1) (pp (fl aK (fl aG nn)) (tt k4 (tt k3 (pp (pp (xI R4 (Zm (cvT aA)).length (Zz (Zm (cvT aA)))) (pp (xI R4 (Zm (cvT aH)).length (Zz (Zm (cvT aH)))) (xw cA))) (tt k2 (pp (pp (xr aH) (xw bX)) nn))))))))))))) (fun k2=>(lr 12 3 [1,1,1,1,0] 1 16 [(4,.nils),(5,(ii (Yo (cvT aH))))] (sl Kp 58 [] ⟨[],[],[some [4,5]],[]⟩ ⟨[],[],[]⟩ (bl 4 12) (yt (v1e k2) (tt k2 (pp (pp (xr aH) (xw bX)) nn)))))))))) (fun k1=>(lr 12 3 [1,1,1,1,0] 1 16 [(4,.nils),(5,(ii (Yo (cvT aA))))] (sl Kp 84 [] ⟨[],[],[some [4,5]],[]⟩ ⟨[],[],[]⟩ (bl 5 25) (yt (v1e k1) (tt k1 (pp (pp (xr aA) (xw aI)) nn)))))))))))
 | .h5 v1 v2 v72 v73 v74 aY aC bE aE aK aF aZ=>(lb (fun k0=>(lo fun o0=>(lo fun o1=>(sl Kp 23 [] ⟨[0,1,2,3,4,5,6,7,8,9,13],[],u0t,u0w⟩ ⟨[],[.cells [.len (y9s aC v72 v74 v1 v2).length,.keep,.keep,.keep],.keep,.keep,.keep,.keep,.keep,.keep,.keep,.keep,.keep,.rowed 6 (y9s aC v72 v74 v1 v2).length (Zz (y9s aC v72 v74 v1 v2))],[]⟩ [true] (pp (xL (aC.length+1) (y9s aC v72 v74 v1 v2).length) (pp (xL (aC.length+1) (y9s aC v72 v74 v1 v2).length) (pp (xS (aC.length+1) (Zr (Zz aC) 0 aC.length 6 [(ii (rd v72 (tn v74)).a),(ii (rd v72 (tn v74)).b),(ii v1),(ii (rd v72 (tn v74)).c),(ii (rd v72 (tn v74)).d),(ii v2)]) (Zz (y9s aC v72 v74 v1 v2))) (pp (fl aK (pp (xF (Zr (Zz aC) 0 aC.length 6 [(ii (rd v72 (tn v74)).a),(ii (rd v72 (tn v74)).b),(ii v1),(ii (rd v72 (tn v74)).c),(ii (rd v72 (tn v74)).d),(ii v2)])) nn)) (ww o1 (ww o0 (tt k0 nn))))))))))) (fun k0=>(sl Kp 22 [] ⟨[1,2,3,4,0,5,6,7,8,10],[],j3c,j3d⟩ ⟨[],[],[]⟩ (bl 2 0) (pp (fl aK (fl aC nn)) (tt k0 nn)))))
 | .h6 v2 v8 bZ bN aY aC bH bE bT bL bS aA aH=>(lb (fun k0=>(lo fun o0=>(lo fun o1=>(sl Kp 34 [] ⟨(List.range 11),[],sljN6,sljM6⟩ ⟨[],[.cells [.len (y9w aC v8 v2).length,.keep,.keep,.keep],.rowed 6 (y9w aC v8 v2).length (Zz (y9w aC v8 v2)),.keep,.keep,.keep,.keep,.keep,.keep,.keep,.keep,.keep],[]⟩ [true] (pp (xL aC.length (y9w aC v8 v2).length) (pp (xL aC.length (y9w aC v8 v2).length) (pp (xS aC.length (Xm (Zz aC) (0+(tn v8)) 5 [(ii v2)]) (Zz (y9w aC v8 v2))) (pp (pp (xF (Xm (Zz aC) (0+(tn v8)) 5 [(ii v2)])) (fl bS nn)) (ww o1 (ww o0 (tt k0 nn))))))))))) (fun k0=>(sl Kp 36 [] ⟨[2,3,4,5,0,6,7,8,9,1],[],j3c,j3d⟩ ⟨[],[],[]⟩ (bl 2 0) (pp (fl bS (fl aC nn)) (tt k0 nn)))))
theorem x8q (q:Op) (l0:List R6) (l1:List R6):Xv prog (Zy prog (nSl q)) (sljC q l0 l1) (Za prog (nSl q) [(.dat l0.length (Zz l0)),(.dat l1.length (Zz l1))] true []) (y3u q l0 l1):=by cases q <;> exact (lo fun bP=>(lb (fun k0=>(lr 12 3 [1,1,1,1,0] 1 16 [(4,.nils),(5,(ii (Zh (cvT l0))))] (sl Kp 42 [] ⟨[],[],[some [4,5]],[]⟩ ⟨[],[],[]⟩ [true] (tt k0 (pp (pp (xr l0) (xw bP)) nn))))) (fun k0=>(lo fun aI=>(lb (fun k1=>(lr 12 3 [1,1,1,1,0] 1 16 [(4,.nils),(5,(ii (Zh (cvT l1))))] (sl Kp 56 [] ⟨[],[],[some [4,5]],[]⟩ ⟨[],[],[]⟩ [false,true] (tt k1 (pp (pp (xr l1) (xw aI)) (tt k0 (pp (pp (xr l0) (xw bP)) nn))))))) (fun k1=>(sl Kp 108 [(3,1,Zz ([]:List Int))] ⟨[6,1,7,2,3,4,5,8],[],sljN0,sljM0⟩ ⟨[],[.keep,.keep,.cells [.grow 7 1],.keep,.keep,.keep,.keep,.keep],[]⟩ [false,false,true] (pp (fl ([]:List Int) nn) (tt k1 (pp (pp (xr l1) (xw aI)) (tt k0 (pp (pp (xr l0) (xw bP)) nn))))))))))))
theorem u0s (q:Op) (l0:List R6) (l1:List R6) (n:Nat) (vs:List AVal) (h:Zt (Yn q l0 l1) n (y3u q l0 l1)=.ret vs):Uv prog (Zy prog (nSl q)) (Za prog (nSl q) [(.dat l0.length (Zz l0)),(.dat l1.length (Zz l1))] true []) vs:=by have:=Ze (w7v q l0 l1) n _ (x8q q l0 l1);rwa [h] at this
theorem y0z (l:List R4):(Yo l == 0)= !(Yo l != 0):=by grind
def slS (q:Op) (a b:List R6) (x:Int):List R4:=rgJ q.k (Zm (D6.inn a x)) (Zm (D6.inn b x))
def slA (q:Op) (a b:List R6) (x:Int):Int:=bif Yo (D6.inn a x) != 0 then Yo (D6.inn a x) else bif Yo (D6.inn b x) != 0 then Yo (D6.inn b x) else rgE q (Zm (D6.inn a x)) (Zm (D6.inn b x))
theorem w4y {q:Op} {a b:List R4} (h:rgE q a b=0):z8v a=0∧z8v b=0∧(rgJ q.k a b).length ≤400:=by
 unfold rgE at h;cases g1:(z8v a != 0) with
 | true=>grind
 | false=>
  cases g2:(z8v b != 0) with
  | true=>grind
  | false=>
   rw [g1,g2,Aa,Aa] at h;unfold eJ at h;refine ⟨by grind,by grind,?_⟩;revert h;generalize z7p (rgA q a b) _ _ _=e;intro h;cases g3:(e != 0) with
   | true=>grind
   | false=>simp_all [y0d]
theorem x2j {q:Op} {a b:List R6} {x:Int} (h:slA q a b x=0):Yo (D6.inn a x)=0∧Yo (D6.inn b x)=0∧rgE q (Zm (D6.inn a x)) (Zm (D6.inn b x))=0:=by
 grind [slA]
theorem j3g (q:Op) (a b:List R6) (x:Int) (h:(slA q a b x != 0)=false):(slS q a b x).length ≤1000:=
 AE (w4y (x2j (by simpa using h)).2.2).2.2 (by omega)
section
variable (q:Op) (a b:List R6) (ha:a.length≤400) (hb:b.length≤400)
include ha hb
theorem u7k (i:Nat) (out:List R6) (last:List R4) (first fin x x':Int): ∀(k j:Nat) (acc:List R4),j+k=a.length→acc.length≤j→
  ∃n,∀N,Zt (Yn q a b) (N+n) (.to (.h3 (i:Int) (j:Int) out last first fin ((D6.cuts (a++b)).length) (Wy (Xk (D6.ends (a++b)))) x x' acc))=Zt (Yn q a b) N (.to (.h4 (i:Int) 0 out last first fin ((D6.cuts (a++b)).length) (Wy (Xk (D6.ends (a++b)))) x x' (acc++D6.inn (a.drop j) x) []))
 | 0,j,acc,h,h'=>by
  have _u:=ha;have _v:=hb;refine ⟨1,fun N=> ?_⟩;rw [As (by omega),show D6.inn ([]:List R6) x=[] from rfl,AC,Zw]
  grind [Yn]
 | k+1,j,acc,h,h'=>by
  have hj:j<a.length:=by omega
  obtain ⟨n,hn⟩:=u7k i out last first fin x x' k (j+1) (acc++D6.inn [rd a j] x) (by omega) (by have:=D6.inn_length [rd a j] x;grind)
  refine ⟨n+1,fun N=> ?_⟩;have e:D6.inn (a.drop j) x=D6.inn [rd a j] x++D6.inn (a.drop (j+1)) x:=by rw [Yg hj,←D6.inn_append];rfl
  rw [e,←AD,Zw,←AK,←hn N];by_cases h1:D6.lo (rd a j)≤x
  ·by_cases h2:x<D6.hi (rd a j)
   ·rw [D6.inn_t _ _ h1 h2];simp only [D6] at h1 h2 ⊢;simp (disch:=omega) only [Yn,Wz,Zc,Zq,Zs,Zo,Yc,Yv,Yj,Zf,Zk,Zx,Yb,Zj,Af,Ao,Ah,Ai,Ab,Aa]
   ·rw [D6.inn_f2 _ _ h2,AC];simp only [D6] at h1 h2;simp (disch:=omega) only [Yn,Wz,Ye,Zc,Zq,Zs,Zo,Yc,Yv,Yj,Zf,Zk,Zx,Yb,Zj,Af,Ao,Ah,Ai,Ab,Aa]
  ·rw [D6.inn_f1 _ _ h1,AC];simp only [D6] at h1;simp (disch:=omega) only [Yn,w2s,Zc,Zq,Zs,Zo,Yc,Yv,Yj,Zf,Zk,Zx,Yb,Zj,Af,Ao,Ah,Ai,Ab,Aa]
theorem u7j (i:Nat) (out:List R6) (last:List R4) (first fin x x':Int) (o1:List R4): ∀(k j:Nat) (acc:List R4),j+k=b.length→acc.length≤j→
  ∃n,∀N,Zt (Yn q a b) (N+n) (.to (.h4 (i:Int) (j:Int) out last first fin ((D6.cuts (a++b)).length) (Wy (Xk (D6.ends (a++b)))) x x' o1 acc))=Zt (Yn q a b) N (.to (.h4 (i:Int) (b.length:Int) out last first fin ((D6.cuts (a++b)).length) (Wy (Xk (D6.ends (a++b)))) x x' o1 (acc++D6.inn (b.drop j) x)))
 | 0,j,acc,h,h'=>by have _u:=ha;have _v:=hb;refine ⟨0,fun N=> ?_⟩;rw [As (by omega),show D6.inn ([]:List R6) x=[] from rfl,AC,Bg,show j=b.length by omega]
 | k+1,j,acc,h,h'=>by
  have hj:j<b.length:=by omega
  obtain ⟨n,hn⟩:=u7j i out last first fin x x' o1 k (j+1) (acc++D6.inn [rd b j] x) (by omega) (by have:=D6.inn_length [rd b j] x;grind)
  refine ⟨n+1,fun N=> ?_⟩;have e:D6.inn (b.drop j) x=D6.inn [rd b j] x++D6.inn (b.drop (j+1)) x:=by rw [Yg hj,←D6.inn_append];rfl
  rw [e,←AD,Zw,←AK,←hn N];by_cases h1:D6.lo (rd b j)≤x
  ·by_cases h2:x<D6.hi (rd b j)
   ·rw [D6.inn_t _ _ h1 h2];simp only [D6] at h1 h2 ⊢;simp (disch:=omega) only [Yn,Wz,Zc,Zq,Zs,Zo,Yc,Yv,Yj,Zf,Zk,Zx,Yb,Zj,Af,Ao,Ah,Ai,Ab,Aa]
   ·rw [D6.inn_f2 _ _ h2,AC];simp only [D6] at h1 h2;simp (disch:=omega) only [Yn,Wz,Ye,Zc,Zq,Zs,Zo,Yc,Yv,Yj,Zf,Zk,Zx,Yb,Zj,Af,Ao,Ah,Ai,Ab,Aa]
  ·rw [D6.inn_f1 _ _ h1,AC];simp only [D6] at h1;simp (disch:=omega) only [Yn,w2s,Zc,Zq,Zs,Zo,Yc,Yv,Yj,Zf,Zk,Zx,Yb,Zj,Af,Ao,Ah,Ai,Ab,Aa]
theorem u7i (i:Nat) (hi:i≤2000) (x x':Int) (s:List R4) (first:Int) (o1 o2:List R4) (hs:s.length≤1000): ∀(k j:Nat) (out:List R6),j+k=s.length→out.length≤10000000+j→
  ∃n,∀N,Zt (Yn q a b) (N+n) (.to (.h5 x x' s (s.length:Int) (j:Int) (i:Int) out first ((D6.cuts (a++b)).length) (Wy (Xk (D6.ends (a++b)))) o1 o2))=Zt (Yn q a b) N (.to (.h2 ((i+1:Nat):Int) (out++(s.drop j).map (D6.put x x')) s first x' ((D6.cuts (a++b)).length) (Wy (Xk (D6.ends (a++b))))))
 | 0,j,out,h,ho=>by
  have _u:=ha;have _v:=hb;refine ⟨1,fun N=> ?_⟩
  grind [Zw,Yn,Zk]
 | k+1,j,out,h,ho=>by
  obtain ⟨n,hn⟩:=u7i i hi x x' s first o1 o2 hs k (j+1) (out++[D6.put x x' (rd s j)]) (by omega) (by simp;omega)
  refine ⟨n+1,fun N=> ?_⟩;have:=hn N;rw [Yg (show j<s.length by omega),AU,←AD,Zw];simp (disch:=omega) only [Yn,Zc,Zq,Zs,Zo,Yc,Yv,Yj,Zf,Zk,Zx,Yb,Zj,Af,Ao,Ah,Ai,Ab,Aa];rw [AK] at this;exact this
theorem u7h (i:Nat) (hi:i≤2000) (x x' fin:Int) (s last:List R4) (first:Int) (o1 o2:List R4): ∀(k j:Nat) (out:List R6),j+k=out.length→out.length≤10000000→
  ∃n,∀N,Zt (Yn q a b) (N+n) (.to (.h6 x' (j:Int) x s (i:Int) out last first fin ((D6.cuts (a++b)).length) (Wy (Xk (D6.ends (a++b)))) o1 o2))=Zt (Yn q a b) N (.to (.h2 ((i+1:Nat):Int) (D6.grow out j x') last first x' ((D6.cuts (a++b)).length) (Wy (Xk (D6.ends (a++b))))))
 | 0,j,out,h,ho=>by
  have _u:=ha;have _v:=hb;refine ⟨1,fun N=> ?_⟩;rw [D6.grow_nil _ _ _ (by omega),Zw]
  grind [Yn,Zk]
 | k+1,j,out,h,ho=>by
  obtain ⟨n,hn⟩:=u7h i hi x x' fin s last first o1 o2 k (j+1) (out.set j (D6.ext x' (rd out j))) (by simp;omega) (by grind)
  refine ⟨n+1,fun N=> ?_⟩;have:=hn N;rw [D6.grow_set out j _ (by omega)] at this;rw [←AD,Zw];simp (disch:=omega) only [Yn,Zc,Zq,Zs,Zo,Yc,Yv,Yj,Zf,Zk,Zx,Yb,Zj,Af,Ao,Ah,Ai,Ab,Aa];exact this
theorem v3l : ∀(k i:Nat) (s:Sw R6 R4),k=(D6.cuts (a++b)).length - 1 - i→i≤(D6.cuts (a++b)).length →s.out.length≤i*1000→s.last.length≤1000→s.first≤s.out.length→
  ∃n,Zt (Yn q a b) n (.to (.h2 ((i+1:Nat):Int) s.out s.last (s.first:Int) s.fin ((D6.cuts (a++b)).length) (Wy (Xk (D6.ends (a++b))))))=.ret (z8w (eJ (z7p (slA q a b) (D6.cuts (a++b)) k i) (D6.goS (slS q a b) (D6.cuts (a++b)) k i s).out.length) (D6.goS (slS q a b) (D6.cuts (a++b)) k i s).out)
 | 0,i,s,h,hi,ho,hla,hf=>by
  have _u:=ha;have _v:=hb;have hc:=D6.cuts_length (a++b);refine ⟨1,?_⟩;rw [Zw,show D6.goS (slS q a b) (D6.cuts (a++b)) 0 i s=s from rfl,show z7p (slA q a b) (D6.cuts (a++b)) 0 i=0 from rfl,w4z]
  grind [Qw,Yn,Zp]
 | k +1,i,s,h,hi,ho,hla,hf=>by
  have hc:=D6.cuts_length (a++b);rw [AP] at hc;have hi1:i+1<(D6.cuts (a++b)).length :=by omega
  have hpl:(Wy (Xk (D6.ends (a++b)))).length =2*(a.length+b.length):=by rw [Uw,Vg,D6.ends_length,AP]
  have r0:rd (Wy (Xk (D6.ends (a++b)))) i=rd (D6.cuts (a++b)) i:=z4n _ _ (by show i<(D6.cuts (a++b)).length;omega);have r1:rd (Wy (Xk (D6.ends (a++b)))) (i+1)=rd (D6.cuts (a++b)) (i+1):=z4n _ _ (by show i+1<(D6.cuts (a++b)).length;omega);have hbig:i*1000≤2000*1000:=AA _ (by omega);have hgo:D6.goS (slS q a b) (D6.cuts (a++b)) (k+1) i s=D6.goS (slS q a b) (D6.cuts (a++b)) k (i+1) (D6.oneS (slS q a b (rd (D6.cuts (a++b)) i)) (rd (D6.cuts (a++b)) i) (rd (D6.cuts (a++b)) (i+1)) s):=rfl;have hfe: ∀x,x=rd (D6.cuts (a++b)) i→(slA q a b x != 0)=false→z7p (slA q a b) (D6.cuts (a++b)) (k+1) i=z7p (slA q a b) (D6.cuts (a++b)) k (i+1):=fun x hx z=>by
   show (bif slA q a b (rd (D6.cuts (a++b)) i) != 0 then _ else _)=_
   grind
  revert hgo hfe r0;generalize hx:rd (D6.cuts (a++b)) i=x;generalize hx':rd (D6.cuts (a++b)) (i+1)=x' at r1;intro r0 hgo hfe;obtain ⟨n3,h3⟩:=u7k q a b ha hb (i+1) s.out s.last (s.first:Int) s.fin x x' a.length 0 [] (Af _) (Aq _);simp only [AS,A9,z4a] at h3;obtain ⟨n4,h4⟩:=u7j q a b ha hb (i+1) s.out s.last (s.first:Int) s.fin x x' (D6.inn a x) b.length 0 [] (Af _) (Aq _);simp only [AS,A9,z4a] at h4;have st0: ∀N,Zt (Yn q a b) (N+n4+n3+1) (.to (.h2 ((i+1:Nat):Int) s.out s.last (s.first:Int) s.fin ((D6.cuts (a++b)).length) (Wy (Xk (D6.ends (a++b))))))=Zt (Yn q a b) N (.to (.h4 ((i+1:Nat):Int) (b.length:Int) s.out s.last (s.first:Int) s.fin ((D6.cuts (a++b)).length) (Wy (Xk (D6.ends (a++b)))) x x' (D6.inn a x) (D6.inn b x))):=fun N=>by
   rw [←h4 N,←h3 (N+n4),Zw];have e1:wrap .i64 (((i+1:Nat):Int) - 1)=(i:Int):=by rw [Yz];exact Zk (by omega)
   simp (disch:=omega) only [Yn,e1,r0,r1,Zc,Zq,Zs,Zo,Yc,Yv,Yj,Zf,Zk,Zx,Yb,Zj,Af,Ao,Ah,Ai,Ab,Aa]
  have w1:Uq (D6.inn a x)=true:=rfl;have w3:Uq (D6.inn b x)=true:=rfl;have w4:Kw q (Zm (D6.inn a x)) (Zm (D6.inn b x))=true:=rfl;rcases Yw (slA q a b x != 0) with z | z
  ·refine ⟨1+n4+n3+1,?_⟩;rw [st0 1,Zw];have e:z7p (slA q a b) (D6.cuts (a++b)) (k+1) i=slA q a b x:=by show (bif slA q a b (rd (D6.cuts (a++b)) i) != 0 then slA q a b (rd (D6.cuts (a++b)) i) else _)=_;grind
   rw [e,show eJ (slA q a b x) _=slA q a b x by unfold eJ;rw [z];rfl,Vn _ z];unfold slA at z ⊢;rcases Yw (Yo (D6.inn a x) != 0) with y1 | y1
   ·simp (disch:=omega) only [Yn,Ye,y0z,y1,Aw,w1,w3,w4,Zc,Zq,Zs,Zo,Yc,Yv,Yj,Zf,Zk,Zx,Yb,Zj,Af,Ao,Ah,Ai,Ab,Aa,Zp]
   ·rcases Yw (Yo (D6.inn b x) != 0) with y2 | y2
    ·simp (disch:=omega) only [Yn,Ye,y0z,y1,y2,Aw,Az,w1,w3,w4,Zc,Zq,Zs,Zo,Yc,Yv,Yj,Zf,Zk,Zx,Yb,Zj,Af,Ao,Ah,Ai,Ab,Aa,Zp]
    ·rw [y1,y2,Aa,Aa] at z;have z':(Ko q (Zm (D6.inn a x)) (Zm (D6.inn b x)) != 0)=true:=z;simp (disch:=omega) only [Yn,Ye,y0z,y1,y2,z',Az,w1,w3,w4,Zc,Zq,Zs,Zo,Yc,Yv,Yj,Zf,Zk,Zx,Yb,Zj,Af,Ao,Ah,Ai,Ab,Aa,Zp];rfl
  obtain ⟨y1,y2,y3⟩:=x2j (show slA q a b x=0 by simpa using z);have y1:(Yo (D6.inn a x) == 0)=true:=by rw [y1];rfl
  have y2:(Yo (D6.inn b x) == 0)=true:=by rw [y2];rfl
  have z':(Ko q (Zm (D6.inn a x)) (Zm (D6.inn b x)) != 0)=false:=by show (rgE q _ _ != 0)=false;rw [y3];rfl
  have v:Wg q (Zm (D6.inn a x)) (Zm (D6.inn b x))=slS q a b x:=x6q _ z';have hsl:=j3g q a b x z;have w2:Wv s.last (slS q a b x)=true:=An (by omega);rw [hgo,hfe x rfl z];have ol:(D6.oneS (slS q a b x) x x' s).out.length ≤s.out.length+(slS q a b x).length :=by
   grind [Dim.oneS,Dim.grow_length]
  rcases Yw (decide (0<(slS q a b x).length)&&((s.fin == x)&&D6.same s.last (slS q a b x))) with g | g
  ·obtain ⟨n6,h6⟩:=u7h q a b ha hb (i+1) (by omega) x x' s.fin (slS q a b x) s.last (s.first:Int) (D6.inn a x) (D6.inn b x) (s.out.length - s.first) s.first s.out (by omega) (by omega)
   have e:D6.oneS (slS q a b x) x x' s=⟨D6.grow s.out s.first x',s.last,s.first,x'⟩:=by unfold Dim.oneS;rw [g];rfl
   obtain ⟨n0,h0⟩:=v3l k (i+1) (D6.oneS (slS q a b x) x x' s) (by omega) (by omega) (by omega) (by grind) (by grind [Dim.grow_length]);refine ⟨n0+n6+1+n4+n3+1,?_⟩;rw [st0 (n0+n6+1),Zw];simp only [Ae,At] at g;obtain ⟨g1,g2,g3⟩:=g;have g3':Vh s.last (slS q a b x)=true:=g3;simp (disch:=omega) only [Yn,Ye,Ys,y1,y2,z',v,g2,g3',w1,w3,w4,w2,Zc,Zq,Zs,Zo,Yc,Yv,Yj,Zf,Zk,Zx,Yb,Zj,Af,Ao,Ah,Ai,Ab,Aa]
   grind
  ·obtain ⟨n5,h5⟩:=u7i q a b ha hb (i+1) (by omega) x x' (slS q a b x) (s.out.length:Int) (D6.inn a x) (D6.inn b x) hsl (slS q a b x).length 0 s.out (Af _) (by omega);simp only [AS,z4a] at h5;have e:D6.oneS (slS q a b x) x x' s=⟨s.out++(slS q a b x).map (D6.put x x'),slS q a b x,s.out.length,x'⟩:=by unfold Dim.oneS;rw [g];rfl
   obtain ⟨n0,h0⟩:=v3l k (i+1) (D6.oneS (slS q a b x) x x' s) (by omega) (by omega) (by omega) (by grind) (by rw [e];simp);have hg:Zt (Yn q a b) 1 (.to (.h4 ((i+1:Nat):Int) (b.length:Int) s.out s.last (s.first:Int) s.fin ((D6.cuts (a++b)).length) (Wy (Xk (D6.ends (a++b)))) x x' (D6.inn a x) (D6.inn b x)))=.to (.h5 x x' (slS q a b x) ((slS q a b x).length :Int) 0 ((i+1:Nat):Int) s.out (s.out.length:Int) ((D6.cuts (a++b)).length) (Wy (Xk (D6.ends (a++b)))) (D6.inn a x) (D6.inn b x)):=by
    rw [show (1:Nat)=0+1 from rfl,Zw];have e3:D6.same s.last (slS q a b x)=Vh s.last (slS q a b x):=rfl;rw [e3] at g;by_cases g1:0<(slS q a b x).length
    ·rw [An g1,Ai] at g;rcases Yw (s.fin == x) with g2 | g2
     ·rw [g2,Ai] at g;simp (disch:=omega) only [Yn,Ye,Ys,y1,y2,z',v,g2,g,w1,w3,w4,w2,Zc,Zq,Zs,Zo,Yc,Yv,Yj,Zf,Zk,Zx,Yb,Zj,Af,Ao,Ah,Ai,Ab,Aa];rfl
     ·simp (disch:=omega) only [Yn,Ye,Ys,y1,y2,z',v,g2,w1,w3,w4,w2,Zc,Zq,Zs,Zo,Yc,Yv,Yj,Zf,Zk,Zx,Yb,Zj,Af,Ao,Ah,Ai,Ab,Aa];rfl
    ·simp (disch:=omega) only [Yn,Ye,Xt,y1,y2,z',v,w1,w3,w4,w2,Zc,Zq,Zs,Zo,Yc,Yv,Yj,Zf,Zk,Zx,Yb,Zj,Af,Ao,Ah,Ai,Ab,Aa];rfl
   refine ⟨n0+n5+1+n4+n3+1,?_⟩;simp_all [z5n]
theorem u7l : ∀(k i:Nat) (acc:List Int),i+k=b.length→acc=D6.ends (a++b.take i)→ ∃n,Zt (Yn q a b) n (.to (.h1 (i:Int) acc))=.ret (z8w (eJ (z7p (slA q a b) (D6.cuts (a++b)) ((D6.cuts (a++b)).length - 1) 0) (D6.goS (slS q a b) (D6.cuts (a++b)) ((D6.cuts (a++b)).length - 1) 0 ⟨[],[],0,0⟩).out.length) (D6.goS (slS q a b) (D6.cuts (a++b)) ((D6.cuts (a++b)).length - 1) 0 ⟨[],[],0,0⟩).out)
 | 0,i,acc,h,h'=>by
  have _u:=ha;have _v:=hb;have e:acc=D6.ends (a++b):=by grind
  subst e;have hle:=D6.ends_length (a++b);rw [AP] at hle;obtain ⟨n,hn⟩:=v3l q a b ha hb ((D6.cuts (a++b)).length - 1) 0 ⟨[],[],0,0⟩ (by omega) (Ay _) (Ay _) (Ay _) (Ay _);refine ⟨n+1,?_⟩;rw [Zw];simp (disch:=omega) only [Yn,Jq,Qq,z7w,Ye,Yv,Yj,Ao,Ab,Aa];exact hn
 | k+1,i,acc,h,h'=>by
  have hle:acc.length≤2*(400+i):=by rw [h',D6.ends_length];grind
  obtain ⟨n,hn⟩:=u7l k (i+1) (acc++D6.ends [rd b i]) (by omega) (by
   rw [h',AX]
   grind [Yr,Dim.ends])
  refine ⟨n+1,?_⟩;rw [Zw];simp (disch:=omega) only [Yn,Zc,Zq,Zs,Zo,Yc,Yv,Yj,Zf,Zk,Zx,Yb,Zj,Af,Ao,Ah,Ai,Ab,Aa];exact hn
theorem u7m : ∀(k i:Nat) (acc:List Int),i+k=a.length→acc=D6.ends (a.take i)→ ∃n,Zt (Yn q a b) n (.to (.h0 (i:Int) acc))=.ret (z8w (eJ (z7p (slA q a b) (D6.cuts (a++b)) ((D6.cuts (a++b)).length - 1) 0) (D6.goS (slS q a b) (D6.cuts (a++b)) ((D6.cuts (a++b)).length - 1) 0 ⟨[],[],0,0⟩).out.length) (D6.goS (slS q a b) (D6.cuts (a++b)) ((D6.cuts (a++b)).length - 1) 0 ⟨[],[],0,0⟩).out)
 | 0,i,acc,h,h'=>by
  have _u:=ha;have _v:=hb;obtain ⟨n,hn⟩:=u7l q a b ha hb b.length 0 acc (Af _) (by grind);refine ⟨n+1,?_⟩
  grind [Zw,Yn]
 | k+1,i,acc,h,h'=>by
  have hle:acc.length≤2*(400+i):=by rw [h',D6.ends_length];grind
  obtain ⟨n,hn⟩:=u7m k (i+1) (acc++D6.ends [rd a i]) (by omega) (by
   rw [h',AX]
   grind [Yr,Dim.ends])
  refine ⟨n+1,?_⟩;rw [Zw];simp (disch:=omega) only [Yn,Zc,Zq,Zs,Zo,Yc,Yv,Yj,Zf,Zk,Zx,Yb,Zj,Af,Ao,Ah,Ai,Ab,Aa];exact hn
end
def slJ (q:Op) (a b:List R6):List R6:=(D6.goS (slS q a b) (D6.cuts (a++b)) ((D6.cuts (a++b)).length - 1) 0 ⟨[],[],0,0⟩).out
def slE (q:Op) (a b:List R6):Int:=bif Zh a != 0 then Zh a else bif Zh b != 0 then Zh b else eJ (z7p (slA q a b) (D6.cuts (a++b)) ((D6.cuts (a++b)).length - 1) 0) (slJ q a b).length
def Qz (q:Op) (a b:List R6):List R6:=y7s (slE q a b) (slJ q a b)
def z1o (q:Op) (a b:List R6):Int:=slE q a b
def z1v (q:Op) (a b:List R6):Bool:=true
theorem z5w {l:List R6} (h:(Zh l != 0)=false):l.length≤400:=by
 grind [Zh]
theorem sl_run (q:Op) (a b:List R6) (h:z1v q a b=true): ∃n,Zt (Yn q a b) n (y3u q a b)=.ret (z8w (slE q a b) (slJ q a b)):=by
 unfold y3u;have o: ∀l,Wt l=true:=fun _=>rfl;simp only [Zc,o,Ab];rcases Yw (Zh a != 0) with q1 | q1
 ·exact ⟨0,by simp only [slE,q1,Ab,Vn _ q1];rfl⟩
 rcases Yw (Zh b != 0) with q2 | q2
 ·exact ⟨0,by simp only [slE,q1,q2,Ab,Aa,Vn _ q2];rfl⟩
 obtain ⟨n,hn⟩:=u7m q a b (z5w q1) (z5w q2) a.length 0 [] (Af _) rfl;refine ⟨n,?_⟩;simp only [slE,q1,q2,Aa];exact hn
def fSl (q:Op):List AVal→Option (AVal×Bool)
 | [a0,a1]=>match asL R6 a0,asL R6 a1 with
  | some (L0,g0,n0),some (L1,g1,n1)=>some (.tup [.dat (Qz q L0 L1).length (Zz (Qz q L0 L1)),.int .i64 (z1o q L0 L1)],isT R6 n0 g0&&(isT R6 n1 g1&&(z1v q L0 L1)))
  | _,_=>none
 | _=>none
theorem v7v (q:Op) {S:Specs} (hS:Zu prog S):Zu prog (S.with (nSl q) (fSl q)):=by
 refine w6l hS (by cases q <;> kernel_rfl) fun args v h=> ?_;unfold fSl at h;split at h
 ·rename_i a0 a1;split at h
  ·rename_i L0 g0 n0 L1 g1 n1 e0 e1;simp only [Ad,Ac,Ae] at h;obtain ⟨rfl,ho0,ho1,hw⟩:=h;obtain ⟨N,hN⟩:=sl_run q L0 L1 hw;exact ⟨_,_,(.cons (Yh e0 ho0) (.cons (Yh e1 ho1) .nil)),z0n _ _,u0s q L0 L1 N _ hN,3,z5f _ _⟩
  ·cases h
 ·cases h
structure R7 where
 (a b c d e f g:Int)
instance : Xa R7 where
 w:=7
 d:=⟨0,0,0,0,0,0,0⟩
 cells x:=[.int .u8 x.a,.int .i64 x.b,.int .i64 x.c,.int .i64 x.d,.int .i64 x.e,.int .i64 x.f,.int .i64 x.g]
 of l:=⟨iOf (l.getD 0 .undef),iOf (l.getD 1 .undef),iOf (l.getD 2 .undef),iOf (l.getD 3 .undef),iOf (l.getD 4 .undef),iOf (l.getD 5 .undef),iOf (l.getD 6 .undef)⟩
 len _:=rfl
 pos:=by decide
 flat _:=rfl
 sc _:=rfl
 back _:=rfl
inductive Ax where
 | x | y | z
def Ax.lo (q:Ax) (r:R6):Int:=match q with
 | .x =>r.a
 | .y =>r.b
 | .z =>r.c
def Ax.hi (q:Ax) (r:R6):Int:=match q with
 | .x =>r.d
 | .y =>r.e
 | .z =>r.f
def Ax.rc (q:Ax) (r:R6):R4:=match q with
 | .x =>⟨r.b,r.c,r.e,r.f⟩
 | .y =>⟨r.a,r.c,r.d,r.f⟩
 | .z =>⟨r.a,r.b,r.d,r.e⟩
def Ax.ix (q:Ax):Int:=match q with
 | .x =>0
 | .y =>1
 | .z =>2
def z6u (q:Ax) (L:List R6) (p:Int):List R4:=(L.filter fun r=>decide (q.lo r≤p)&&decide (p<q.hi r)).map q.rc
structure Pa where
 (a b c d e f:Int)
 s:List R6
instance : Xa Pa where
 w:=7
 d:=⟨0,0,0,0,0,0,[]⟩
 cells x:=[.int .i64 x.a,.int .i64 x.b,.int .i64 x.c,.int .i64 x.d,.int .i64 x.e,.int .i64 x.f,.dat x.s.length (Zz x.s)]
 of l:=⟨iOf (l.getD 0 .undef),iOf (l.getD 1 .undef),iOf (l.getD 2 .undef),iOf (l.getD 3 .undef),iOf (l.getD 4 .undef),iOf (l.getD 5 .undef),match l.getD 6 .undef with
  | .dat n g=>lst R6 n g
  | _=>[]⟩
 len _:=rfl
 pos:=by decide
 flat _:=rfl
 sc _:=rfl
 back x:=by show Pa.mk x.a x.b x.c x.d x.e x.f (lst R6 x.s.length (Zz x.s))=x;rw [Zq]
abbrev j0u :Nat:=81
abbrev nFlat :Nat:=82
abbrev nBack :Nat:=80
abbrev w5k :Nat:=54
abbrev j0l :Nat:=56
abbrev nSCut :Nat:=47
abbrev v6n :Nat:=20
abbrev v6j :Nat:=44
abbrev v6m :Nat:=14
abbrev nSkin :Nat:=16
abbrev nStep :Nat:=18
abbrev nRvb :Nat:=60
abbrev nRcm :Nat:=61
abbrev nRib :Nat:=30
abbrev nRlc :Nat:=21
abbrev nRln :Nat:=9
abbrev j0m :Nat:=29
abbrev v6o :Nat:=23
abbrev v6s :Nat:=26
abbrev w5q :Nat:=64
abbrev w5o :Nat:=37
def Va :Specs:=((Ud.with (nSl .u) (fSl .u)).with (nSl .e) (fSl .e)).with (nSl .d) (fSl .d)
theorem Xj :Zu prog Va:=v7v .d (v7v .e (v7v .u Kp))
inductive finS where
def finC (aJ:Int) (aO:Int) (aN:Int):finS→Cfg
 :=nofun
def w2g (aJ:Int) (aO:Int) (aN:Int):finS→Xw finS
 :=nofun
def y5e (aJ:Int) (aO:Int) (aN:Int):Xw finS:=(bif (decide ((Ke (Ke aJ aO) aN)≥(-1000000))) then (.ret [(.bool (decide ((Kf (Kf aJ aO) aN)≤1000000)))]) else (.ret [(.bool false)]))
theorem v0k (aJ:Int) (aO:Int) (aN:Int): ∀s,Xv prog (Zy prog 101) (finC aJ aO aN) (finC aJ aO aN s) (w2g aJ aO aN s)
 :=nofun
theorem w2h (aJ:Int) (aO:Int) (aN:Int):Xv prog (Zy prog 101) (finC aJ aO aN) (Za prog 101 [(.agg [(.int .i64 aJ),(.int .i64 aO),(.int .i64 aN)])] true []) (y5e aJ aO aN):=(lb (fun k0=>(lr 21 3 [1,1,1,1,0] 1 9 [(2,(.bool (decide ((Kf (Kf aJ aO) aN)≤1000000))))] (sl Xj 27 [] ⟨[],[],[some [2]],[]⟩ ⟨[],[],[]⟩ (trs 8 []) (tt k0 nn)))) (fun k0=>(lr 21 3 [1,1,1,1,0] 1 9 [(2,(.bool false))] (sl Xj 27 [] ⟨[],[],[some [2]],[]⟩ ⟨[],[],[]⟩ [false,false,false,false,false,false,false,false] (tt k0 nn)))))
theorem u4z (aJ:Int) (aO:Int) (aN:Int) (n:Nat) (vs:List AVal) (h:Zt (w2g aJ aO aN) n (y5e aJ aO aN)=.ret vs):Uv prog (Zy prog 101) (Za prog 101 [(.agg [(.int .i64 aJ),(.int .i64 aO),(.int .i64 aN)])] true []) vs:=by have:=Ze (v0k aJ aO aN) n _ (w2h aJ aO aN);rwa [h] at this
-- start: index into an array (choices [false, false, false])
inductive marS where
def marC (aJ:Int) (aO:Int) (aN:Int) (aQ:Int) (aW:Int) (aV:Int) (cX:Int):marS→Cfg
 :=nofun
def w0x (aJ:Int) (aO:Int) (aN:Int) (aQ:Int) (aW:Int) (aV:Int) (cX:Int):marS→Xw marS
 :=nofun
def y4u (aJ:Int) (aO:Int) (aN:Int) (aQ:Int) (aW:Int) (aV:Int) (cX:Int):Xw marS:=(bif (decide ((wrap IntKind.u8 (Int.tdiv aJ 2))=Int.ofNat 0)) then (.ret [(.int .i64 (wrap .i64 ((wrap .i64 (aV - aN))*(wrap .i64 (cX - aQ)))))]) else (bif (decide ((wrap IntKind.u8 (Int.tdiv aJ 2))=Int.ofNat 1)) then (.ret [(.int .i64 (wrap .i64 ((wrap .i64 (aW - aO))*(wrap .i64 (cX - aQ)))))]) else (bif (decide ((wrap IntKind.u8 (Int.tdiv aJ 2))=Int.ofNat 2)) then (.ret [(.int .i64 (wrap .i64 ((wrap .i64 (aW - aO))*(wrap .i64 (aV - aN)))))]) else .stuck)))
theorem w9o (aJ:Int) (aO:Int) (aN:Int) (aQ:Int) (aW:Int) (aV:Int) (cX:Int): ∀s,Xv prog (Zy prog 70) (marC aJ aO aN aQ aW aV cX) (marC aJ aO aN aQ aW aV cX s) (w0x aJ aO aN aQ aW aV cX s)
 :=nofun
theorem w0y (aJ:Int) (aO:Int) (aN:Int) (aQ:Int) (aW:Int) (aV:Int) (cX:Int):Xv prog (Zy prog 70) (marC aJ aO aN aQ aW aV cX) (Za prog 70 [(.agg [(.int .u8 aJ),(.int .i64 aO),(.int .i64 aN),(.int .i64 aQ),(.int .i64 aW),(.int .i64 aV),(.int .i64 cX)])] true []) (y4u aJ aO aN aQ aW aV cX):=(lb (fun k0=>(lr 25 3 [1,1,1,1,0] 1 9 [(2,(ii (wr ((wr (aV - aN))*(wr (cX - aQ))))))] (sl Xj 22 [] ⟨[],[],[some [2]],[]⟩ ⟨[],[],[]⟩ [false] (ww k0 nn)))) (fun k0=>(lb (fun k1=>(lr 25 3 [1,1,1,1,0] 1 9 [(2,(ii (wr ((wr (aW - aO))*(wr (cX - aQ))))))] (sl Xj 22 [] ⟨[],[],[some [2]],[]⟩ ⟨[],[],[]⟩ [true,false] (ww k1 nn)))) (fun k1=>(lb (fun k2=>(lr 25 3 [1,1,1,1,0] 1 9 [(2,(ii (wr ((wr (aW - aO))*(wr (aV - aN))))))] (sl Xj 22 [] ⟨[],[],[some [2]],[]⟩ ⟨[],[],[]⟩ [true,true,false] (ww k2 nn)))) (fun k2=>trivial))))))
theorem u3z (aJ:Int) (aO:Int) (aN:Int) (aQ:Int) (aW:Int) (aV:Int) (cX:Int) (n:Nat) (vs:List AVal) (h:Zt (w0x aJ aO aN aQ aW aV cX) n (y4u aJ aO aN aQ aW aV cX)=.ret vs):Uv prog (Zy prog 70) (Za prog 70 [(.agg [(.int .u8 aJ),(.int .i64 aO),(.int .i64 aN),(.int .i64 aQ),(.int .i64 aW),(.int .i64 aV),(.int .i64 cX)])] true []) vs:=by have:=Ze (w9o aJ aO aN aQ aW aV cX) n _ (w0y aJ aO aN aQ aW aV cX);rwa [h] at this
inductive svoS where
 | h0 (v5:Int) (v18:Int)
def svoC (l0:List R6):svoS→Cfg
 | .h0 v5 v18=>⟨⟨37,0,true⟩,none,(Zg prog 63 [1,1,1,0,1,0,0] 0),none,(Zy prog 14),⟨Yk [(5,(ii v5)),(16,(.dat l0.length (Zz l0))),(17,(ii (l0.length:Int))),(18,(ii v18))],Vv [] 0,0,[],true⟩,[],.leaf⟩
def svoN0 :List (Option (List Nat)):=[some [5,16,17,18]]
def svoM0 :List (Option (List Nat)):=[]
def y0p (l0:List R6):svoS→Xw svoS
 | .h0 v5 v18=>(bif (decide (v18<(l0.length:Int))) then (bif ((decide (0≤v18∧v18<(l0.length:Int)))&&true) then (.to (.h0 (wrap .i64 (v5+(wrap .i64 ((wrap .i64 ((wrap .i64 ((rd l0 v18.toNat).d - (rd l0 v18.toNat).a))*(wrap .i64 ((rd l0 v18.toNat).e - (rd l0 v18.toNat).b))))*(wrap .i64 ((rd l0 v18.toNat).f - (rd l0 v18.toNat).c)))))) (wrap .i64 (v18+1)))) else .stuck) else (.ret [(.int .i64 v5),(.int .i64 0)]))
def y3p (l0:List R6):Xw svoS:=(bif (Wt (cvT l0)) then (bif ((Zh (cvT l0)) != 0) then (.ret [(.int .i64 0),(.int .i64 (Zh (cvT l0)))]) else (.to (.h0 0 0))) else .stuck)
theorem w7g (l0:List R6): ∀s,Xv prog (Zy prog 63) (svoC l0) (svoC l0 s) (y0p l0 s)
 | .h0 v5 v18=>(lb (fun k0=>(lo fun o0=>(sl Xj 54 [] ⟨[],[],svoN0,svoM0⟩ ⟨[],[],[]⟩ [true] (ww o0 (tt k0 nn))))) (fun k0=>(lr 37 3 [1,1,1,1,0] 1 14 [(2,(ii v5)),(3,(ii 0))] (sl Xj 13 [] ⟨[],[],[some [2,3]],[]⟩ ⟨[],[],[]⟩ [false] (tt k0 nn)))))
theorem x8d (l0:List R6):Xv prog (Zy prog 63) (svoC l0) (Za prog 63 [(.dat l0.length (Zz l0))] true []) (y3p l0):=(lo fun bP=>(lb (fun k0=>(lr 37 63 [1,0,1,1,0,0] 1 14 [(2,(ii 0)),(3,(ii (Zh (cvT l0))))] (sl Xj 24 [] ⟨[],[],[some [2,3]],[]⟩ ⟨[],[],[]⟩ [true] (tt k0 (pp (pp (xr l0) (xw bP)) nn))))) (fun k0=>(sl Xj 32 [] ⟨[],[],svoN0,svoM0⟩ ⟨[],[],[]⟩ [false] (tt k0 (pp (pp (xr l0) (xw bP)) nn))))))
theorem u0h (l0:List R6) (n:Nat) (vs:List AVal) (h:Zt (y0p l0) n (y3p l0)=.ret vs):Uv prog (Zy prog 63) (Za prog 63 [(.dat l0.length (Zz l0))] true []) vs:=by have:=Ze (w7g l0) n _ (x8d l0);rwa [h] at this
-- start: index into an array (choices [false, false, false])
inductive algS where
def algC (aJ:Int) (aS:Int) (aU:Int) (aT:Int):algS→Cfg
 :=nofun
def w3l (aJ:Int) (aS:Int) (aU:Int) (aT:Int):algS→Xw algS
 :=nofun
def y5o (aJ:Int) (aS:Int) (aU:Int) (aT:Int):Xw algS:=(bif (decide (aJ=Int.ofNat 0)) then (.ret [(.int .i64 aS)]) else (bif (decide (aJ=Int.ofNat 1)) then (.ret [(.int .i64 aU)]) else (bif (decide (aJ=Int.ofNat 2)) then (.ret [(.int .i64 aT)]) else .stuck)))
theorem v1i (aJ:Int) (aS:Int) (aU:Int) (aT:Int): ∀s,Xv prog (Zy prog 81) (algC aJ aS aU aT) (algC aJ aS aU aT s) (w3l aJ aS aU aT s)
 :=nofun
theorem w3m (aJ:Int) (aS:Int) (aU:Int) (aT:Int):Xv prog (Zy prog 81) (algC aJ aS aU aT) (Za prog 81 [(.agg [(.int .i64 aJ)]),(.agg [(.int .i64 aS),(.int .i64 aU),(.int .i64 aT)])] true []) (y5o aJ aS aU aT):=(lb (fun k0=>(lr 15 3 [1,1,1,1,0] 1 6 [(4,(ii aS))] (sl Xj 20 [] ⟨[],[],[some [4]],[]⟩ ⟨[],[],[]⟩ [false] (ww k0 nn)))) (fun k0=>(lb (fun k1=>(lr 15 3 [1,1,1,1,0] 1 6 [(4,(ii aU))] (sl Xj 20 [] ⟨[],[],[some [4]],[]⟩ ⟨[],[],[]⟩ [true,false] (ww k1 nn)))) (fun k1=>(lb (fun k2=>(lr 15 3 [1,1,1,1,0] 1 6 [(4,(ii aT))] (sl Xj 20 [] ⟨[],[],[some [4]],[]⟩ ⟨[],[],[]⟩ [true,true,false] (ww k2 nn)))) (fun k2=>trivial))))))
theorem u6c (aJ:Int) (aS:Int) (aU:Int) (aT:Int) (n:Nat) (vs:List AVal) (h:Zt (w3l aJ aS aU aT) n (y5o aJ aS aU aT)=.ret vs):Uv prog (Zy prog 81) (Za prog 81 [(.agg [(.int .i64 aJ)]),(.agg [(.int .i64 aS),(.int .i64 aU),(.int .i64 aT)])] true []) vs:=by have:=Ze (v1i aJ aS aU aT) n _ (w3m aJ aS aU aT);rwa [h] at this
-- start: index into an array (choices [false, false, false, false])
inductive fltS where
def fltC (aJ:Int) (aS:Int) (aU:Int) (aT:Int):fltS→Cfg
 :=nofun
def w2d (aJ:Int) (aS:Int) (aU:Int) (aT:Int):fltS→Xw fltS
 :=nofun
def y5d (aJ:Int) (aS:Int) (aU:Int) (aT:Int):Xw fltS:=(bif (aJ == 0) then (.ret [(.int .i64 aU),(.int .i64 aT)]) else (bif (decide (aJ=Int.ofNat 0)) then (.ret [(.int .i64 aS),(.int .i64 0)]) else (bif (decide (aJ=Int.ofNat 1)) then (.ret [(.int .i64 aS),(.int .i64 aT)]) else (bif (decide (aJ=Int.ofNat 2)) then (.ret [(.int .i64 aS),(.int .i64 aU)]) else .stuck))))
theorem v0h (aJ:Int) (aS:Int) (aU:Int) (aT:Int): ∀s,Xv prog (Zy prog 82) (fltC aJ aS aU aT) (fltC aJ aS aU aT s) (w2d aJ aS aU aT s)
 :=nofun
theorem w2e (aJ:Int) (aS:Int) (aU:Int) (aT:Int):Xv prog (Zy prog 82) (fltC aJ aS aU aT) (Za prog 82 [(.agg [(.int .i64 aJ)]),(.agg [(.int .i64 aS),(.int .i64 aU),(.int .i64 aT)])] true []) (y5d aJ aS aU aT):=(lb (fun k0=>(lr 23 82 [1,0,1,0,0] 1 16 [(4,(ii aU)),(5,(ii aT))] (sl Xj 17 [] ⟨[],[],[some [4,5]],[]⟩ ⟨[],[],[]⟩ [true] (tt k0 nn)))) (fun k0=>(lb (fun k1=>(lr 23 3 [1,1,1,1,0] 1 16 [(4,(ii aS)),(5,(ii 0))] (sl Xj 18 [] ⟨[],[],[some [4,5]],[]⟩ ⟨[],[],[]⟩ [false,false] (ww k1 (tt k0 nn))))) (fun k1=>(lb (fun k2=>(lr 23 3 [1,1,1,1,0] 1 16 [(4,(ii aS)),(5,(ii aT))] (sl Xj 18 [] ⟨[],[],[some [4,5]],[]⟩ ⟨[],[],[]⟩ [false,true,false] (ww k2 (tt k0 nn))))) (fun k2=>(lb (fun k3=>(lr 23 3 [1,1,1,1,0] 1 16 [(4,(ii aS)),(5,(ii aU))] (sl Xj 18 [] ⟨[],[],[some [4,5]],[]⟩ ⟨[],[],[]⟩ [false,true,true,false] (ww k3 (tt k0 nn))))) (fun k3=>trivial))))))))
theorem u4v (aJ:Int) (aS:Int) (aU:Int) (aT:Int) (n:Nat) (vs:List AVal) (h:Zt (w2d aJ aS aU aT) n (y5d aJ aS aU aT)=.ret vs):Uv prog (Zy prog 82) (Za prog 82 [(.agg [(.int .i64 aJ)]),(.agg [(.int .i64 aS),(.int .i64 aU),(.int .i64 aT)])] true []) vs:=by have:=Ze (v0h aJ aS aU aT) n _ (w2e aJ aS aU aT);rwa [h] at this
-- start: index into an array (choices [false, false, false])
inductive bckS where
def bckC (aJ:Int) (x1:Int) (x2:Int) (x3:Int):bckS→Cfg
 :=nofun
def w3h (aJ:Int) (x1:Int) (x2:Int) (x3:Int):bckS→Xw bckS
 :=nofun
def y5l (aJ:Int) (x1:Int) (x2:Int) (x3:Int):Xw bckS:=(bif (decide (aJ=Int.ofNat 0)) then (.ret [(.agg [(.int .i64 x1),(.int .i64 x2),(.int .i64 x3)])]) else (bif (decide (aJ=Int.ofNat 1)) then (.ret [(.agg [(.int .i64 x2),(.int .i64 x1),(.int .i64 x3)])]) else (bif (decide (aJ=Int.ofNat 2)) then (.ret [(.agg [(.int .i64 x2),(.int .i64 x3),(.int .i64 x1)])]) else .stuck)))
theorem v1g (aJ:Int) (x1:Int) (x2:Int) (x3:Int): ∀s,Xv prog (Zy prog 80) (bckC aJ x1 x2 x3) (bckC aJ x1 x2 x3 s) (w3h aJ x1 x2 x3 s)
 :=nofun
theorem w3i (aJ:Int) (x1:Int) (x2:Int) (x3:Int):Xv prog (Zy prog 80) (bckC aJ x1 x2 x3) (Za prog 80 [(.agg [(.int .i64 aJ)]),(.int .i64 x1),(.int .i64 x2),(.int .i64 x3)] true []) (y5l aJ x1 x2 x3):=(lb (fun k0=>(z2d ⟨⟨25,0,true⟩,none,(Zg prog 3 [1,1,1,1,0] 1),none,(Zy prog 80),⟨Yk [(8,(.ptr 0 0))],Vv [⟨[(ii x1),(ii x2),(ii x3)],50,none⟩] 0,1,[],true⟩,[],.leaf⟩ (sl Xj 25 [] ⟨[1],[],[some [8]],[]⟩ ⟨[],[],[]⟩ [false] (ww k0 nn)) rfl (by kernel_rfl))) (fun k0=>(lb (fun k1=>(z2d ⟨⟨25,0,true⟩,none,(Zg prog 3 [1,1,1,1,0] 1),none,(Zy prog 80),⟨Yk [(8,(.ptr 0 0))],Vv [⟨[(ii x2),(ii x1),(ii x3)],50,none⟩] 0,1,[],true⟩,[],.leaf⟩ (sl Xj 25 [] ⟨[1],[],[some [8]],[]⟩ ⟨[],[],[]⟩ [true,false] (ww k1 nn)) rfl (by kernel_rfl))) (fun k1=>(lb (fun k2=>(z2d ⟨⟨25,0,true⟩,none,(Zg prog 3 [1,1,1,1,0] 1),none,(Zy prog 80),⟨Yk [(8,(.ptr 0 0))],Vv [⟨[(ii x2),(ii x3),(ii x1)],50,none⟩] 0,1,[],true⟩,[],.leaf⟩ (sl Xj 25 [] ⟨[1],[],[some [8]],[]⟩ ⟨[],[],[]⟩ [true,true,false] (ww k2 nn)) rfl (by kernel_rfl))) (fun k2=>trivial))))))
theorem u5y (aJ:Int) (x1:Int) (x2:Int) (x3:Int) (n:Nat) (vs:List AVal) (h:Zt (w3h aJ x1 x2 x3) n (y5l aJ x1 x2 x3)=.ret vs):Uv prog (Zy prog 80) (Za prog 80 [(.agg [(.int .i64 aJ)]),(.int .i64 x1),(.int .i64 x2),(.int .i64 x3)] true []) vs:=by have:=Ze (v1g aJ x1 x2 x3) n _ (w3i aJ x1 x2 x3);rwa [h] at this
inductive insS where
def insC (aJ:Int) (aO:Int) (aN:Int) (aQ:Int) (aW:Int) (aV:Int) (aS:Int) (aU:Int) (aT:Int) (bV:Int) (bW:Int) (bU:Int):insS→Cfg
 :=nofun
def w1q (aJ:Int) (aO:Int) (aN:Int) (aQ:Int) (aW:Int) (aV:Int) (aS:Int) (aU:Int) (aT:Int) (bV:Int) (bW:Int) (bU:Int):insS→Xw insS
 :=nofun
def y4z (aJ:Int) (aO:Int) (aN:Int) (aQ:Int) (aW:Int) (aV:Int) (aS:Int) (aU:Int) (aT:Int) (bV:Int) (bW:Int) (bU:Int):Xw insS:=(bif (decide (aJ≥aS)) then (bif (decide (aO≥aU)) then (bif (decide (aN≥aT)) then (bif (decide (aQ≤bV)) then (bif (decide (aW≤bW)) then (.ret [(.bool (decide (aV≤bU)))]) else (.ret [(.bool false)])) else (.ret [(.bool false)])) else (.ret [(.bool false)])) else (.ret [(.bool false)])) else (.ret [(.bool false)]))
theorem v0c (aJ:Int) (aO:Int) (aN:Int) (aQ:Int) (aW:Int) (aV:Int) (aS:Int) (aU:Int) (aT:Int) (bV:Int) (bW:Int) (bU:Int): ∀s,Xv prog (Zy prog 54) (insC aJ aO aN aQ aW aV aS aU aT bV bW bU) (insC aJ aO aN aQ aW aV aS aU aT bV bW bU s) (w1q aJ aO aN aQ aW aV aS aU aT bV bW bU s)
 :=nofun
theorem w1r (aJ:Int) (aO:Int) (aN:Int) (aQ:Int) (aW:Int) (aV:Int) (aS:Int) (aU:Int) (aT:Int) (bV:Int) (bW:Int) (bU:Int):Xv prog (Zy prog 54) (insC aJ aO aN aQ aW aV aS aU aT bV bW bU) (Za prog 54 [(.agg [(.int .i64 aJ),(.int .i64 aO),(.int .i64 aN),(.int .i64 aQ),(.int .i64 aW),(.int .i64 aV)]),(.agg [(.int .i64 aS),(.int .i64 aU),(.int .i64 aT),(.int .i64 bV),(.int .i64 bW),(.int .i64 bU)])] true []) (y4z aJ aO aN aQ aW aV aS aU aT bV bW bU):=(lb (fun k0=>(lb (fun k1=>(lb (fun k2=>(lb (fun k3=>(lb (fun k4=>(lr 57 3 [1,1,1,1,0] 1 6 [(4,(.bool (decide (aV≤bU))))] (sl Xj 62 [] ⟨[],[],[some [4]],[]⟩ ⟨[],[],[]⟩ (trs 35 []) (tt k4 (tt k3 (tt k2 (tt k1 (tt k0 nn)))))))) (fun k4=>(lr 57 3 [1,1,1,1,0] 1 6 [(4,(.bool false))] (sl Xj 62 [] ⟨[],[],[some [4]],[]⟩ ⟨[],[],[]⟩ (trs 28 [false,false,false,false,false,false,false]) (tt k4 (tt k3 (tt k2 (tt k1 (tt k0 nn)))))))))) (fun k3=>(lr 57 3 [1,1,1,1,0] 1 6 [(4,(.bool false))] (sl Xj 62 [] ⟨[],[],[some [4]],[]⟩ ⟨[],[],[]⟩ (trs 21 [false,false,false,false,false,false,false,false,false,false,false,false,false,false]) (tt k3 (tt k2 (tt k1 (tt k0 nn))))))))) (fun k2=>(lr 57 3 [1,1,1,1,0] 1 6 [(4,(.bool false))] (sl Xj 62 [] ⟨[],[],[some [4]],[]⟩ ⟨[],[],[]⟩ (trs 14 [false,false,false,false,false,false,false,false,false,false,false,false,false,false,false,false,false,false,false,false,false]) (tt k2 (tt k1 (tt k0 nn)))))))) (fun k1=>(lr 57 3 [1,1,1,1,0] 1 6 [(4,(.bool false))] (sl Xj 62 [] ⟨[],[],[some [4]],[]⟩ ⟨[],[],[]⟩ (trs 7 [false,false,false,false,false,false,false,false,false,false,false,false,false,false,false,false,false,false,false,false,false,false,false,false,false,false,false,false]) (tt k1 (tt k0 nn))))))) (fun k0=>(lr 57 3 [1,1,1,1,0] 1 6 [(4,(.bool false))] (sl Xj 62 [] ⟨[],[],[some [4]],[]⟩ ⟨[],[],[]⟩ [false,false,false,false,false,false,false,false,false,false,false,false,false,false,false,false,false,false,false,false,false,false,false,false,false,false,false,false,false,false,false,false,false,false,false] (tt k0 nn)))))
theorem u4q (aJ:Int) (aO:Int) (aN:Int) (aQ:Int) (aW:Int) (aV:Int) (aS:Int) (aU:Int) (aT:Int) (bV:Int) (bW:Int) (bU:Int) (n:Nat) (vs:List AVal) (h:Zt (w1q aJ aO aN aQ aW aV aS aU aT bV bW bU) n (y4z aJ aO aN aQ aW aV aS aU aT bV bW bU)=.ret vs):Uv prog (Zy prog 54) (Za prog 54 [(.agg [(.int .i64 aJ),(.int .i64 aO),(.int .i64 aN),(.int .i64 aQ),(.int .i64 aW),(.int .i64 aV)]),(.agg [(.int .i64 aS),(.int .i64 aU),(.int .i64 aT),(.int .i64 bV),(.int .i64 bW),(.int .i64 bU)])] true []) vs:=by have:=Ze (v0c aJ aO aN aQ aW aV aS aU aT bV bW bU) n _ (w1r aJ aO aN aQ aW aV aS aU aT bV bW bU);rwa [h] at this
inductive meeS where
def meeC (aJ:Int) (aO:Int) (aN:Int) (aQ:Int) (aW:Int) (aV:Int) (aS:Int) (aU:Int) (aT:Int) (bV:Int) (bW:Int) (bU:Int):meeS→Cfg
 :=nofun
def w0u (aJ:Int) (aO:Int) (aN:Int) (aQ:Int) (aW:Int) (aV:Int) (aS:Int) (aU:Int) (aT:Int) (bV:Int) (bW:Int) (bU:Int):meeS→Xw meeS
 :=nofun
def y4s (aJ:Int) (aO:Int) (aN:Int) (aQ:Int) (aW:Int) (aV:Int) (aS:Int) (aU:Int) (aT:Int) (bV:Int) (bW:Int) (bU:Int):Xw meeS:=(bif (decide (aJ<bV)) then (bif (decide (aS<aQ)) then (bif (decide (aO<bW)) then (bif (decide (aU<aW)) then (bif (decide (aN<bU)) then (.ret [(.bool (decide (aT<aV)))]) else (.ret [(.bool false)])) else (.ret [(.bool false)])) else (.ret [(.bool false)])) else (.ret [(.bool false)])) else (.ret [(.bool false)]))
theorem w9l (aJ:Int) (aO:Int) (aN:Int) (aQ:Int) (aW:Int) (aV:Int) (aS:Int) (aU:Int) (aT:Int) (bV:Int) (bW:Int) (bU:Int): ∀s,Xv prog (Zy prog 56) (meeC aJ aO aN aQ aW aV aS aU aT bV bW bU) (meeC aJ aO aN aQ aW aV aS aU aT bV bW bU s) (w0u aJ aO aN aQ aW aV aS aU aT bV bW bU s)
 :=nofun
theorem w0v (aJ:Int) (aO:Int) (aN:Int) (aQ:Int) (aW:Int) (aV:Int) (aS:Int) (aU:Int) (aT:Int) (bV:Int) (bW:Int) (bU:Int):Xv prog (Zy prog 56) (meeC aJ aO aN aQ aW aV aS aU aT bV bW bU) (Za prog 56 [(.agg [(.int .i64 aJ),(.int .i64 aO),(.int .i64 aN),(.int .i64 aQ),(.int .i64 aW),(.int .i64 aV)]),(.agg [(.int .i64 aS),(.int .i64 aU),(.int .i64 aT),(.int .i64 bV),(.int .i64 bW),(.int .i64 bU)])] true []) (y4s aJ aO aN aQ aW aV aS aU aT bV bW bU):=(lb (fun k0=>(lb (fun k1=>(lb (fun k2=>(lb (fun k3=>(lb (fun k4=>(lr 57 3 [1,1,1,1,0] 1 6 [(4,(.bool (decide (aT<aV))))] (sl Xj 62 [] ⟨[],[],[some [4]],[]⟩ ⟨[],[],[]⟩ (trs 35 []) (tt k4 (tt k3 (tt k2 (tt k1 (tt k0 nn)))))))) (fun k4=>(lr 57 3 [1,1,1,1,0] 1 6 [(4,(.bool false))] (sl Xj 62 [] ⟨[],[],[some [4]],[]⟩ ⟨[],[],[]⟩ (trs 28 [false,false,false,false,false,false,false]) (tt k4 (tt k3 (tt k2 (tt k1 (tt k0 nn)))))))))) (fun k3=>(lr 57 3 [1,1,1,1,0] 1 6 [(4,(.bool false))] (sl Xj 62 [] ⟨[],[],[some [4]],[]⟩ ⟨[],[],[]⟩ (trs 21 [false,false,false,false,false,false,false,false,false,false,false,false,false,false]) (tt k3 (tt k2 (tt k1 (tt k0 nn))))))))) (fun k2=>(lr 57 3 [1,1,1,1,0] 1 6 [(4,(.bool false))] (sl Xj 62 [] ⟨[],[],[some [4]],[]⟩ ⟨[],[],[]⟩ (trs 14 [false,false,false,false,false,false,false,false,false,false,false,false,false,false,false,false,false,false,false,false,false]) (tt k2 (tt k1 (tt k0 nn)))))))) (fun k1=>(lr 57 3 [1,1,1,1,0] 1 6 [(4,(.bool false))] (sl Xj 62 [] ⟨[],[],[some [4]],[]⟩ ⟨[],[],[]⟩ (trs 7 [false,false,false,false,false,false,false,false,false,false,false,false,false,false,false,false,false,false,false,false,false,false,false,false,false,false,false,false]) (tt k1 (tt k0 nn))))))) (fun k0=>(lr 57 3 [1,1,1,1,0] 1 6 [(4,(.bool false))] (sl Xj 62 [] ⟨[],[],[some [4]],[]⟩ ⟨[],[],[]⟩ [false,false,false,false,false,false,false,false,false,false,false,false,false,false,false,false,false,false,false,false,false,false,false,false,false,false,false,false,false,false,false,false,false,false,false] (tt k0 nn)))))
theorem u3u (aJ:Int) (aO:Int) (aN:Int) (aQ:Int) (aW:Int) (aV:Int) (aS:Int) (aU:Int) (aT:Int) (bV:Int) (bW:Int) (bU:Int) (n:Nat) (vs:List AVal) (h:Zt (w0u aJ aO aN aQ aW aV aS aU aT bV bW bU) n (y4s aJ aO aN aQ aW aV aS aU aT bV bW bU)=.ret vs):Uv prog (Zy prog 56) (Za prog 56 [(.agg [(.int .i64 aJ),(.int .i64 aO),(.int .i64 aN),(.int .i64 aQ),(.int .i64 aW),(.int .i64 aV)]),(.agg [(.int .i64 aS),(.int .i64 aU),(.int .i64 aT),(.int .i64 bV),(.int .i64 bW),(.int .i64 bU)])] true []) vs:=by have:=Ze (w9l aJ aO aN aQ aW aV aS aU aT bV bW bU) n _ (w0v aJ aO aN aQ aW aV aS aU aT bV bW bU);rwa [h] at this
def axO (a:Int):Bool:=decide (a=Int.ofNat 0)||(decide (a=Int.ofNat 1)||decide (a=Int.ofNat 2))
def y1x (a x y z:Int):Int:=bif decide (a=Int.ofNat 0) then x else bif decide (a=Int.ofNat 1) then y else z
def Ue (a _ _ _:Int):Bool:=axO a
theorem j9x (a x y z:Int) (h:Ue a x y z=true): ∃N,Zt (w3l a x y z) N (y5o a x y z)=.ret [.int .i64 (y1x a x y z)]:=⟨0,by
 revert h;unfold Ue axO y5o y1x;cases decide (a=Int.ofNat 0) <;> cases decide (a=Int.ofNat 1) <;> cases decide (a=Int.ofNat 2) <;> intro h <;> first | rfl | cases h⟩
def z3c (a x y _z:Int):Int:=bif decide (a=Int.ofNat 0) then y else x
def z3b (a _x y z:Int):Int:=bif decide (a=Int.ofNat 0) then z else bif decide (a=Int.ofNat 1) then z else y
def z3a (a _ _ _:Int):Bool:=axO a
theorem j7a (a x y z:Int) (h:z3a a x y z=true): ∃N,Zt (w2d a x y z) N (y5d a x y z)=.ret [.int .i64 (z3c a x y z),.int .i64 (z3b a x y z)]:=⟨0,by
 revert h;have e:(a == 0)=decide (a=Int.ofNat 0):=rfl;unfold z3a axO y5d z3c z3b;rw [e];cases decide (a=Int.ofNat 0) <;> cases decide (a=Int.ofNat 1) <;> cases decide (a=Int.ofNat 2) <;> intro h <;> first | rfl | cases h⟩
def z3d (a p x y:Int):R3:=bif decide (a=Int.ofNat 0) then ⟨p,x,y⟩ else bif decide (a=Int.ofNat 1) then ⟨x,p,y⟩ else ⟨x,y,p⟩
def Kr (a _ _ _:Int):Bool:=axO a
theorem j9v (a p x y:Int) (h:Kr a p x y=true): ∃N,Zt (w3h a p x y) N (y5l a p x y)=.ret [.agg [.int .i64 (z3d a p x y).a,.int .i64 (z3d a p x y).b,.int .i64 (z3d a p x y).c]]:=⟨0,by
 revert h;unfold Kr axO y5l z3d;cases decide (a=Int.ofNat 0) <;> cases decide (a=Int.ofNat 1) <;> cases decide (a=Int.ofNat 2) <;> intro h <;> first | rfl | cases h⟩
def fAlg :List AVal→Option (AVal×Bool)
 | [.agg [.int .i64 aJ],.agg [.int .i64 aS,.int .i64 aU,.int .i64 aT]]=>some (.int .i64 (y1x aJ aS aU aT),Ue aJ aS aU aT)
 | _=>none
theorem j8z {S:Specs} (hS:Zu prog S):Zu prog (S.with j0u fAlg):=by
 refine z0k hS (by kernel_rfl) fun args v h=> ?_;unfold fAlg at h;split at h
 ·rename_i aJ aS aU aT;simp only [Ad,Ac,Ae] at h;obtain ⟨rfl,hw⟩:=h;obtain ⟨N,hN⟩:=j9x aJ aS aU aT hw;exact ⟨_,_,(.cons (.refl _) (.cons (.refl _) .nil)),rfl,u6c aJ aS aU aT N _ hN,3,rfl⟩
 ·cases h
def fFlt :List AVal→Option (AVal×Bool)
 | [.agg [.int .i64 aJ],.agg [.int .i64 aS,.int .i64 aU,.int .i64 aT]]=>some (.tup [.int .i64 (z3c aJ aS aU aT),.int .i64 (z3b aJ aS aU aT)],z3a aJ aS aU aT)
 | _=>none
theorem j8q {S:Specs} (hS:Zu prog S):Zu prog (S.with nFlat fFlt):=by
 refine z0k hS (by kernel_rfl) fun args v h=> ?_;unfold fFlt at h;split at h
 ·rename_i aJ aS aU aT;simp only [Ad,Ac,Ae] at h;obtain ⟨rfl,hw⟩:=h;obtain ⟨N,hN⟩:=j7a aJ aS aU aT hw;exact ⟨_,_,(.cons (.refl _) (.cons (.refl _) .nil)),rfl,u4v aJ aS aU aT N _ hN,3,rfl⟩
 ·cases h
def fBck :List AVal→Option (AVal×Bool)
 | [.agg [.int .i64 a],.int .i64 p,.int .i64 x,.int .i64 y]=>some (.agg [.int .i64 (z3d a p x y).a,.int .i64 (z3d a p x y).b,.int .i64 (z3d a p x y).c],Kr a p x y)
 | _=>none
theorem j8y {S:Specs} (hS:Zu prog S):Zu prog (S.with nBack fBck):=by
 refine z0k hS (by kernel_rfl) fun args v h=> ?_;unfold fBck at h;split at h
 ·rename_i a p x y;simp only [Ad,Ac] at h;obtain ⟨rfl,hw⟩:=h;obtain ⟨N,hN⟩:=j9v a p x y hw;exact ⟨_,_,(.cons (.refl _) (.cons (.refl _) (.cons (.refl _) (.cons (.refl _) .nil)))),rfl,u5y a p x y N _ hN,3,rfl⟩
 ·cases h
def j1h (a b c d e f a2 b2 c2 d2 e2 f2:Int):Bool:=decide (a≥a2)&&(decide (b≥b2)&&(decide (c≥c2)&&(decide (d≤d2)&&(decide (e≤e2)&&decide (f≤f2)))))
theorem j6v (a b c d e f a2 b2 c2 d2 e2 f2:Int): ∃N,Zt (w1q a b c d e f a2 b2 c2 d2 e2 f2) N (y4z a b c d e f a2 b2 c2 d2 e2 f2)=.ret [.bool (j1h a b c d e f a2 b2 c2 d2 e2 f2)]:=⟨0,by
 unfold y4z j1h;cases decide (a≥a2) <;> cases decide (b≥b2) <;> cases decide (c≥c2) <;> cases decide (d≤d2) <;> cases decide (e≤e2) <;> cases decide (f≤f2) <;> rfl⟩
def j6e (a b c d e f a2 b2 c2 d2 e2 f2:Int):Bool:=decide (a<d2)&&(decide (a2<d)&&(decide (b<e2)&&(decide (b2<e)&&(decide (c<f2)&&decide (c2<f)))))
theorem j6d (a b c d e f a2 b2 c2 d2 e2 f2:Int): ∃N,Zt (w0u a b c d e f a2 b2 c2 d2 e2 f2) N (y4s a b c d e f a2 b2 c2 d2 e2 f2)=.ret [.bool (j6e a b c d e f a2 b2 c2 d2 e2 f2)]:=⟨0,by
 unfold y4s j6e;cases decide (a<d2) <;> cases decide (a2<d) <;> cases decide (b<e2) <;> cases decide (b2<e) <;> cases decide (c<f2) <;> cases decide (c2<f) <;> rfl⟩
def fIns :List AVal→Option (AVal×Bool)
 | [.agg [.int .i64 aJ,.int .i64 aO,.int .i64 aN,.int .i64 aQ,.int .i64 aW,.int .i64 aV],.agg [.int .i64 aS,.int .i64 aU,.int .i64 aT,.int .i64 bV,.int .i64 bW,.int .i64 bU]]=>some (.bool (j1h aJ aO aN aQ aW aV aS aU aT bV bW bU),true)
 | _=>none
theorem j8n {S:Specs} (hS:Zu prog S):Zu prog (S.with w5k fIns):=by
 refine z0k hS (by kernel_rfl) fun args v h=> ?_;unfold fIns at h;split at h
 ·rename_i aJ aO aN aQ aW aV aS aU aT bV bW bU;simp only [Ad,Ac,Bk] at h;subst h;obtain ⟨N,hN⟩:=j6v aJ aO aN aQ aW aV aS aU aT bV bW bU;exact ⟨_,_,(.cons (.refl _) (.cons (.refl _) .nil)),rfl,u4q aJ aO aN aQ aW aV aS aU aT bV bW bU N _ hN,3,rfl⟩
 ·cases h
def fMee :List AVal→Option (AVal×Bool)
 | [.agg [.int .i64 aJ,.int .i64 aO,.int .i64 aN,.int .i64 aQ,.int .i64 aW,.int .i64 aV],.agg [.int .i64 aS,.int .i64 aU,.int .i64 aT,.int .i64 bV,.int .i64 bW,.int .i64 bU]]=>some (.bool (j6e aJ aO aN aQ aW aV aS aU aT bV bW bU),true)
 | _=>none
theorem j8i {S:Specs} (hS:Zu prog S):Zu prog (S.with j0l fMee):=by
 refine z0k hS (by kernel_rfl) fun args v h=> ?_;unfold fMee at h;split at h
 ·rename_i aJ aO aN aQ aW aV aS aU aT bV bW bU;simp only [Ad,Ac,Bk] at h;subst h;obtain ⟨N,hN⟩:=j6d aJ aO aN aQ aW aV aS aU aT bV bW bU;exact ⟨_,_,(.cons (.refl _) (.cons (.refl _) .nil)),rfl,u3u aJ aO aN aQ aW aV aS aU aT bV bW bU N _ hN,3,rfl⟩
 ·cases h
def Vb :Specs:=(((((Va.with j0u fAlg).with nFlat fFlt).with nBack fBck).with w5k fIns).with j0l fMee)
theorem Qy :Zu prog Vb:=(j8i (j8n (j8y (j8q (j8z Xj)))))
abbrev v6v :Nat:=24
abbrev nFit4 :Nat:=25
def j7d (x y z:Int):Bool:=decide (Ke (Ke x y) z≥(-1000000))&&decide (Kf (Kf x y) z≤1000000)
theorem j7c (x y z:Int): ∃N,Zt (w2g x y z) N (y5e x y z)=.ret [.bool (j7d x y z)]:=⟨0,by
 unfold y5e j7d;cases decide (Ke (Ke x y) z≥(-1000000)) <;> rfl⟩
def fFin :List AVal→Option (AVal×Bool)
 | [.agg [.int .i64 aJ,.int .i64 aO,.int .i64 aN]]=>some (.bool (j7d aJ aO aN),true)
 | _=>none
theorem j8s {S:Specs} (hS:Zu prog S):Zu prog (S.with j0o fFin):=by
 refine z0k hS (by kernel_rfl) fun args v h=> ?_;unfold fFin at h;split at h
 ·rename_i aJ aO aN;simp only [Ad,Ac,Bk] at h;subst h;obtain ⟨N,hN⟩:=j7c aJ aO aN;exact ⟨_,_,(.cons (.refl _) .nil),rfl,u4z aJ aO aN N _ hN,3,rfl⟩
 ·cases h
def marV (a b c d e f g:Int):Int:=wrap .i64 (if a<2 then wrap .i64 (f - c)*wrap .i64 (g - d) else if a<4 then wrap .i64 (e - b)*wrap .i64 (g - d) else wrap .i64 (e - b)*wrap .i64 (f - c))
def z2x (a b c d e f g:Int):Bool:=decide (0≤a)&&decide (a≤5)
theorem j6h (a b c d e f g:Int) (h:z2x a b c d e f g=true): ∃N,Zt (w0x a b c d e f g) N (y4u a b c d e f g)=.ret [.int .i64 (marV a b c d e f g)]:=⟨0,by
 simp only [z2x,Ae,At] at h;unfold y4u marV;have:a=0∨a=1∨a=2∨a=3∨a=4∨a=5:=by omega
 rcases this with rfl | rfl | rfl | rfl | rfl | rfl <;> rfl⟩
def fMar :List AVal→Option (AVal×Bool)
 | [.agg [.int .u8 a,.int .i64 b,.int .i64 c,.int .i64 d,.int .i64 e,.int .i64 f,.int .i64 g]]=>some (.int .i64 (marV a b c d e f g),z2x a b c d e f g)
 | _=>none
theorem j8k {S:Specs} (hS:Zu prog S):Zu prog (S.with j0n fMar):=by
 refine z0k hS (by kernel_rfl) fun args v h=> ?_;unfold fMar at h;split at h
 ·rename_i a b c d e f g;simp only [Ad,Ac] at h;obtain ⟨rfl,hw⟩:=h;obtain ⟨N,hN⟩:=j6h a b c d e f g hw;exact ⟨_,_,(.cons (.refl _) .nil),rfl,u3z a b c d e f g N _ hN,3,rfl⟩
 ·cases h
def z4h (L:List R6):Int:=bif Zh L != 0 then 0 else wrap .i64 (sm L bxV)
def z4v (L:List R6):Int:=Zh L
def z8c (L:List R6):Bool:=true
theorem u6m (L:List R6) (hl:L.length≤400): ∀(k i:Nat) (S:Int),i+k=L.length→ ∃N,Zt (y0p L) N (.to (.h0 (wrap .i64 S) (i:Int)))=.ret [.int .i64 (wrap .i64 (S+sm (L.drop i) bxV)),.int .i64 0]
 | 0,i,S,h=>by
  refine ⟨1,?_⟩
  grind [Zw,u7b,y0p,Zp]
 | k+1,i,S,h=>by
  have hi:i<L.length:=by omega
  obtain ⟨N,hN⟩:=u6m L hl k (i+1) (S+bxV (rd L i)) (by omega);refine ⟨N+1,?_⟩;have w:wrap .i64 (wrap .i64 S+wrap .i64 (wrap .i64 (wrap .i64 ((rd L i).d - (rd L i).a)*wrap .i64 ((rd L i).e - (rd L i).b))*wrap .i64 ((rd L i).f - (rd L i).c)))=wrap .i64 (S+bxV (rd L i)):=
   Cg.eq ((Cg.wrap S).add (Cg.w ((Cg.w ((Cg.wrap _).mul (Cg.wrap _))).mul (Cg.wrap _))))
  grind [Zk,Zw,Yg,v3i,y0p,Zj]
theorem j2l (L:List R6) (h:z8c L=true): ∃N,Zt (y0p L) N (y3p L)=.ret [.int .i64 (z4h L),.int .i64 (z4v L)]:=by
 unfold y3p z4h z4v;simp only [Zc,show Wt L=true from rfl,Ab];rcases Yw (Zh L != 0) with q1 | q1
 ·exact ⟨0,by simp only [q1,Ab];rfl⟩
 ·obtain ⟨N,hN⟩:=u6m L (z5w q1) L.length 0 0 (Af _);refine ⟨N,?_⟩;simp only [q1,Aa];rw [show Zh L=0 by grind];rw [AS,BN] at hN;exact hN
def fSvo :List AVal→Option (AVal×Bool)
 | [a0]=>match asL R6 a0 with
  | some (L0,g0,n0)=>some (.tup [.int .i64 (z4h L0),.int .i64 (z4v L0)],isT R6 n0 g0&&(z8c L0))
  | _=>none
 | _=>none
theorem j7l {S:Specs} (hS:Zu prog S):Zu prog (S.with j0h fSvo):=by
 refine z0k hS (by kernel_rfl) fun args v h=> ?_;unfold fSvo at h;split at h
 ·rename_i a0;split at h
  ·rename_i L0 g0 n0 e0;simp only [Ad,Ac,Ae] at h;obtain ⟨rfl,ho0,hw⟩:=h;obtain ⟨N,hN⟩:=j2l L0 hw;exact ⟨_,_,(.cons (Yh e0 ho0) .nil),rfl,u0h L0 N _ hN,3,rfl⟩
  ·cases h
 ·cases h
def W0 :Specs:=Va.with j0o fFin
theorem z4f :Zu prog W0:=j8s Xj
-- h0: index into an array (choices [true, false, false, false, false, false, false])
inductive mckS where
 | h0 (v14:Int)
def mckC (l0:List R7):mckS→Cfg
 | .h0 v14=>⟨⟨70,0,true⟩,none,(Zg prog 69 [1,1,1,0,1,0,0] 0),none,(Zy prog 9),⟨Yk [(3,(.ptr 0 0)),(12,(.dat l0.length (Zz l0))),(13,(ii (l0.length:Int))),(14,(ii v14))],Vv [⟨[(.fn 137 []),(.fn 138 []),(.fn 139 []),(.fn 140 []),(.fn 141 []),(.fn 142 []),(.fn 143 []),(.fn 144 []),(.fn 145 [])],136,none⟩] 0,1,[],true⟩,[],.leaf⟩
def u3x :List (Option (List Nat)):=[some [3,12,13,14]]
def u3y :List (Option (List Nat)):=[]
def z7m (l0:List R7):mckS→Xw mckS
 | .h0 v14=>(bif (decide (v14<(l0.length:Int))) then (bif ((decide (0≤v14∧v14<(l0.length:Int)))&&true) then (bif (decide ((rd l0 v14.toNat).a >5)) then (.ret [(.int .i64 8)]) else (bif (!(j7d (rd l0 v14.toNat).b (rd l0 v14.toNat).c (rd l0 v14.toNat).d)) then (.ret [(.int .i64 8)]) else (bif (!(j7d (rd l0 v14.toNat).e (rd l0 v14.toNat).f (rd l0 v14.toNat).g)) then (.ret [(.int .i64 8)]) else (bif (decide ((wrap IntKind.u8 (Int.tdiv (rd l0 v14.toNat).a 2))=Int.ofNat 0)) then (bif ((rd l0 v14.toNat).b != (rd l0 v14.toNat).e) then (.ret [(.int .i64 8)]) else (bif (decide ((rd l0 v14.toNat).c ≥(rd l0 v14.toNat).f)) then (.ret [(.int .i64 8)]) else (bif (decide ((rd l0 v14.toNat).d ≥(rd l0 v14.toNat).g)) then (.ret [(.int .i64 8)]) else (.to (.h0 (wrap .i64 (v14+1))))))) else (bif (decide ((wrap IntKind.u8 (Int.tdiv (rd l0 v14.toNat).a 2))=Int.ofNat 1)) then (bif ((rd l0 v14.toNat).c != (rd l0 v14.toNat).f) then (.ret [(.int .i64 8)]) else (bif (decide ((rd l0 v14.toNat).b ≥(rd l0 v14.toNat).e)) then (.ret [(.int .i64 8)]) else (bif (decide ((rd l0 v14.toNat).d ≥(rd l0 v14.toNat).g)) then (.ret [(.int .i64 8)]) else (.to (.h0 (wrap .i64 (v14+1))))))) else (bif (decide ((wrap IntKind.u8 (Int.tdiv (rd l0 v14.toNat).a 2))=Int.ofNat 2)) then (bif ((rd l0 v14.toNat).d != (rd l0 v14.toNat).g) then (.ret [(.int .i64 8)]) else (bif (decide ((rd l0 v14.toNat).b ≥(rd l0 v14.toNat).e)) then (.ret [(.int .i64 8)]) else (bif (decide ((rd l0 v14.toNat).c ≥(rd l0 v14.toNat).f)) then (.ret [(.int .i64 8)]) else (.to (.h0 (wrap .i64 (v14+1))))))) else .stuck)))))) else .stuck) else (.ret [(.int .i64 0)]))
def y4t (l0:List R7):Xw mckS:=(bif (decide ((l0.length:Int)>3000)) then (.ret [(.int .i64 4)]) else (.to (.h0 0)))
theorem w9m (l0:List R7): ∀s,Xv prog (Zy prog 69) (mckC l0) (mckC l0 s) (z7m l0 s)
 | .h0 v14=>(lb (fun k0=>(lo fun aI=>(lb (fun k1=>(lr 70 69 [1,1,1,0,1,0,0,1,1,0,0,1,0,1,0,0] 1 9 [(2,(ii 8))] (sl z4f 40 [] ⟨[],[],[some [2]],[]⟩ ⟨[],[],[]⟩ (trs 10 []) (tt k1 (ww aI (tt k0 nn)))))) (fun k1=>(lb (fun k2=>(lr 70 69 [1,1,1,0,1,0,0,1,1,0,0,1,0,1,0,0] 1 9 [(2,(ii 8))] (sl z4f 40 [] ⟨[],[],[some [2]],[]⟩ ⟨[],[],[]⟩ (bl 10 993) (tt k2 (tt k1 (ww aI (tt k0 nn))))))) (fun k2=>(lb (fun k3=>(lr 70 69 [1,1,1,0,1,0,0,1,1,0,0,1,0,1,0,0] 1 9 [(2,(ii 8))] (sl z4f 40 [] ⟨[],[],[some [2]],[]⟩ ⟨[],[],[]⟩ (bl 10 513) (tt k3 (tt k2 (tt k1 (ww aI (tt k0 nn)))))))) (fun k3=>(lb (fun k4=>(lb (fun k5=>(lr 70 69 [1,1,1,0,1,0,0,1,1,0,0,1,1,1,1,1,0,0] 1 9 [(2,(ii 8))] (sl z4f 124 [] ⟨[],[],[some [2]],[]⟩ ⟨[],[],[]⟩ (bl 22 4192257) (tt k5 (ww k4 (tt k3 (tt k2 (tt k1 (ww aI (tt k0 nn)))))))))) (fun k5=>(lb (fun k6=>(lr 70 69 [1,1,1,0,1,0,0,1,1,0,0,1,1,1,1,1,0,0] 1 9 [(2,(ii 8))] (sl z4f 124 [] ⟨[],[],[some [2]],[]⟩ ⟨[],[],[]⟩ (bl 22 4128769) (tt k6 (tt k5 (ww k4 (tt k3 (tt k2 (tt k1 (ww aI (tt k0 nn))))))))))) (fun k6=>(lb (fun k7=>(lr 70 69 [1,1,1,0,1,0,0,1,1,0,0,1,1,1,1,1,0,0] 1 9 [(2,(ii 8))] (sl z4f 124 [] ⟨[],[],[some [2]],[]⟩ ⟨[],[],[]⟩ (bl 22 2097153) (tt k7 (tt k6 (tt k5 (ww k4 (tt k3 (tt k2 (tt k1 (ww aI (tt k0 nn)))))))))))) (fun k7=>(sl z4f 127 [] ⟨[0],[],u3x,u3y⟩ ⟨[],[],[]⟩ (bl 22 1) (tt k7 (tt k6 (tt k5 (ww k4 (tt k3 (tt k2 (tt k1 (ww aI (tt k0 nn))))))))))))))))) (fun k4=>(lb (fun k5=>(lb (fun k6=>(lr 70 69 [1,1,1,0,1,0,0,1,1,0,0,1,1,1,1,1,0,0] 1 9 [(2,(ii 8))] (sl z4f 124 [] ⟨[],[],[some [2]],[]⟩ ⟨[],[],[]⟩ (bl 23 8385537) (tt k6 (ww k5 (tt k3 (tt k2 (tt k1 (ww aI (tt k0 nn)))))))))) (fun k6=>(lb (fun k7=>(lr 70 69 [1,1,1,0,1,0,0,1,1,0,0,1,1,1,1,1,0,0] 1 9 [(2,(ii 8))] (sl z4f 124 [] ⟨[],[],[some [2]],[]⟩ ⟨[],[],[]⟩ (bl 23 8258561) (tt k7 (tt k6 (ww k5 (tt k3 (tt k2 (tt k1 (ww aI (tt k0 nn))))))))))) (fun k7=>(lb (fun k8=>(lr 70 69 [1,1,1,0,1,0,0,1,1,0,0,1,1,1,1,1,0,0] 1 9 [(2,(ii 8))] (sl z4f 124 [] ⟨[],[],[some [2]],[]⟩ ⟨[],[],[]⟩ (bl 23 4195329) (tt k8 (tt k7 (tt k6 (ww k5 (tt k3 (tt k2 (tt k1 (ww aI (tt k0 nn)))))))))))) (fun k8=>(sl z4f 127 [] ⟨[0],[],u3x,u3y⟩ ⟨[],[],[]⟩ (bl 23 1025) (tt k8 (tt k7 (tt k6 (ww k5 (tt k3 (tt k2 (tt k1 (ww aI (tt k0 nn))))))))))))))))) (fun k5=>(lb (fun k6=>(lb (fun k7=>(lr 70 69 [1,1,1,0,1,0,0,1,1,0,0,1,1,1,1,1,0,0] 1 9 [(2,(ii 8))] (sl z4f 124 [] ⟨[],[],[some [2]],[]⟩ ⟨[],[],[]⟩ (bl 24 16772097) (tt k7 (ww k6 (tt k3 (tt k2 (tt k1 (ww aI (tt k0 nn)))))))))) (fun k7=>(lb (fun k8=>(lr 70 69 [1,1,1,0,1,0,0,1,1,0,0,1,1,1,1,1,0,0] 1 9 [(2,(ii 8))] (sl z4f 124 [] ⟨[],[],[some [2]],[]⟩ ⟨[],[],[]⟩ (bl 24 16518145) (tt k8 (tt k7 (ww k6 (tt k3 (tt k2 (tt k1 (ww aI (tt k0 nn))))))))))) (fun k8=>(lb (fun k9=>(lr 70 69 [1,1,1,0,1,0,0,1,1,0,0,1,1,1,1,1,0,0] 1 9 [(2,(ii 8))] (sl z4f 124 [] ⟨[],[],[some [2]],[]⟩ ⟨[],[],[]⟩ (bl 24 8391681) (tt k9 (tt k8 (tt k7 (ww k6 (tt k3 (tt k2 (tt k1 (ww aI (tt k0 nn)))))))))))) (fun k9=>(sl z4f 127 [] ⟨[0],[],u3x,u3y⟩ ⟨[],[],[]⟩ (bl 24 3073) (tt k9 (tt k8 (tt k7 (ww k6 (tt k3 (tt k2 (tt k1 (ww aI (tt k0 nn))))))))))))))))) (fun k6=>trivial)))))))))))))) (fun k0=>(lr 70 3 [1,1,1,1,0] 1 9 [(2,(ii 0))] (sl z4f 11 [] ⟨[],[],[some [2]],[]⟩ ⟨[],[],[]⟩ [false] (tt k0 nn)))))
theorem w0w (l0:List R7):Xv prog (Zy prog 69) (mckC l0) (Za prog 69 [(.dat l0.length (Zz l0))] true []) (y4t l0):=(lb (fun k0=>(lr 70 69 [1,0,1,0,0] 1 9 [(2,(ii 4))] (sl z4f 16 [] ⟨[],[],[some [2]],[]⟩ ⟨[],[],[]⟩ [true] (tt k0 nn)))) (fun k0=>(sl z4f 41 [] ⟨[1],[],u3x,u3y⟩ ⟨[],[],[]⟩ [false] (tt k0 nn))))
theorem u3w (l0:List R7) (n:Nat) (vs:List AVal) (h:Zt (z7m l0) n (y4t l0)=.ret vs):Uv prog (Zy prog 69) (Za prog 69 [(.dat l0.length (Zz l0))] true []) vs:=by have:=Ze (w9m l0) n _ (w0w l0);rwa [h] at this
def v9u (r:R7):Bool:=decide (r.a≤5)&&(j7d r.b r.c r.d&&(j7d r.e r.f r.g&&
 (bif decide (r.a<2) then (r.b == r.e)&&(decide (r.c<r.f)&&decide (r.d<r.g)) else bif decide (r.a<4) then (r.c == r.f)&&(decide (r.b<r.e)&&decide (r.d<r.g)) else (r.d == r.g)&&(decide (r.b<r.e)&&decide (r.c<r.f)))))
def w9n (L:List R7):Int:=bif decide (3000<L.length) then 4 else bif L.all v9u then 0 else 8
def z1c (L:List R7):Bool:=L.all fun r=>decide (0≤r.a)&&decide (r.a<256)
theorem j2c {a:Int} (h0:0≤a) (h5:a≤5):wrap IntKind.u8 (Int.tdiv a 2)=(if a<2 then 0 else if a<4 then 1 else 2):=by
 have:a=0∨a=1∨a=2∨a=3∨a=4∨a=5:=by omega
 rcases this with rfl | rfl | rfl | rfl | rfl | rfl <;> rfl
theorem j0v (L:List R7) (hl:L.length≤3000) (ho:z1c L=true): ∀(k i:Nat),i+k=L.length→ ∃N,Zt (z7m L) N (.to (.h0 (i:Int)))=.ret [.int .i64 (bif (L.drop i).all v9u then 0 else 8)]
 | 0,i,h=>by refine ⟨1,?_⟩;rw [Zw,As (by omega)];simp (disch:=omega) only [z7m,Ye,Aa];rfl
 | k+1,i,h=>by
  have hi:i<L.length:=by omega
  obtain ⟨N,hN⟩:=j0v L hl ho k (i+1) (by omega);have hb:0≤(rd L i).a ∧(rd L i).a <256:=by
   have:=Ar.1 ho (rd L i) (by grind [Yr])
   grind
  refine ⟨N+1,?_⟩;rw [Zw,Yg hi,List.all_cons];have e:z7m L (.h0 (i:Int))=bif v9u (rd L i) then .to (.h0 ((i+1:Nat):Int)) else .ret [.int .i64 8]:=by
   have hw:wrap .i64 ((i:Int)+1)=((i+1:Nat):Int):=Zk (by omega);simp (disch:=omega) only [z7m,Zs,Zo,hw,Zj,Ah,Ab];unfold v9u;by_cases h5:(rd L i).a ≤5;all_goals grind [j2c]
  rw [e];rcases Yw (v9u (rd L i)) with q | q;all_goals grind [Zp]
theorem j6f (L:List R7) (h:z1c L=true): ∃N,Zt (z7m L) N (y4t L)=.ret [.int .i64 (w9n L)]:=by
 unfold y4t w9n;by_cases g:3000<L.length
 ·refine ⟨0,?_⟩;rw [Ys (by omega),An g];rfl
 ·obtain ⟨N,hN⟩:=j0v L (by omega) h L.length 0 (Af _)
  grind
def fMck :List AVal→Option (AVal×Bool)
 | [a0]=>match asL R7 a0 with
  | some (L0,g0,n0)=>some (.int .i64 (w9n L0),isT R7 n0 g0&&(z1c L0))
  | _=>none
 | _=>none
theorem j8j {S:Specs} (hS:Zu prog S):Zu prog (S.with v6r fMck):=by
 refine z0k hS (by kernel_rfl) fun args v h=> ?_;unfold fMck at h;split at h
 ·rename_i a0;split at h
  ·rename_i L0 g0 n0 e0;simp only [Ad,Ac,Ae] at h;obtain ⟨rfl,ho0,hw⟩:=h;obtain ⟨N,hN⟩:=j6f L0 hw;exact ⟨_,_,(.cons (Yh e0 ho0) .nil),rfl,u3w L0 N _ hN,3,rfl⟩
  ·cases h
 ·cases h
theorem u3v {l:List R7} (h:w9n l=0):l.length≤3000∧ ∀r∈l,v9u r=true:=by
 grind [w9n]
theorem val7_a {r:R7} (h:v9u r=true):r.a≤5:=by
 grind [v9u]
def W1 :Specs:=(W0.with v6r fMck).with j0n fMar
theorem u6f :Zu prog W1:=j8k (j8j z4f)
inductive mArS where
 | h0 (v5:Int) (v15:Int)
def mArC (l0:List R7):mArS→Cfg
 | .h0 v5 v15=>⟨⟨25,0,true⟩,none,(Zg prog 36 [1,1,1,0,1,0,0] 0),none,(Zy prog 14),⟨Yk [(5,(ii v5)),(13,(.dat l0.length (Zz l0))),(14,(ii (l0.length:Int))),(15,(ii v15))],Vv [] 0,0,[],true⟩,[],.leaf⟩
def mArN0 :List (Option (List Nat)):=[some [5,13,14,15]]
def mArM0 :List (Option (List Nat)):=[]
def y1j (l0:List R7):mArS→Xw mArS
 | .h0 v5 v15=>(bif (decide (v15<(l0.length:Int))) then (bif ((decide (0≤v15∧v15<(l0.length:Int)))&&true) then (bif (z2x (rd l0 v15.toNat).a (rd l0 v15.toNat).b (rd l0 v15.toNat).c (rd l0 v15.toNat).d (rd l0 v15.toNat).e (rd l0 v15.toNat).f (rd l0 v15.toNat).g) then (.to (.h0 (wrap .i64 (v5+(marV (rd l0 v15.toNat).a (rd l0 v15.toNat).b (rd l0 v15.toNat).c (rd l0 v15.toNat).d (rd l0 v15.toNat).e (rd l0 v15.toNat).f (rd l0 v15.toNat).g))) (wrap .i64 (v15+1)))) else .stuck) else .stuck) else (.ret [(.int .i64 v5),(.int .i64 0)]))
def y4v (l0:List R7):Xw mArS:=(bif (z1c (cvT l0)) then (bif ((w9n (cvT l0)) != 0) then (.ret [(.int .i64 0),(.int .i64 (w9n (cvT l0)))]) else (.to (.h0 0 0))) else .stuck)
theorem w9q (l0:List R7): ∀s,Xv prog (Zy prog 36) (mArC l0) (mArC l0 s) (y1j l0 s)
 | .h0 v5 v15=>(lb (fun k0=>(lo fun o0=>(lo fun o1=>(sl u6f 29 [] ⟨[],[],mArN0,mArM0⟩ ⟨[],[],[]⟩ [true] (ww o1 (ww o0 (tt k0 nn))))))) (fun k0=>(lr 25 3 [1,1,1,1,0] 1 14 [(2,(ii v5)),(3,(ii 0))] (sl u6f 13 [] ⟨[],[],[some [2,3]],[]⟩ ⟨[],[],[]⟩ [false] (tt k0 nn)))))
theorem w1b (l0:List R7):Xv prog (Zy prog 36) (mArC l0) (Za prog 36 [(.dat l0.length (Zz l0))] true []) (y4v l0):=(lo fun bP=>(lb (fun k0=>(lr 25 36 [1,0,1,1,0,0] 1 14 [(2,(ii 0)),(3,(ii (w9n (cvT l0))))] (sl u6f 24 [] ⟨[],[],[some [2,3]],[]⟩ ⟨[],[],[]⟩ [true] (tt k0 (pp (pp (xr l0) (xw bP)) nn))))) (fun k0=>(sl u6f 32 [] ⟨[],[],mArN0,mArM0⟩ ⟨[],[],[]⟩ [false] (tt k0 (pp (pp (xr l0) (xw bP)) nn))))))
theorem u4f (l0:List R7) (n:Nat) (vs:List AVal) (h:Zt (y1j l0) n (y4v l0)=.ret vs):Uv prog (Zy prog 36) (Za prog 36 [(.dat l0.length (Zz l0))] true []) vs:=by have:=Ze (w9q l0) n _ (w1b l0);rwa [h] at this
inductive rinS where
def rinC (aJ:Int) (aO:Int) (aN:Int) (x1:Int):rinS→Cfg
 :=nofun
def x9r (aJ:Int) (aO:Int) (aN:Int) (x1:Int):rinS→Xw rinS
 :=nofun
def y4n (aJ:Int) (aO:Int) (aN:Int) (x1:Int):Xw rinS:=(bif (decide (aJ≥x1)) then (bif (decide (aO≥x1)) then (bif (decide (aN≥x1)) then (bif (decide (aJ≤1000000)) then (bif (decide (aO≤1000000)) then (.ret [(.bool (decide (aN≤1000000)))]) else (.ret [(.bool false)])) else (.ret [(.bool false)])) else (.ret [(.bool false)])) else (.ret [(.bool false)])) else (.ret [(.bool false)]))
theorem w8v (aJ:Int) (aO:Int) (aN:Int) (x1:Int): ∀s,Xv prog (Zy prog 26) (rinC aJ aO aN x1) (rinC aJ aO aN x1 s) (x9r aJ aO aN x1 s)
 :=nofun
theorem x9s (aJ:Int) (aO:Int) (aN:Int) (x1:Int):Xv prog (Zy prog 26) (rinC aJ aO aN x1) (Za prog 26 [(.agg [(.int .i64 aJ),(.int .i64 aO),(.int .i64 aN)]),(.int .i64 x1)] true []) (y4n aJ aO aN x1):=(lb (fun k0=>(lb (fun k1=>(lb (fun k2=>(lb (fun k3=>(lb (fun k4=>(lr 36 3 [1,1,1,1,0] 1 6 [(4,(.bool (decide (aN≤1000000))))] (sl Xj 40 [] ⟨[],[],[some [4]],[]⟩ ⟨[],[],[]⟩ (trs 17 []) (tt k4 (tt k3 (tt k2 (tt k1 (tt k0 nn)))))))) (fun k4=>(lr 36 3 [1,1,1,1,0] 1 6 [(4,(.bool false))] (sl Xj 40 [] ⟨[],[],[some [4]],[]⟩ ⟨[],[],[]⟩ (trs 14 [false,false,false]) (tt k4 (tt k3 (tt k2 (tt k1 (tt k0 nn)))))))))) (fun k3=>(lr 36 3 [1,1,1,1,0] 1 6 [(4,(.bool false))] (sl Xj 40 [] ⟨[],[],[some [4]],[]⟩ ⟨[],[],[]⟩ (trs 11 [false,false,false,false,false,false]) (tt k3 (tt k2 (tt k1 (tt k0 nn))))))))) (fun k2=>(lr 36 3 [1,1,1,1,0] 1 6 [(4,(.bool false))] (sl Xj 40 [] ⟨[],[],[some [4]],[]⟩ ⟨[],[],[]⟩ (trs 8 [false,false,false,false,false,false,false,false,false]) (tt k2 (tt k1 (tt k0 nn)))))))) (fun k1=>(lr 36 3 [1,1,1,1,0] 1 6 [(4,(.bool false))] (sl Xj 40 [] ⟨[],[],[some [4]],[]⟩ ⟨[],[],[]⟩ (trs 4 [false,false,false,false,false,false,false,false,false,false,false,false,false]) (tt k1 (tt k0 nn))))))) (fun k0=>(lr 36 3 [1,1,1,1,0] 1 6 [(4,(.bool false))] (sl Xj 40 [] ⟨[],[],[some [4]],[]⟩ ⟨[],[],[]⟩ [false,false,false,false,false,false,false,false,false,false,false,false,false,false,false,false,false] (tt k0 nn)))))
theorem u2h (aJ:Int) (aO:Int) (aN:Int) (x1:Int) (n:Nat) (vs:List AVal) (h:Zt (x9r aJ aO aN x1) n (y4n aJ aO aN x1)=.ret vs):Uv prog (Zy prog 26) (Za prog 26 [(.agg [(.int .i64 aJ),(.int .i64 aO),(.int .i64 aN)]),(.int .i64 x1)] true []) vs:=by have:=Ze (w8v aJ aO aN x1) n _ (x9s aJ aO aN x1);rwa [h] at this
inductive crdS where
def crdC (aJ:Int) (aO:Int) (aN:Int) (x1:Int):crdS→Cfg
 :=nofun
def w2w (aJ:Int) (aO:Int) (aN:Int) (x1:Int):crdS→Xw crdS
 :=nofun
def y5i (aJ:Int) (aO:Int) (aN:Int) (x1:Int):Xw crdS:=(bif (x1 == 0) then (.ret [(.int .i64 aJ)]) else (bif (x1 == 1) then (.ret [(.int .i64 aO)]) else (.ret [(.int .i64 aN)])))
theorem v0y (aJ:Int) (aO:Int) (aN:Int) (x1:Int): ∀s,Xv prog (Zy prog 64) (crdC aJ aO aN x1) (crdC aJ aO aN x1 s) (w2w aJ aO aN x1 s)
 :=nofun
theorem w2x (aJ:Int) (aO:Int) (aN:Int) (x1:Int):Xv prog (Zy prog 64) (crdC aJ aO aN x1) (Za prog 64 [(.agg [(.int .i64 aJ),(.int .i64 aO),(.int .i64 aN)]),(.int .i64 x1)] true []) (y5i aJ aO aN x1):=(lb (fun k0=>(lr 15 64 [1,0,1,0,0] 1 6 [(4,(ii aJ))] (sl Xj 18 [] ⟨[],[],[some [4]],[]⟩ ⟨[],[],[]⟩ [true] (tt k0 nn)))) (fun k0=>(lb (fun k1=>(lr 15 64 [1,1,0,1,0,0] 1 6 [(4,(ii aO))] (sl Xj 26 [] ⟨[],[],[some [4]],[]⟩ ⟨[],[],[]⟩ [false,true] (tt k1 (tt k0 nn))))) (fun k1=>(lr 15 3 [1,1,1,1,0] 1 6 [(4,(ii aN))] (sl Xj 27 [] ⟨[],[],[some [4]],[]⟩ ⟨[],[],[]⟩ [false,false] (tt k1 (tt k0 nn))))))))
theorem u5r (aJ:Int) (aO:Int) (aN:Int) (x1:Int) (n:Nat) (vs:List AVal) (h:Zt (w2w aJ aO aN x1) n (y5i aJ aO aN x1)=.ret vs):Uv prog (Zy prog 64) (Za prog 64 [(.agg [(.int .i64 aJ),(.int .i64 aO),(.int .i64 aN)]),(.int .i64 x1)] true []) vs:=by have:=Ze (v0y aJ aO aN x1) n _ (w2x aJ aO aN x1);rwa [h] at this
inductive rh6S where
 | h0 (v5:Int)
def rh6C (l0:List R6) (aS:Int) (aU:Int) (aT:Int):rh6S→Cfg
 | .h0 v5=>⟨⟨18,0,true⟩,none,(Zg prog 29 [1,0,1,0,0] 0),none,(Zy prog 6),⟨Yk [(0,(.dat l0.length (Zz l0))),(3,(.ptr 0 0)),(5,(ii v5))],Vv [⟨[(ii aS),(ii aU),(ii aT)],50,none⟩] 0,1,[],true⟩,[],.leaf⟩
def x9y :List (Option (List Nat)):=[some [0,3,5]]
def x9z :List (Option (List Nat)):=[]
def z7h (l0:List R6) (aS:Int) (aU:Int) (aT:Int):rh6S→Xw rh6S
 | .h0 v5=>(bif (decide (v5<(l0.length:Int))) then (bif ((decide (0≤v5∧v5<(l0.length:Int)))&&true) then (bif (decide ((rd l0 v5.toNat).a ≤aS)) then (bif (decide (aS<(rd l0 v5.toNat).d)) then (bif (decide ((rd l0 v5.toNat).b ≤aU)) then (bif (decide (aU<(rd l0 v5.toNat).e)) then (bif (decide ((rd l0 v5.toNat).c ≤aT)) then (bif (decide (aT<(rd l0 v5.toNat).f)) then (.ret [(.bool true)]) else (.to (.h0 (wrap .i64 (v5+1))))) else (.to (.h0 (wrap .i64 (v5+1))))) else (.to (.h0 (wrap .i64 (v5+1))))) else (.to (.h0 (wrap .i64 (v5+1))))) else (.to (.h0 (wrap .i64 (v5+1))))) else (.to (.h0 (wrap .i64 (v5+1))))) else .stuck) else (.ret [(.bool false)]))
def x2w (l0:List R6) (aS:Int) (aU:Int) (aT:Int):Xw rh6S:=(.to (.h0 0))
theorem w8x (l0:List R6) (aS:Int) (aU:Int) (aT:Int): ∀s,Xv prog (Zy prog 29) (rh6C l0 aS aU aT) (rh6C l0 aS aU aT s) (z7h l0 aS aU aT s)
 | .h0 v5=>(lb (fun k0=>(lo fun aI=>(lb (fun k1=>(lb (fun k2=>(lb (fun k3=>(lb (fun k4=>(lb (fun k5=>(lb (fun k6=>(lr 18 29 [1,0,1,0,0,1,0,0,1,0,0] 1 6 [(4,(.bool true))] (sl Xj 19 [] ⟨[],[],[some [4]],[]⟩ ⟨[],[],[]⟩ (trs 32 []) (tt k6 (tt k5 (tt k4 (tt k3 (tt k2 (tt k1 (ww aI (tt k0 nn))))))))))) (fun k6=>(sl Xj 23 [] ⟨[0],[],x9y,x9z⟩ ⟨[],[],[]⟩ (trs 31 [false]) (tt k6 (tt k5 (tt k4 (tt k3 (tt k2 (tt k1 (ww aI (tt k0 nn)))))))))))) (fun k5=>(sl Xj 23 [] ⟨[0],[],x9y,x9z⟩ ⟨[],[],[]⟩ (trs 25 (bl 7 0)) (tt k5 (tt k4 (tt k3 (tt k2 (tt k1 (ww aI (tt k0 nn))))))))))) (fun k4=>(sl Xj 23 [] ⟨[0],[],x9y,x9z⟩ ⟨[],[],[]⟩ (trs 19 (bl 13 0)) (tt k4 (tt k3 (tt k2 (tt k1 (ww aI (tt k0 nn)))))))))) (fun k3=>(sl Xj 23 [] ⟨[0],[],x9y,x9z⟩ ⟨[],[],[]⟩ (trs 13 (bl 19 0)) (tt k3 (tt k2 (tt k1 (ww aI (tt k0 nn))))))))) (fun k2=>(sl Xj 23 [] ⟨[0],[],x9y,x9z⟩ ⟨[],[],[]⟩ (trs 7 (bl 25 0)) (tt k2 (tt k1 (ww aI (tt k0 nn)))))))) (fun k1=>(sl Xj 23 [] ⟨[0],[],x9y,x9z⟩ ⟨[],[],[]⟩ (bl 32 1) (tt k1 (ww aI (tt k0 nn)))))))) (fun k0=>(lr 18 3 [1,1,1,1,0] 1 6 [(4,(.bool false))] (sl Xj 14 [] ⟨[],[],[some [4]],[]⟩ ⟨[],[],[]⟩ [false] (tt k0 nn)))))
theorem x9x (l0:List R6) (aS:Int) (aU:Int) (aT:Int):Xv prog (Zy prog 29) (rh6C l0 aS aU aT) (Za prog 29 [(.dat l0.length (Zz l0)),(.agg [(.int .i64 aS),(.int .i64 aU),(.int .i64 aT)])] true []) (x2w l0 aS aU aT):=(sl Xj 12 [] ⟨[0],[],x9y,x9z⟩ ⟨[],[],[]⟩ [] nn)
theorem u2l (l0:List R6) (aS:Int) (aU:Int) (aT:Int) (n:Nat) (vs:List AVal) (h:Zt (z7h l0 aS aU aT) n (x2w l0 aS aU aT)=.ret vs):Uv prog (Zy prog 29) (Za prog 29 [(.dat l0.length (Zz l0)),(.agg [(.int .i64 aS),(.int .i64 aU),(.int .i64 aT)])] true []) vs:=by have:=Ze (w8x l0 aS aU aT) n _ (x9x l0 aS aU aT);rwa [h] at this
inductive rsqS where
 | h0 (v5:Int)
def rsqC (l0:List R7) (l1:List R7):rsqS→Cfg
 | .h0 v5=>⟨⟨26,0,true⟩,none,(Zg prog 23 [1,1,0,1,0,0] 0),none,(Zy prog 6),⟨Yk [(0,(.dat l0.length (Zz l0))),(1,(.dat l1.length (Zz l1))),(5,(ii v5))],Vv [] 0,0,[],true⟩,[],.leaf⟩
def rsqN0 :List (Option (List Nat)):=[some [0,1,5]]
def rsqM0 :List (Option (List Nat)):=[]
def z7e (l0:List R7) (l1:List R7):rsqS→Xw rsqS
 | .h0 v5=>(bif (decide (v5<(l0.length:Int))) then (bif ((decide (0≤v5∧v5<(l0.length:Int)))&&true) then (bif ((decide (0≤v5∧v5<(l1.length:Int)))&&true) then (bif (!(((rd l0 v5.toNat).a == (rd l1 v5.toNat).a)&&((((rd l0 v5.toNat).b == (rd l1 v5.toNat).b)&&(((rd l0 v5.toNat).c == (rd l1 v5.toNat).c)&&(((rd l0 v5.toNat).d == (rd l1 v5.toNat).d)&&true)))&&((((rd l0 v5.toNat).e == (rd l1 v5.toNat).e)&&(((rd l0 v5.toNat).f == (rd l1 v5.toNat).f)&&(((rd l0 v5.toNat).g == (rd l1 v5.toNat).g)&&true)))&&true)))) then (.ret [(.bool false)]) else (.to (.h0 (wrap .i64 (v5+1))))) else .stuck) else .stuck) else (.ret [(.bool true)]))
def y4f (l0:List R7) (l1:List R7):Xw rsqS:=(bif ((l0.length:Int) != (l1.length:Int)) then (.ret [(.bool false)]) else (.to (.h0 0)))
theorem w8m (l0:List R7) (l1:List R7): ∀s,Xv prog (Zy prog 23) (rsqC l0 l1) (rsqC l0 l1 s) (z7e l0 l1 s)
 | .h0 v5=>(lb (fun k0=>(lo fun aI=>(lo fun bG=>(lb (fun k1=>(lr 26 23 [1,1,0,1,0,0,1,0,0,1,0,0] 1 6 [(4,(.bool false))] (sl Xj 19 [] ⟨[],[],[some [4]],[]⟩ ⟨[],[],[]⟩ (bl 2 3) (tt k1 (ww bG (ww aI (tt k0 nn))))))) (fun k1=>(sl Xj 23 [] ⟨[],[],rsqN0,rsqM0⟩ ⟨[],[],[]⟩ (bl 2 1) (tt k1 (ww bG (ww aI (tt k0 nn)))))))))) (fun k0=>(lr 26 3 [1,1,1,1,0] 1 6 [(4,(.bool true))] (sl Xj 14 [] ⟨[],[],[some [4]],[]⟩ ⟨[],[],[]⟩ [false] (tt k0 nn)))))
theorem x9i (l0:List R7) (l1:List R7):Xv prog (Zy prog 23) (rsqC l0 l1) (Za prog 23 [(.dat l0.length (Zz l0)),(.dat l1.length (Zz l1))] true []) (y4f l0 l1):=(lb (fun k0=>(lr 26 23 [1,0,1,0,0] 1 6 [(4,(.bool false))] (sl Xj 18 [] ⟨[],[],[some [4]],[]⟩ ⟨[],[],[]⟩ [true] (tt k0 nn)))) (fun k0=>(sl Xj 22 [] ⟨[],[],rsqN0,rsqM0⟩ ⟨[],[],[]⟩ [false] (tt k0 nn))))
theorem u1x (l0:List R7) (l1:List R7) (n:Nat) (vs:List AVal) (h:Zt (z7e l0 l1) n (y4f l0 l1)=.ret vs):Uv prog (Zy prog 23) (Za prog 23 [(.dat l0.length (Zz l0)),(.dat l1.length (Zz l1))] true []) vs:=by have:=Ze (w8m l0 l1) n _ (x9i l0 l1);rwa [h] at this
inductive rcmS where
def rcmC (aJ:Int) (aO:Int) (aN:Int) (aQ:Int) (aW:Int) (aV:Int) (aS:Int) (aU:Int) (aT:Int) (bV:Int) (bW:Int) (bU:Int):rcmS→Cfg
 :=nofun
def w0i (aJ:Int) (aO:Int) (aN:Int) (aQ:Int) (aW:Int) (aV:Int) (aS:Int) (aU:Int) (aT:Int) (bV:Int) (bW:Int) (bU:Int):rcmS→Xw rcmS
 :=nofun
def y4q (aJ:Int) (aO:Int) (aN:Int) (aQ:Int) (aW:Int) (aV:Int) (aS:Int) (aU:Int) (aT:Int) (bV:Int) (bW:Int) (bU:Int):Xw rcmS:=(bif (decide ((Kf aJ aS)≥(Ke aQ bV))) then (.ret [(.agg [(.int .i64 0),(.int .i64 0),(.int .i64 0),(.int .i64 0),(.int .i64 0),(.int .i64 0)])]) else (bif (decide ((Kf aO aU)≥(Ke aW bW))) then (.ret [(.agg [(.int .i64 0),(.int .i64 0),(.int .i64 0),(.int .i64 0),(.int .i64 0),(.int .i64 0)])]) else (bif (decide ((Kf aN aT)≥(Ke aV bU))) then (.ret [(.agg [(.int .i64 0),(.int .i64 0),(.int .i64 0),(.int .i64 0),(.int .i64 0),(.int .i64 0)])]) else (.ret [(.agg [(.int .i64 (Kf aJ aS)),(.int .i64 (Kf aO aU)),(.int .i64 (Kf aN aT)),(.int .i64 (Ke aQ bV)),(.int .i64 (Ke aW bW)),(.int .i64 (Ke aV bU))])]))))
theorem w9e (aJ:Int) (aO:Int) (aN:Int) (aQ:Int) (aW:Int) (aV:Int) (aS:Int) (aU:Int) (aT:Int) (bV:Int) (bW:Int) (bU:Int): ∀s,Xv prog (Zy prog 61) (rcmC aJ aO aN aQ aW aV aS aU aT bV bW bU) (rcmC aJ aO aN aQ aW aV aS aU aT bV bW bU s) (w0i aJ aO aN aQ aW aV aS aU aT bV bW bU s)
 :=nofun
theorem w0j (aJ:Int) (aO:Int) (aN:Int) (aQ:Int) (aW:Int) (aV:Int) (aS:Int) (aU:Int) (aT:Int) (bV:Int) (bW:Int) (bU:Int):Xv prog (Zy prog 61) (rcmC aJ aO aN aQ aW aV aS aU aT bV bW bU) (Za prog 61 [(.agg [(.int .i64 aJ),(.int .i64 aO),(.int .i64 aN),(.int .i64 aQ),(.int .i64 aW),(.int .i64 aV)]),(.agg [(.int .i64 aS),(.int .i64 aU),(.int .i64 aT),(.int .i64 bV),(.int .i64 bW),(.int .i64 bU)])] true []) (y4q aJ aO aN aQ aW aV aS aU aT bV bW bU):=(lb (fun k0=>(z2d ⟨⟨78,0,true⟩,none,(Zg prog 61 [1,1,0,1,0,0] 1),none,(Zy prog 61),⟨Yk [(4,(.ptr 0 0))],Vv [⟨[(ii 0),(ii 0),(ii 0),(ii 0),(ii 0),(ii 0)],57,none⟩] 0,1,[],true⟩,[],.leaf⟩ (sl Xj 91 [] ⟨[2],[],[some [4]],[]⟩ ⟨[],[],[]⟩ (trs 15 []) (tt k0 nn)) rfl (by kernel_rfl))) (fun k0=>(lb (fun k1=>(z2d ⟨⟨78,0,true⟩,none,(Zg prog 61 [1,1,0,1,0,0] 1),none,(Zy prog 61),⟨Yk [(4,(.ptr 0 0))],Vv [⟨[(ii 0),(ii 0),(ii 0),(ii 0),(ii 0),(ii 0)],57,none⟩] 0,1,[],true⟩,[],.leaf⟩ (sl Xj 91 [] ⟨[2],[],[some [4]],[]⟩ ⟨[],[],[]⟩ [false,false,false,false,false,false,false,true,true,true,true,true,true,true,true] (tt k1 (tt k0 nn))) rfl (by kernel_rfl))) (fun k1=>(lb (fun k2=>(z2d ⟨⟨78,0,true⟩,none,(Zg prog 61 [1,1,0,1,0,0] 1),none,(Zy prog 61),⟨Yk [(4,(.ptr 0 0))],Vv [⟨[(ii 0),(ii 0),(ii 0),(ii 0),(ii 0),(ii 0)],57,none⟩] 0,1,[],true⟩,[],.leaf⟩ (sl Xj 91 [] ⟨[2],[],[some [4]],[]⟩ ⟨[],[],[]⟩ [false,false,false,false,false,false,false,false,false,false,false,false,false,false,true] (tt k2 (tt k1 (tt k0 nn)))) rfl (by kernel_rfl))) (fun k2=>(z2d ⟨⟨78,0,true⟩,none,(Zg prog 3 [1,1,1,1,0] 1),none,(Zy prog 61),⟨Yk [(4,(.ptr 0 0))],Vv [⟨[(ii (Kf aJ aS)),(ii (Kf aO aU)),(ii (Kf aN aT)),(ii (Ke aQ bV)),(ii (Ke aW bW)),(ii (Ke aV bU))],57,none⟩] 0,1,[],true⟩,[],.leaf⟩ (sl Xj 92 [] ⟨[2],[],[some [4]],[]⟩ ⟨[],[],[]⟩ [false,false,false,false,false,false,false,false,false,false,false,false,false,false,false] (tt k2 (tt k1 (tt k0 nn)))) rfl (by kernel_rfl))))))))
theorem u3b (aJ:Int) (aO:Int) (aN:Int) (aQ:Int) (aW:Int) (aV:Int) (aS:Int) (aU:Int) (aT:Int) (bV:Int) (bW:Int) (bU:Int) (n:Nat) (vs:List AVal) (h:Zt (w0i aJ aO aN aQ aW aV aS aU aT bV bW bU) n (y4q aJ aO aN aQ aW aV aS aU aT bV bW bU)=.ret vs):Uv prog (Zy prog 61) (Za prog 61 [(.agg [(.int .i64 aJ),(.int .i64 aO),(.int .i64 aN),(.int .i64 aQ),(.int .i64 aW),(.int .i64 aV)]),(.agg [(.int .i64 aS),(.int .i64 aU),(.int .i64 aT),(.int .i64 bV),(.int .i64 bW),(.int .i64 bU)])] true []) vs:=by have:=Ze (w9e aJ aO aN aQ aW aV aS aU aT bV bW bU) n _ (w0j aJ aO aN aQ aW aV aS aU aT bV bW bU);rwa [h] at this
inductive ribS where
def ribC (aJ:Int) (aO:Int) (aN:Int) (aQ:Int) (aW:Int) (aV:Int) (aS:Int) (aU:Int) (aT:Int):ribS→Cfg
 :=nofun
def x9t (aJ:Int) (aO:Int) (aN:Int) (aQ:Int) (aW:Int) (aV:Int) (aS:Int) (aU:Int) (aT:Int):ribS→Xw ribS
 :=nofun
def y4o (aJ:Int) (aO:Int) (aN:Int) (aQ:Int) (aW:Int) (aV:Int) (aS:Int) (aU:Int) (aT:Int):Xw ribS:=(bif (decide (aJ≤aS)) then (bif (decide (aS<aQ)) then (bif (decide (aO≤aU)) then (bif (decide (aU<aW)) then (bif (decide (aN≤aT)) then (.ret [(.bool (decide (aT<aV)))]) else (.ret [(.bool false)])) else (.ret [(.bool false)])) else (.ret [(.bool false)])) else (.ret [(.bool false)])) else (.ret [(.bool false)]))
theorem w8w (aJ:Int) (aO:Int) (aN:Int) (aQ:Int) (aW:Int) (aV:Int) (aS:Int) (aU:Int) (aT:Int): ∀s,Xv prog (Zy prog 30) (ribC aJ aO aN aQ aW aV aS aU aT) (ribC aJ aO aN aQ aW aV aS aU aT s) (x9t aJ aO aN aQ aW aV aS aU aT s)
 :=nofun
theorem x9u (aJ:Int) (aO:Int) (aN:Int) (aQ:Int) (aW:Int) (aV:Int) (aS:Int) (aU:Int) (aT:Int):Xv prog (Zy prog 30) (ribC aJ aO aN aQ aW aV aS aU aT) (Za prog 30 [(.agg [(.int .i64 aJ),(.int .i64 aO),(.int .i64 aN),(.int .i64 aQ),(.int .i64 aW),(.int .i64 aV)]),(.agg [(.int .i64 aS),(.int .i64 aU),(.int .i64 aT)])] true []) (y4o aJ aO aN aQ aW aV aS aU aT):=(lb (fun k0=>(lb (fun k1=>(lb (fun k2=>(lb (fun k3=>(lb (fun k4=>(lr 51 3 [1,1,1,1,0] 1 6 [(4,(.bool (decide (aT<aV))))] (sl Xj 56 [] ⟨[],[],[some [4]],[]⟩ ⟨[],[],[]⟩ (trs 30 []) (tt k4 (tt k3 (tt k2 (tt k1 (tt k0 nn)))))))) (fun k4=>(lr 51 3 [1,1,1,1,0] 1 6 [(4,(.bool false))] (sl Xj 56 [] ⟨[],[],[some [4]],[]⟩ ⟨[],[],[]⟩ (trs 24 [false,false,false,false,false,false]) (tt k4 (tt k3 (tt k2 (tt k1 (tt k0 nn)))))))))) (fun k3=>(lr 51 3 [1,1,1,1,0] 1 6 [(4,(.bool false))] (sl Xj 56 [] ⟨[],[],[some [4]],[]⟩ ⟨[],[],[]⟩ (trs 18 [false,false,false,false,false,false,false,false,false,false,false,false]) (tt k3 (tt k2 (tt k1 (tt k0 nn))))))))) (fun k2=>(lr 51 3 [1,1,1,1,0] 1 6 [(4,(.bool false))] (sl Xj 56 [] ⟨[],[],[some [4]],[]⟩ ⟨[],[],[]⟩ (trs 12 [false,false,false,false,false,false,false,false,false,false,false,false,false,false,false,false,false,false]) (tt k2 (tt k1 (tt k0 nn)))))))) (fun k1=>(lr 51 3 [1,1,1,1,0] 1 6 [(4,(.bool false))] (sl Xj 56 [] ⟨[],[],[some [4]],[]⟩ ⟨[],[],[]⟩ (trs 6 [false,false,false,false,false,false,false,false,false,false,false,false,false,false,false,false,false,false,false,false,false,false,false,false]) (tt k1 (tt k0 nn))))))) (fun k0=>(lr 51 3 [1,1,1,1,0] 1 6 [(4,(.bool false))] (sl Xj 56 [] ⟨[],[],[some [4]],[]⟩ ⟨[],[],[]⟩ [false,false,false,false,false,false,false,false,false,false,false,false,false,false,false,false,false,false,false,false,false,false,false,false,false,false,false,false,false,false] (tt k0 nn)))))
theorem u2i (aJ:Int) (aO:Int) (aN:Int) (aQ:Int) (aW:Int) (aV:Int) (aS:Int) (aU:Int) (aT:Int) (n:Nat) (vs:List AVal) (h:Zt (x9t aJ aO aN aQ aW aV aS aU aT) n (y4o aJ aO aN aQ aW aV aS aU aT)=.ret vs):Uv prog (Zy prog 30) (Za prog 30 [(.agg [(.int .i64 aJ),(.int .i64 aO),(.int .i64 aN),(.int .i64 aQ),(.int .i64 aW),(.int .i64 aV)]),(.agg [(.int .i64 aS),(.int .i64 aU),(.int .i64 aT)])] true []) vs:=by have:=Ze (w8w aJ aO aN aQ aW aV aS aU aT) n _ (x9u aJ aO aN aQ aW aV aS aU aT);rwa [h] at this
inductive nr39S where
 | h0 (v3:Int)
def j6a (l0:List R6):nr39S→Cfg
 | .h0 v3=>⟨⟨103,0,true⟩,none,(Zg prog 37 [1,1,0,1,0,0] 0),none,(Zy prog 9),⟨Yk [(0,(.dat l0.length (Zz l0))),(3,(ii v3))],Vv [] 0,0,[],true⟩,[],.leaf⟩
def j0d :List (Option (List Nat)):=[some [0,3]]
def j0e :List (Option (List Nat)):=[]
def z6f (l0:List R6):nr39S→Xw nr39S
 | .h0 v3=>(bif (decide (v3<(l0.length:Int))) then (bif ((decide (0≤v3∧v3<(l0.length:Int)))&&true) then (bif (decide ((Ke (Ke (rd l0 v3.toNat).a (rd l0 v3.toNat).b) (rd l0 v3.toNat).c)<(-12))) then (.ret [(.bool false)]) else (bif (decide ((Kf (Kf (rd l0 v3.toNat).d (rd l0 v3.toNat).e) (rd l0 v3.toNat).f)>12)) then (.ret [(.bool false)]) else (bif (decide ((Ke (Ke (rd l0 v3.toNat).d (rd l0 v3.toNat).e) (rd l0 v3.toNat).f)<(-12))) then (.ret [(.bool false)]) else (bif (decide ((Kf (Kf (rd l0 v3.toNat).a (rd l0 v3.toNat).b) (rd l0 v3.toNat).c)>12)) then (.ret [(.bool false)]) else (.to (.h0 (wrap .i64 (v3+1)))))))) else .stuck) else (.ret [(.bool (decide ((l0.length:Int)≤6)))]))
def z9h (l0:List R6):Xw nr39S:=(bif (decide ((l0.length:Int)>400)) then (.ret [(.bool (decide ((l0.length:Int)≤420)))]) else (.to (.h0 0)))
theorem w0s (l0:List R6): ∀s,Xv prog (Zy prog 37) (j6a l0) (j6a l0 s) (z6f l0 s)
 | .h0 v3=>(lb (fun k0=>(lo fun aI=>(lb (fun k1=>(lr 103 37 [1,1,0,1,0,0,1,0,0,0,1,0,0] 1 9 [(2,(.bool false))] (sl Xj 20 [] ⟨[],[],[some [2]],[]⟩ ⟨[],[],[]⟩ (trs 22 []) (tt k1 (ww aI (ww aI (ww aI (tt k0 nn)))))))) (fun k1=>(lb (fun k2=>(lr 103 37 [1,1,0,1,0,0,1,0,0,0,1,0,0] 1 9 [(2,(.bool false))] (sl Xj 20 [] ⟨[],[],[some [2]],[]⟩ ⟨[],[],[]⟩ (bl 22 2097153) (tt k2 (ww aI (ww aI (ww aI (tt k1 (ww aI (ww aI (ww aI (tt k0 nn)))))))))))) (fun k2=>(lb (fun k3=>(lr 103 37 [1,1,0,1,0,0,1,0,0,1,1,0,0] 1 9 [(2,(.bool false))] (sl Xj 24 [] ⟨[],[],[some [2]],[]⟩ ⟨[],[],[]⟩ (bl 43 8796088827905) (tt k3 (ww aI (ww aI (ww aI (tt k2 (ww aI (ww aI (ww aI (tt k1 (ww aI (ww aI (ww aI (tt k0 nn)))))))))))))))) (fun k3=>(lb (fun k4=>(lr 103 37 [1,1,0,1,0,0,1,0,0,1,1,0,0] 1 9 [(2,(.bool false))] (sl Xj 24 [] ⟨[],[],[some [2]],[]⟩ ⟨[],[],[]⟩ (bl 43 4398046511105) (tt k4 (ww aI (ww aI (ww aI (tt k3 (ww aI (ww aI (ww aI (tt k2 (ww aI (ww aI (ww aI (tt k1 (ww aI (ww aI (ww aI (tt k0 nn)))))))))))))))))))) (fun k4=>(sl Xj 28 [] ⟨[],[],j0d,j0e⟩ ⟨[],[],[]⟩ (bl 43 1) (tt k4 (ww aI (ww aI (ww aI (tt k3 (ww aI (ww aI (ww aI (tt k2 (ww aI (ww aI (ww aI (tt k1 (ww aI (ww aI (ww aI (tt k0 nn)))))))))))))))))))))))))))) (fun k0=>(lr 103 3 [1,1,1,1,0] 1 9 [(2,(.bool (decide ((l0.length:Int)≤6))))] (sl Xj 17 [] ⟨[],[],[some [2]],[]⟩ ⟨[],[],[]⟩ [false] (tt k0 nn)))))
theorem x5v (l0:List R6):Xv prog (Zy prog 37) (j6a l0) (Za prog 37 [(.dat l0.length (Zz l0))] true []) (z9h l0):=(lb (fun k0=>(lr 103 37 [1,0,1,0,0] 1 9 [(2,(.bool (decide ((l0.length:Int)≤420))))] (sl Xj 19 [] ⟨[],[],[some [2]],[]⟩ ⟨[],[],[]⟩ [true] (tt k0 nn)))) (fun k0=>(sl Xj 20 [] ⟨[],[],j0d,j0e⟩ ⟨[],[],[]⟩ [false] (tt k0 nn))))
theorem v6e (l0:List R6) (n:Nat) (vs:List AVal) (h:Zt (z6f l0) n (z9h l0)=.ret vs):Uv prog (Zy prog 37) (Za prog 37 [(.dat l0.length (Zz l0))] true []) vs:=by have:=Ze (w0s l0) n _ (x5v l0);rwa [h] at this
def x7s (x y z lo:Int):Bool:=decide (x≥lo)&&(decide (y≥lo)&&(decide (z≥lo)&&(decide (x≤1000000)&&(decide (y≤1000000)&&decide (z≤1000000)))))
theorem j5b (x y z lo:Int): ∃N,Zt (x9r x y z lo) N (y4n x y z lo)=.ret [.bool (x7s x y z lo)]:=⟨0,by
 unfold y4n x7s;cases decide (x≥lo) <;> cases decide (y≥lo) <;> cases decide (z≥lo) <;> cases decide (x≤1000000) <;> cases decide (y≤1000000) <;> rfl⟩
def fRin :List AVal→Option (AVal×Bool)
 | [.agg [.int .i64 x,.int .i64 y,.int .i64 z],.int .i64 lo]=>some (.bool (x7s x y z lo),true)
 | _=>none
theorem j7z {S:Specs} (hS:Zu prog S):Zu prog (S.with v6s fRin):=by
 refine z0k hS (by kernel_rfl) fun args v h=> ?_;unfold fRin at h;split at h
 ·rename_i x y z lo;simp only [Ad,Ac,Bk] at h;subst h;obtain ⟨N,hN⟩:=j5b x y z lo;exact ⟨_,_,(.cons (.refl _) (.cons (.refl _) .nil)),rfl,u2h x y z lo N _ hN,3,rfl⟩
 ·cases h
def crdV (x y z i:Int):Int:=bif i == 0 then x else bif i == 1 then y else z
theorem j9o (x y z i:Int): ∃N,Zt (w2w x y z i) N (y5i x y z i)=.ret [.int .i64 (crdV x y z i)]:=⟨0,by
 unfold y5i crdV;cases (i == 0) <;> cases (i == 1) <;> rfl⟩
def fCrd :List AVal→Option (AVal×Bool)
 | [.agg [.int .i64 aJ,.int .i64 aO,.int .i64 aN],.int .i64 x1]=>some (.int .i64 (crdV aJ aO aN x1),true)
 | _=>none
theorem j8v {S:Specs} (hS:Zu prog S):Zu prog (S.with w5q fCrd):=by
 refine z0k hS (by kernel_rfl) fun args v h=> ?_;unfold fCrd at h;split at h
 ·rename_i aJ aO aN x1;simp only [Ad,Ac,Bk] at h;subst h;obtain ⟨N,hN⟩:=j9o aJ aO aN x1;exact ⟨_,_,(.cons (.refl _) (.cons (.refl _) .nil)),rfl,u5r aJ aO aN x1 N _ hN,3,rfl⟩
 ·cases h
def u3k (i a x y:Int):R3:=bif i == 0 then ⟨a,x,y⟩ else bif i == 1 then ⟨x,a,y⟩ else ⟨x,y,a⟩
def shR (x y z:Int) (r:R6):Bool:=decide (r.a≤x)&&(decide (x<r.d)&&(decide (r.b≤y)&&(decide (y<r.e)&&(decide (r.c≤z)&&decide (z<r.f)))))
def shsV (L:List R6) (x y z:Int):Bool:=L.any (shR x y z)
def rh6V (L:List R6) (x y z:Int):Bool:=shsV L x y z
def x5f (L:List R6) (x y z:Int):Bool:=decide (L.length≤100000)
theorem u9h {L:List R6} {x y z:Int} (hl:L.length≤100000): ∀(k i:Nat),i+k=L.length→ ∃N,Zt (z7h L x y z) N (.to (.h0 (i:Int)))=.ret [.bool ((L.drop i).any (shR x y z))]
 | 0,i,h=>by
  refine ⟨1,?_⟩
  grind [Zw,z7h,Zp]
 | k+1,i,h=>by
  have hi:i<L.length:=by omega
  obtain ⟨N,hN⟩:=u9h (x:=x) (y:=y) (z:=z) hl k (i+1) (by omega);refine ⟨N+1,?_⟩;rw [Zw,Yg hi,BJ];have e:z7h L x y z (.h0 (i:Int))=bif shR x y z (rd L i) then .ret [.bool true] else .to (.h0 ((i+1:Nat):Int)):=by unfold shR;simp (disch:=omega) only [z7h,y1v,Zs,Zo,Zk,Zx,Zj,Ah,Ab]
  grind [Zp]
theorem j5e (L:List R6) (x y z:Int) (h:x5f L x y z=true): ∃N,Zt (z7h L x y z) N (x2w L x y z)=.ret [.bool (rh6V L x y z)]:=by obtain ⟨N,hN⟩:=u9h (x:=x) (y:=y) (z:=z) (Av h) L.length 0 (Af _);exact ⟨N,hN⟩
def fRh6 :List AVal→Option (AVal×Bool)
 | [a0,.agg [.int .i64 aS,.int .i64 aU,.int .i64 aT]]=>match asL R6 a0 with
  | some (L0,g0,n0)=>some (.bool (rh6V L0 aS aU aT),isT R6 n0 g0&&(x5f L0 aS aU aT))
  | _=>none
 | _=>none
theorem j8b {S:Specs} (hS:Zu prog S):Zu prog (S.with j0m fRh6):=by
 refine z0k hS (by kernel_rfl) fun args v h=> ?_;unfold fRh6 at h;split at h
 ·rename_i a0 aS aU aT;split at h
  ·rename_i L0 g0 n0 e0;simp only [Ad,Ac,Ae] at h;obtain ⟨rfl,ho0,hw⟩:=h;obtain ⟨N,hN⟩:=j5e L0 aS aU aT hw;exact ⟨_,_,(.cons (Yh e0 ho0) (.cons (.refl _) .nil)),rfl,u2l L0 aS aU aT N _ hN,3,rfl⟩
  ·cases h
 ·cases h
def twiV (L:List R6):List R6:=L
def y5r (L:List R6):Bool:=decide (L.length≤2000000)
def fTwi :List AVal→Option (AVal×Bool)
 | [a0]=>match asL R6 a0 with
  | some (L0,g0,n0)=>some (.dat (twiV L0).length (Zz (twiV L0)),isT R6 n0 g0&&(y5r L0))
  | _=>none
 | _=>none
instance : DecidableEq R7:=Classical.typeDecidableEq _
def same7V (l m:List R7):Bool:=decide (l=m)
def eq7 (r s:R7):Bool:=(r.a == s.a)&&(((r.b == s.b)&&((r.c == s.c)&&((r.d == s.d)&&true)))&&(((r.e == s.e)&&((r.f == s.f)&&((r.g == s.g)&&true)))&&true))
theorem v8d (r s:R7):eq7 r s=true↔r=s:=by obtain ⟨a,b,c,d,e,f,g⟩:=r;obtain ⟨a',b',c',d',e',f',g'⟩:=s;simp [eq7,and_assoc]
def rsqV (l m:List R7):Bool:=same7V l m
def z8l (l m:List R7):Bool:=decide (l.length≤1000000)
theorem u8q (l m:List R7) (hl:l.length≤1000000) (hm:l.length=m.length): ∀(k i:Nat),i+k=l.length→ ∃N,Zt (z7e l m) N (.to (.h0 (i:Int)))=.ret [.bool (decide (l.drop i=m.drop i))]
 | 0,i,h=>by
  refine ⟨1,?_⟩
  grind [Zw,z7e,Zp]
 | k+1,i,h=>by
  have hi:i<l.length:=by omega
  obtain ⟨N,hN⟩:=u8q l m hl hm k (i+1) (by omega);refine ⟨N+1,?_⟩;rw [Zw,Yg hi,Yg (show i<m.length by omega)];have e:z7e l m (.h0 (i:Int))=bif !(eq7 (rd l i) (rd m i)) then .ret [.bool false] else .to (.h0 ((i+1:Nat):Int)):=by
   grind [z7e,eq7,Zk]
  rw [e];by_cases q:rd l i=rd m i
  ·rw [(v8d _ _).2 q,Aw,Aa,hN];simp_all
  ·rw [show eq7 (rd l i) (rd m i)=false from A0.2 fun h=>q ((v8d _ _).1 h),Az,Ab,Zp];simp_all
theorem j4m (l m:List R7) (h:z8l l m=true): ∃N,Zt (z7e l m) N (y4f l m)=.ret [.bool (rsqV l m)]:=by
 have hl:l.length≤1000000:=Av h;unfold y4f;by_cases hm:l.length=m.length
 ·obtain ⟨N,hN⟩:=u8q l m hl hm l.length 0 (Af _);refine ⟨N,?_⟩;rw [show ((l.length:Int) != (m.length:Int))=false by rw [hm];simp,Aa];exact hN
 ·refine ⟨0,?_⟩;rw [show ((l.length:Int) != (m.length:Int))=true by simp;omega,Ab,Zp]
  congr 3
  exact (AB fun e=>hm (by rw [e])).symm
def fRsq :List AVal→Option (AVal×Bool)
 | [a0,a1]=>match asL R7 a0,asL R7 a1 with
  | some (L0,g0,n0),some (L1,g1,n1)=>some (.bool (rsqV L0 L1),isT R7 n0 g0&&(isT R7 n1 g1&&(z8l L0 L1)))
  | _,_=>none
 | _=>none
theorem v7z {S:Specs} (hS:Zu prog S):Zu prog (S.with v6o fRsq):=by
 refine z0k hS (by kernel_rfl) fun args v h=> ?_;unfold fRsq at h;split at h
 ·rename_i a0 a1;split at h
  ·rename_i L0 g0 n0 L1 g1 n1 e0 e1;simp only [Ad,Ac,Ae] at h;obtain ⟨rfl,ho0,ho1,hw⟩:=h;obtain ⟨N,hN⟩:=j4m L0 L1 hw;exact ⟨_,_,(.cons (Yh e0 ho0) (.cons (Yh e1 ho1) .nil)),rfl,u1x L0 L1 N _ hN,3,rfl⟩
  ·cases h
 ·cases h
def y0l (a b c d e f a2 b2 c2 d2 e2 f2:Int):R6:=bif decide (Kf a a2≥Ke d d2)||(decide (Kf b b2≥Ke e e2)||decide (Kf c c2≥Ke f f2)) then ⟨0,0,0,0,0,0⟩ else ⟨Kf a a2,Kf b b2,Kf c c2,Ke d d2,Ke e e2,Ke f f2⟩
theorem j5m (a b c d e f a2 b2 c2 d2 e2 f2:Int): ∃N,Zt (w0i a b c d e f a2 b2 c2 d2 e2 f2) N (y4q a b c d e f a2 b2 c2 d2 e2 f2)=.ret [.agg [.int .i64 (y0l a b c d e f a2 b2 c2 d2 e2 f2).a,.int .i64 (y0l a b c d e f a2 b2 c2 d2 e2 f2).b,.int .i64 (y0l a b c d e f a2 b2 c2 d2 e2 f2).c,.int .i64 (y0l a b c d e f a2 b2 c2 d2 e2 f2).d,.int .i64 (y0l a b c d e f a2 b2 c2 d2 e2 f2).e,.int .i64 (y0l a b c d e f a2 b2 c2 d2 e2 f2).f]]:=⟨0,by
 unfold y4q y0l;cases decide (Kf a a2≥Ke d d2) <;> cases decide (Kf b b2≥Ke e e2) <;> cases decide (Kf c c2≥Ke f f2) <;> rfl⟩
def fRcm :List AVal→Option (AVal×Bool)
 | [.agg [.int .i64 a,.int .i64 b,.int .i64 c,.int .i64 d,.int .i64 e,.int .i64 f],.agg [.int .i64 a2,.int .i64 b2,.int .i64 c2,.int .i64 d2,.int .i64 e2,.int .i64 f2]]=>some (.agg [.int .i64 (y0l a b c d e f a2 b2 c2 d2 e2 f2).a,.int .i64 (y0l a b c d e f a2 b2 c2 d2 e2 f2).b,.int .i64 (y0l a b c d e f a2 b2 c2 d2 e2 f2).c,.int .i64 (y0l a b c d e f a2 b2 c2 d2 e2 f2).d,.int .i64 (y0l a b c d e f a2 b2 c2 d2 e2 f2).e,.int .i64 (y0l a b c d e f a2 b2 c2 d2 e2 f2).f],true)
 | _=>none
theorem j8e {S:Specs} (hS:Zu prog S):Zu prog (S.with nRcm fRcm):=by
 refine z0k hS (by kernel_rfl) fun args v h=> ?_;unfold fRcm at h;split at h
 ·rename_i a b c d e f a2 b2 c2 d2 e2 f2;simp only [Ad,Ac,Bk] at h;subst h;obtain ⟨N,hN⟩:=j5m a b c d e f a2 b2 c2 d2 e2 f2;exact ⟨_,_,(.cons (.refl _) (.cons (.refl _) .nil)),rfl,u3b a b c d e f a2 b2 c2 d2 e2 f2 N _ hN,3,rfl⟩
 ·cases h
def ribV (a b c d e f x y z:Int):Bool:=decide (a≤x)&&(decide (x<d)&&(decide (b≤y)&&(decide (y<e)&&(decide (c≤z)&&decide (z<f)))))
theorem j5c (a b c d e f x y z:Int): ∃N,Zt (x9t a b c d e f x y z) N (y4o a b c d e f x y z)=.ret [.bool (ribV a b c d e f x y z)]:=⟨0,by
 unfold y4o ribV;cases decide (a≤x) <;> cases decide (x<d) <;> cases decide (b≤y) <;> cases decide (y<e) <;> cases decide (c≤z) <;> rfl⟩
def fRib :List AVal→Option (AVal×Bool)
 | [.agg [.int .i64 aJ,.int .i64 aO,.int .i64 aN,.int .i64 aQ,.int .i64 aW,.int .i64 aV],.agg [.int .i64 aS,.int .i64 aU,.int .i64 aT]]=>some (.bool (ribV aJ aO aN aQ aW aV aS aU aT),true)
 | _=>none
theorem j8a {S:Specs} (hS:Zu prog S):Zu prog (S.with nRib fRib):=by
 refine z0k hS (by kernel_rfl) fun args v h=> ?_;unfold fRib at h;split at h
 ·rename_i aJ aO aN aQ aW aV aS aU aT;simp only [Ad,Ac,Bk] at h;subst h;obtain ⟨N,hN⟩:=j5c aJ aO aN aQ aW aV aS aU aT;exact ⟨_,_,(.cons (.refl _) (.cons (.refl _) .nil)),rfl,u2i aJ aO aN aQ aW aV aS aU aT N _ hN,3,rfl⟩
 ·cases h
def j6b (r:R6):Bool:= !decide (Ke (Ke r.a r.b) r.c<(-12))&&(!decide (Kf (Kf r.d r.e) r.f>12)&&(!decide (Ke (Ke r.d r.e) r.f<(-12))&& !decide (Kf (Kf r.a r.b) r.c>12)))
def w9j (L:List R6):Bool:=bif decide ((L.length:Int)>400) then decide ((L.length:Int)≤420) else L.all j6b&&decide ((L.length:Int)≤6)
def Qk (L:List R6):Bool:=true
theorem v6d {L:List R6} (hl:L.length≤400): ∀(k i:Nat),i+k=L.length→ ∃N,Zt (z6f L) N (.to (.h0 (i:Int)))=.ret [.bool ((L.drop i).all j6b&&decide ((L.length:Int)≤6))]
 | 0,i,h=>by refine ⟨1,?_⟩;rw [Zw,As (by omega)];simp (disch:=omega) only [z6f,Ye,Aa];rfl
 | k+1,i,h=>by
  have hi:i<L.length:=by omega
  obtain ⟨N,hN⟩:=v6d hl k (i+1) (by omega);have hw:wrap .i64 ((i:Int)+1)=((i+1:Nat):Int):=Zk (by omega);refine ⟨N+1,?_⟩;rw [Zw,Yg hi]
  grind [z6f,Zj,j6b,Zp]
theorem u3n (L:List R6) (h:Qk L=true): ∃N,Zt (z6f L) N (z9h L)=.ret [.bool (w9j L)]:=by
 unfold z9h w9j;by_cases hl:L.length≤400
 ·obtain ⟨N,hN⟩:=v6d hl L.length 0 (Af _)
  grind
 ·refine ⟨0,?_⟩;rw [Ys (by omega)];rfl
def j8h :List AVal→Option (AVal×Bool)
 | [a0]=>match asL R6 a0 with
  | some (L0,g0,n0)=>some (.bool (w9j L0),isT R6 n0 g0&&(Qk L0))
  | _=>none
 | _=>none
theorem u5d {S:Specs} (hS:Zu prog S):Zu prog (S.with w5o j8h):=by
 refine z0k hS (by kernel_rfl) fun args v h=> ?_;unfold j8h at h;split at h
 ·rename_i a0;split at h
  ·rename_i L0 g0 n0 e0;simp only [Ad,Ac,Ae] at h;obtain ⟨rfl,ho0,hw⟩:=h;obtain ⟨N,hN⟩:=u3n L0 hw;exact ⟨_,_,(.cons (Yh e0 ho0) .nil),rfl,v6e L0 N _ hN,3,rfl⟩
  ·cases h
 ·cases h
def Vr1 :Specs:=(((((((Va.with v6s fRin).with w5q fCrd).with j0m fRh6).with v6o fRsq).with nRcm fRcm).with nRib fRib).with w5o j8h)
theorem x1w :Zu prog Vr1:=(u5d (j8a (j8e (v7z (j8b (j8v (j7z Xj)))))))
inductive rvbS where
def rvbC (aJ:Int) (aO:Int) (aN:Int) (aQ:Int) (aW:Int) (aV:Int):rvbS→Cfg
 :=nofun
def x9e (aJ:Int) (aO:Int) (aN:Int) (aQ:Int) (aW:Int) (aV:Int):rvbS→Xw rvbS
 :=nofun
def y4e (aJ:Int) (aO:Int) (aN:Int) (aQ:Int) (aW:Int) (aV:Int):Xw rvbS:=(bif (x7s aJ aO aN (-1000000)) then (bif (x7s aQ aW aV (-1000000)) then (bif (decide (aJ<aQ)) then (bif (decide (aO<aW)) then (.ret [(.bool (decide (aN<aV)))]) else (.ret [(.bool false)])) else (.ret [(.bool false)])) else (.ret [(.bool false)])) else (.ret [(.bool false)]))
theorem w8k (aJ:Int) (aO:Int) (aN:Int) (aQ:Int) (aW:Int) (aV:Int): ∀s,Xv prog (Zy prog 60) (rvbC aJ aO aN aQ aW aV) (rvbC aJ aO aN aQ aW aV s) (x9e aJ aO aN aQ aW aV s)
 :=nofun
theorem x9f (aJ:Int) (aO:Int) (aN:Int) (aQ:Int) (aW:Int) (aV:Int):Xv prog (Zy prog 60) (rvbC aJ aO aN aQ aW aV) (Za prog 60 [(.agg [(.int .i64 aJ),(.int .i64 aO),(.int .i64 aN),(.int .i64 aQ),(.int .i64 aW),(.int .i64 aV)])] true []) (y4e aJ aO aN aQ aW aV):=(lb (fun k0=>(lb (fun k1=>(lb (fun k2=>(lb (fun k3=>(lr 40 3 [1,1,1,1,0] 1 9 [(2,(.bool (decide (aN<aV))))] (sl x1w 49 [] ⟨[],[],[some [2]],[]⟩ ⟨[],[],[]⟩ (trs 24 []) (tt k3 (tt k2 (tt k1 (tt k0 nn))))))) (fun k3=>(lr 40 3 [1,1,1,1,0] 1 9 [(2,(.bool false))] (sl x1w 49 [] ⟨[],[],[some [2]],[]⟩ ⟨[],[],[]⟩ (trs 17 [false,false,false,false,false,false,false]) (tt k3 (tt k2 (tt k1 (tt k0 nn))))))))) (fun k2=>(lr 40 3 [1,1,1,1,0] 1 9 [(2,(.bool false))] (sl x1w 49 [] ⟨[],[],[some [2]],[]⟩ ⟨[],[],[]⟩ (trs 10 [false,false,false,false,false,false,false,false,false,false,false,false,false,false]) (tt k2 (tt k1 (tt k0 nn)))))))) (fun k1=>(lr 40 3 [1,1,1,1,0] 1 9 [(2,(.bool false))] (sl x1w 49 [] ⟨[],[],[some [2]],[]⟩ ⟨[],[],[]⟩ (trs 3 [false,false,false,false,false,false,false,false,false,false,false,false,false,false,false,false,false,false,false,false,false]) (tt k1 (tt k0 nn))))))) (fun k0=>(lr 40 3 [1,1,1,1,0] 1 9 [(2,(.bool false))] (sl x1w 49 [] ⟨[],[],[some [2]],[]⟩ ⟨[],[],[]⟩ [false,false,false,false,false,false,false,false,false,false,false,false,false,false,false,false,false,false,false,false,false,false,false,false] (tt k0 nn)))))
theorem u1v (aJ:Int) (aO:Int) (aN:Int) (aQ:Int) (aW:Int) (aV:Int) (n:Nat) (vs:List AVal) (h:Zt (x9e aJ aO aN aQ aW aV) n (y4e aJ aO aN aQ aW aV)=.ret vs):Uv prog (Zy prog 60) (Za prog 60 [(.agg [(.int .i64 aJ),(.int .i64 aO),(.int .i64 aN),(.int .i64 aQ),(.int .i64 aW),(.int .i64 aV)])] true []) vs:=by have:=Ze (w8k aJ aO aN aQ aW aV) n _ (x9f aJ aO aN aQ aW aV);rwa [h] at this
def rvbV (a b c d e f:Int):Bool:=x7s a b c (-1000000)&&(x7s d e f (-1000000)&&(decide (a<d)&&(decide (b<e)&&decide (c<f))))
theorem j4j (a b c d e f:Int): ∃N,Zt (x9e a b c d e f) N (y4e a b c d e f)=.ret [.bool (rvbV a b c d e f)]:=⟨0,by
 unfold y4e rvbV;cases x7s a b c (-1000000) <;> cases x7s d e f (-1000000) <;> cases decide (a<d) <;> cases decide (b<e) <;> rfl⟩
def fRvb :List AVal→Option (AVal×Bool)
 | [.agg [.int .i64 aJ,.int .i64 aO,.int .i64 aN,.int .i64 aQ,.int .i64 aW,.int .i64 aV]]=>some (.bool (rvbV aJ aO aN aQ aW aV),true)
 | _=>none
theorem j7w {S:Specs} (hS:Zu prog S):Zu prog (S.with nRvb fRvb):=by
 refine z0k hS (by kernel_rfl) fun args v h=> ?_;unfold fRvb at h;split at h
 ·rename_i aJ aO aN aQ aW aV;simp only [Ad,Ac,Bk] at h;subst h;obtain ⟨N,hN⟩:=j4j aJ aO aN aQ aW aV;exact ⟨_,_,(.cons (.refl _) .nil),rfl,u1v aJ aO aN aQ aW aV N _ hN,3,rfl⟩
 ·cases h
def endC (L:List R6) (i:Int):List Int:=L.flatMap fun r=>[crdV r.a r.b r.c i,crdV r.d r.e r.f i]
def cu9V (L:List R6) (i:Int):List Int:=z3j (endC L i)
def Vr2 :Specs:=Vr1.with nRvb fRvb
theorem Jn :Zu prog Vr2:=j7w x1w
end Go.Am
end
