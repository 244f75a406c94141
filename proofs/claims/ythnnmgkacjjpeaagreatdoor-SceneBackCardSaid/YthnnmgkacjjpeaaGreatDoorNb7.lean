/- A part of a proof: several texts in one. -/
import Derived.Test.YthnnmgkacjjpeaaGreatDoorNb6
import Derived.ChangeArms
set_option maxRecDepth 1000000
set_option maxHeartbeats 8000000
set_option linter.unusedVariables false
set_option linter.unusedSimpArgs false
noncomputable section
namespace Go.Am
open IntKind (wrap)
open Go.Proofs.Tryz
open Go.Proofs
inductive H4 where
 | h0 (v5:Int)
def MT (l0:List B5) (l1:List B5):H4->CG
 | .h0 v5=>⟨⟨68,0,true⟩,none,(Zf prog 14 [1,1,0,1,0,0] 0),none,(Zy prog 3),⟨Ye [(0,(.dat l0.length (Zz l0))),(1,(.dat l1.length (Zz l1))),(5,(ii v5))],Xs [] 0,0,[],true⟩,[],.leaf⟩
def JM :List (Option (List Nat)):=[some [0,1,5]]
def JN :List (Option (List Nat)):=[]
def LY (l0:List B5) (l1:List B5):H4->Xj H4
 | .h0 v5=>(bif (decide (v5<(l0.length:Int))) then (bif ((decide (0<=v5/\v5<(l0.length:Int)))&&true) then (bif ((decide (0<=v5/\v5<(l1.length:Int)))&&true) then (bif (!((rd l0 v5.toNat).n == (rd l1 v5.toNat).n)) then (.ret [(.bool false)]) else (bif ((rd l0 v5.toNat).a != (rd l1 v5.toNat).a) then (.ret [(.bool false)]) else (bif (!(((rd l0 v5.toNat).t == (rd l1 v5.toNat).t)&&((((rd l0 v5.toNat).x == (rd l1 v5.toNat).x)&&(((rd l0 v5.toNat).y == (rd l1 v5.toNat).y)&&(((rd l0 v5.toNat).z == (rd l1 v5.toNat).z)&&true)))&&true))) then (.ret [(.bool false)]) else (bif (Uf (B4 (rd l0 v5.toNat).s) (B4 (rd l1 v5.toNat).s)) then (bif (!(EE (B4 (rd l0 v5.toNat).s) (B4 (rd l1 v5.toNat).s))) then (.ret [(.bool false)]) else (.to (.h0 (wrap .i64 (v5+1))))) else .stuck)))) else .stuck) else .stuck) else (.ret [(.bool true)]))
def VT (l0:List B5) (l1:List B5):Xj H4:=(bif ((l0.length:Int) != (l1.length:Int)) then (.ret [(.bool false)]) else (.to (.h0 0)))
theorem w8p (l0:List B5) (l1:List B5): ∀s,Wp prog (Zy prog 14) (MT l0 l1) (MT l0 l1 s) (LY l0 l1 s)
 | .h0 v5=>(lb (fun k0=>(lo fun aG=>(lo fun aU=>let c:=ww aU (ww aG (tt k0 nn));(lb (fun k1=>(lr 68 14 [1,1,0,1,0,0,1,0,0,1,0,0] 1 3 [(4,(.bool false))] (sl HF 19 [] (b8 [4]) b7 (CE 36 []) (tt k1 c)))) (fun k1=>let a:=ww aU (ww aG (tt k1 c));(lb (fun k2=>(lr 68 14 [1,1,0,1,0,0,1,0,0,1,0,0] 1 3 [(4,(.bool false))] (sl HF 19 [] (b8 [4]) b7 (bl 36 68719472641) (tt k2 a)))) (fun k2=>let d:=ww aU (ww aG (tt k2 a));(lb (fun k3=>(lr 68 14 [1,1,0,1,0,0,1,0,0,1,0,0] 1 3 [(4,(.bool false))] (sl HF 19 [] (b8 [4]) b7 (bl 36 68711088129) (tt k3 d)))) (fun k3=>(lo fun cU=>let b:=ww aU (ww aG (tt k3 d));(lb (fun k4=>(lr 68 14 [1,1,0,1,0,0,1,0,0,1,0,0] 1 3 [(4,(.bool false))] (sl HF 19 [] (b8 [4]) b7 (bl 36 34359738369) (tt k4 (pp (pp (xI R6 (rd l0 (tn v5)).s.length (Zz (rd l0 (tn v5)).s)) (pp (xI R6 (rd l1 (tn v5)).s.length (Zz (rd l1 (tn v5)).s)) (xw cU))) b))))) (fun k4=>(sl HF 23 [] ⟨[],[],JM,JN⟩ b7 (bl 36 1) (tt k4 (pp (pp (xI R6 (rd l0 (tn v5)).s.length (Zz (rd l0 (tn v5)).s)) (pp (xI R6 (rd l1 (tn v5)).s.length (Zz (rd l1 (tn v5)).s)) (xw cU))) b))))))))))))))) (fun k0=>(lr 68 3 [1,1,1,1,1,1,0] 1 3 [(4,(.bool true))] (sl HF 14 [] (b8 [4]) b7 [false] (tt k0 nn)))))
theorem w0c (l0:List B5) (l1:List B5):Wp prog (Zy prog 14) (MT l0 l1) (Zg prog 14 [(.dat l0.length (Zz l0)),(.dat l1.length (Zz l1))] true []) (VT l0 l1):=(lb (fun k0=>(lr 68 14 [1,0,1,0,0] 1 3 [(4,(.bool false))] (sl HF 18 [] (b8 [4]) b7 [true] (tt k0 nn)))) (fun k0=>(sl HF 22 [] ⟨[],[],JM,JN⟩ b7 [false] (tt k0 nn))))
theorem u0l (l0:List B5) (l1:List B5) (n:Nat) (vs:List B3) (h:Yw (LY l0 l1) n (VT l0 l1)=.ret vs):Kj prog (Zy prog 14) (Zg prog 14 [(.dat l0.length (Zz l0)),(.dat l1.length (Zz l1))] true []) vs:=by have:=Ze (w8p l0 l1) n _ (w0c l0 l1);rwa [h] at this
open Go.Sort Go.Shelf Go.RowKit Go.Lib
def FL (x y:B5):Bool:=bif !(x.n == y.n) then false else bif x.a != y.a then false else bif !((x.t == y.t)&&(((x.x == y.x)&&((x.y == y.y)&&((x.z == y.z)&&true)))&&true)) then false else EE x.s y.s
def FK (l m:List B5):Nat->Nat->Bool
 | 0,_=>true
 | k+1,i=>bif FL (rd l i) (rd m i) then FK l m k (i+1) else false
def Iv (l m:List B5):Bool:=bif decide (l.length=m.length) then FK l m l.length 0 else false
def Kf (l m:List B5):Bool:=decide (l.length<=1000000)&&l.all fun x=>decide (x.s.length<=1000000)
theorem v4a (x:B5):FL x x=true:=by unfold FL EE;rw [show (x.n == x.n)=true from Bp _,show (x.a != x.a)=false by simp,show (x.t == x.t)=true from Bp _,show (x.x == x.x)=true from Bp _,show (x.y == x.y)=true from Bp _,show (x.z == x.z)=true from Bp _];exact Aa rfl
theorem x6e (l:List B5): ∀k i,FK l l k i=true
 | 0,i=>rfl
 | k+1,i=>by rw [FK,v4a,Af,x6e l k]
theorem x6d (l:List B5):Iv l l=true:=by unfold Iv;rw [Aa rfl,Af,x6e]
theorem u6b {l m:List B5} (ho:Kf l m=true) (hm:l.length=m.length): ∀(k i:Nat),i+k=l.length-> ∃N,Yw (LY l m) N (.to (.h0 (i:Int)))=.ret [.bool (FK l m k i)]
 | 0,i,h=>by refine ⟨1,?_⟩;rw [Zw];unfold LY;simp only [];rw [Yt (by omega)];rfl
 | k +1,i,h=>by
  have ho':=ho;unfold Kf at ho;rw [Ad,Ak] at ho;have hi:i<l.length:=by omega
  have w2:wrap .i64 ((i:Int)+1)=((i+1:Nat):Int):=Zm (by omega);have hs:Uf (rd l i).s (rd m i).s =true:=Ax.1 ho.2 _ (Ft hi);have e:LY l m (.h0 (i:Int))=bif FL (rd l i) (rd m i) then .to (.h0 ((i+1:Nat):Int)) else .ret [.bool false]:=by
   unfold LY FL;simp only [Zj,w2,Yg];rw [Zp (Yb (by omega)),Aq,Zp (Ym (by omega)),Aq,Zp (Ym (by omega)),Zp hs];cases (rd l i).n == (rd m i).n with
   | false=>rfl
   | true=>
    cases (rd l i).a != (rd m i).a with
    | true=>rfl
    | false=>
     cases ((rd l i).t == (rd m i).t)&&(((rd l i).x == (rd m i).x)&&(((rd l i).y == (rd m i).y)&&(((rd l i).z == (rd m i).z)&&true))&&true) with
     | false=>rfl
     | true=>cases EE (rd l i).s (rd m i).s <;> rfl
  rw [FK];cases g:FL (rd l i) (rd m i) with
  | false=>exact ⟨1,by rw [Zw,e,g];rfl⟩
  | true=>obtain ⟨N,hN⟩:=u6b ho' hm k (i+1) (by omega);exact ⟨N+1,by rw [Zw,e,g,Af,Af,hN]⟩
theorem j0f (l m:List B5) (h:Kf l m=true): ∃N,Yw (LY l m) N (VT l m)=.ret [.bool (Iv l m)]:=by
 unfold VT Iv;by_cases hm:l.length=m.length
 .obtain ⟨N,hN⟩:=u6b h hm l.length 0 (Al _);refine ⟨N,?_⟩;rw [show ((l.length:Int) != (m.length:Int))=false by rw [hm];simp,Ab,Aa hm,Af];exact hN
 .refine ⟨0,?_⟩;rw [show ((l.length:Int) != (m.length:Int))=true by simp;omega,Ai hm];rfl
def OH :List B3->Option (B3×Bool)
 | [a0,a1]=>match Cc B5 a0,Cc B5 a1 with
  | some (L0,g0,n0),some (L1,g1,n1)=>some (.bool (Iv L0 L1),CT B5 n0 g0&&(CT B5 n1 g1&&(Kf L0 L1)))
  | _,_=>none
 | _=>none
theorem j4c {S:B6} (hS:Zv prog S):Zv prog (S.with ST OH):=CS hS (by kernel_rfl) fun args v h=>by
 unfold OH at h;split at h
 .rename_i a0 a1;split at h
  .rename_i L0 g0 n0 L1 g1 n1 e0 e1;simp only [Ae,Ac,Ad] at h;obtain ⟨rfl,ho0,ho1,hw⟩:=h;obtain ⟨N,hN⟩:=j0f L0 L1 hw;exact ⟨_,_,(.cons (Xh e0 ho0) (.cons (Xh e1 ho1) .nil)),rfl,u0l L0 L1 N _ hN,3,rfl⟩
  .cases h
 .cases h
def SYq :B6:=SYp.with ST OH
theorem Oy :Zv prog SYq:=j4c HF
def SYa :B6:=(SYq.with Su OQ).with Ss ON
theorem Dz :Zv prog SYa:=j4o (j4q Oy)
theorem v7c {l:List B5} (h:Ir l=false):l.length<=220/\(l.length<=12\/200<l.length)/\ ∀x∈l,x.s.length<=12/\x.n.length<=500:=by
 unfold Ir at h;rw [AT] at h;have h2:=h.2;unfold greZ at h2;rw [AT,AY,Bool.and_eq_false_iff,AY,AY] at h2;have hl:l.length<=220:=by omega
 refine ⟨hl,by omega,fun x hx=> ?_⟩;have ht:l.take 300=l:=A9 (by omega);have h1:=h.1;rw [ht] at h1;have:=List.any_eq_false.1 h1 x hx;unfold FT at this;simp at this;omega
theorem x4f {l:List B5} (h:Ir l=false):Yk l=true:=by obtain ⟨h1,h2,h3⟩:=v7c h;unfold Yk;rw [Ad,Ak];exact ⟨by omega,Ax.2 fun x hx=>Aa (h3 x hx).2⟩
abbrev CU :List R6:=[R6.mk 0 0 0 2 1 1]
abbrev CB :List B5:=[B5.mk [97] (-1) 9 1 0 0 CU,B5.mk [98] 0 0 2 0 0 []]
abbrev Cb :List UInt8:=[110,111,100,101,32,97,32,57,32,49,32,48,32,48,10,98,111,120,32,48,32,48,32,48,32,50,32,49,32,49,10,110,111,100,101,32,97,47,98,32,48,32,50,32,48,32,48,10]
abbrev D9 :List B3:=[(.str [97]),(ii (-1)),(.int .u8 9),(ii 1),(ii 0),(ii 0),(.dat CU.length (Zz CU)),(.str [98]),(ii 0),(.int .u8 0),(ii 2),(ii 0),(ii 0),(.dat ([]:List R6).length (Zz ([]:List R6)))]
section
attribute [local irreducible] Un Xe Qj Vs Jn G3 HI ET Ih
inductive IT where
def On :IT->CG
 :=nofun
def w4j :IT->Xj IT
 :=nofun
def RO :Xj IT:=(bif (Uk (B4 CB)) then (bif (Tw (B4 CB) 1) then (bif (QQ (B4 CB) 1) then (bif (Ia Cb) then (bif ((Jn (B4 CB)) == 0) then (bif ((Vs (B4 CB)) == Cb) then (bif ((HI (B4 CB) 1) == 0) then (bif ((G3 (B4 CB) 1) == ([97,47,98]:List UInt8)) then (bif ((Ih (B4 CB) 1) == 0) then (bif (((ET (B4 CB) 1).a == 9)&&((((ET (B4 CB) 1).b == 1)&&(((ET (B4 CB) 1).c == 2)&&(((ET (B4 CB) 1).d == 0)&&true)))&&true)) then (bif ((Qj Cb) == 0) then (bif (Kf (B4 (Xe Cb)) (B4 CB)) then (.ret [(.bool (Iv (B4 (Xe Cb)) (B4 CB)))]) else .stuck) else (.ret [(.bool false)])) else (.ret [(.bool false)])) else (.ret [(.bool false)])) else (.ret [(.bool false)])) else (.ret [(.bool false)])) else (.ret [(.bool false)])) else (.ret [(.bool false)])) else .stuck) else .stuck) else .stuck) else .stuck)
theorem v1y : ∀s,Wp prog (Zy prog 15) (On) (On s) (w4j s)
 :=nofun
theorem w4k :Wp prog (Zy prog 15) (On) (Zg prog 15 [] true []) (RO):=(Wj (sl Dz (C':=⟨⟨61,0,true⟩,(CV prog 15 [1,0] 1),(Zf prog 15 [1,0] 1),none,(Zy prog 8),⟨Ye [(10,(.sl 0 0 2 (.un 7)))],Xs [⟨D9,48,none⟩] 0,1,[],true⟩,[],.leaf⟩) 26 [] ⟨[1],[0],[some [10]],[]⟩ ⟨[],[.cells [.keep,.keep,.keep,.keep,.keep,.keep,.frz 1 CU.length (Jk [(ii 0),(ii 0),(ii 0),(ii 2),(ii 1),(ii 1)] 0 6) (Zz CU),.keep,.keep,.keep,.keep,.keep,.keep,.list 0 (Zz ([]:List R6))]],[]⟩ [] (pp (xZ (.dat 1 (Jk [(ii 0),(ii 0),(ii 0),(ii 2),(ii 1),(ii 1)] 0 6)) 1 (Jk [(ii 0),(ii 0),(ii 0),(ii 2),(ii 1),(ii 1)] 0 6)) (pp (xL 1 CU.length) (pp (xS 1 (Jk [(ii 0),(ii 0),(ii 0),(ii 2),(ii 1),(ii 1)] 0 6) (Zz CU)) nn)))) (Wj (sl Dz (C':=⟨⟨61,0,true⟩,(CV prog 15 [1,0] 1),(Zf prog 15 [1,0] 1),none,(Zy prog 8),⟨Ye [(10,(.dat CB.length (Zz CB)))],Xs [] 0,0,[],true⟩,[],.leaf⟩) 0 [] ⟨[],[0],[some [10]],[]⟩ ⟨[(10,.frz 2 CB.length (Jk D9 0 7) (Zz CB))],[],[]⟩ [] (pp (xZ (.dat 2 (Jk D9 0 7)) 2 (Jk D9 0 7)) (pp (xL 2 CB.length) (pp (xS 2 (Jk D9 0 7) (Zz CB)) nn)))) (lo fun q0_0=>(Wj (sl Dz (C':=⟨⟨61,0,true⟩,(CV prog 15 [1,1,0] 1),(Zf prog 15 [1,1,0] 1),none,(Zy prog 8),⟨Ye [(1,(.str (Vs (B4 CB)))),(2,(ii (Jn (B4 CB)))),(15,(.sl 0 0 2 (.un 7)))],Xs [⟨D9,48,none⟩] 0,1,[],true⟩,[],.leaf⟩) 29 [] ⟨[1],[0],[some [1,2,15]],[]⟩ ⟨[],[.cells [.keep,.keep,.keep,.keep,.keep,.keep,.frz 1 CU.length (Jk [(ii 0),(ii 0),(ii 0),(ii 2),(ii 1),(ii 1)] 0 6) (Zz CU),.keep,.keep,.keep,.keep,.keep,.keep,.list 0 (Zz ([]:List R6))]],[]⟩ [] (pp (xZ (.dat 1 (Jk [(ii 0),(ii 0),(ii 0),(ii 2),(ii 1),(ii 1)] 0 6)) 1 (Jk [(ii 0),(ii 0),(ii 0),(ii 2),(ii 1),(ii 1)] 0 6)) (pp (xL 1 CU.length) (pp (xS 1 (Jk [(ii 0),(ii 0),(ii 0),(ii 2),(ii 1),(ii 1)] 0 6) (Zz CU)) (pp (pp (xI B5 CB.length (Zz CB)) (xw q0_0)) nn))))) (Wj (sl Dz (C':=⟨⟨61,0,true⟩,(CV prog 15 [1,1,0] 1),(Zf prog 15 [1,1,0] 1),none,(Zy prog 8),⟨Ye [(1,(.str (Vs (B4 CB)))),(2,(ii (Jn (B4 CB)))),(15,(.dat CB.length (Zz CB)))],Xs [] 0,0,[],true⟩,[],.leaf⟩) 0 [] ⟨[],[0],[some [1,2,15]],[]⟩ ⟨[(15,.frz 2 CB.length (Jk D9 0 7) (Zz CB))],[],[]⟩ [] (pp (xZ (.dat 2 (Jk D9 0 7)) 2 (Jk D9 0 7)) (pp (xL 2 CB.length) (pp (xS 2 (Jk D9 0 7) (Zz CB)) nn)))) (lo fun q0_0=>(Wj (sl Dz (C':=⟨⟨61,0,true⟩,(CV prog 15 [1,1,1,0] 1),(Zf prog 15 [1,1,1,0] 1),none,(Zy prog 8),⟨Ye [(1,(.str (Vs (B4 CB)))),(2,(ii (Jn (B4 CB)))),(3,(.str (G3 (B4 CB) 1))),(4,(ii (HI (B4 CB) 1))),(20,(.sl 0 0 2 (.un 7)))],Xs [⟨D9,48,none⟩] 0,1,[],true⟩,[],.leaf⟩) 29 [] ⟨[1],[0],[some [1,2,3,4,20]],[]⟩ ⟨[],[.cells [.keep,.keep,.keep,.keep,.keep,.keep,.frz 1 CU.length (Jk [(ii 0),(ii 0),(ii 0),(ii 2),(ii 1),(ii 1)] 0 6) (Zz CU),.keep,.keep,.keep,.keep,.keep,.keep,.list 0 (Zz ([]:List R6))]],[]⟩ [] (pp (xZ (.dat 1 (Jk [(ii 0),(ii 0),(ii 0),(ii 2),(ii 1),(ii 1)] 0 6)) 1 (Jk [(ii 0),(ii 0),(ii 0),(ii 2),(ii 1),(ii 1)] 0 6)) (pp (xL 1 CU.length) (pp (xS 1 (Jk [(ii 0),(ii 0),(ii 0),(ii 2),(ii 1),(ii 1)] 0 6) (Zz CU)) (pp (pp (xI B5 CB.length (Zz CB)) (xw q0_0)) nn))))) (Wj (sl Dz (C':=⟨⟨61,0,true⟩,(CV prog 15 [1,1,1,0] 1),(Zf prog 15 [1,1,1,0] 1),none,(Zy prog 8),⟨Ye [(1,(.str (Vs (B4 CB)))),(2,(ii (Jn (B4 CB)))),(3,(.str (G3 (B4 CB) 1))),(4,(ii (HI (B4 CB) 1))),(20,(.dat CB.length (Zz CB)))],Xs [] 0,0,[],true⟩,[],.leaf⟩) 0 [] ⟨[],[0],[some [1,2,3,4,20]],[]⟩ ⟨[(20,.frz 2 CB.length (Jk D9 0 7) (Zz CB))],[],[]⟩ [] (pp (xZ (.dat 2 (Jk D9 0 7)) 2 (Jk D9 0 7)) (pp (xL 2 CB.length) (pp (xS 2 (Jk D9 0 7) (Zz CB)) nn)))) (lo fun cO=>(lo fun dG=>(lb (fun k0=>(lb (fun k1=>(lb (fun k2=>(lb (fun k3=>(lb (fun k4=>(lb (fun k5=>(lb (fun k6=>(Wj (sl Dz (C':=⟨⟨61,0,true⟩,(CV prog 15 [1,1,1,1,1,0] 31),(Zf prog 15 [1,1,1,1,1,0] 1),none,(Zy prog 8),⟨Ye [(56,(.bool true)),(57,(.dat (Xe Cb).length (Zz (Xe Cb)))),(58,(.sl 0 0 2 (.un 7)))],Xs [⟨D9,48,none⟩] 0,1,[],true⟩,[],.leaf⟩) 69 [] ⟨[2],[1],[some [56,57,58]],[]⟩ ⟨[],[.cells [.keep,.keep,.keep,.keep,.keep,.keep,.frz 1 CU.length (Jk [(ii 0),(ii 0),(ii 0),(ii 2),(ii 1),(ii 1)] 0 6) (Zz CU),.keep,.keep,.keep,.keep,.keep,.keep,.list 0 (Zz ([]:List R6))]],[]⟩ (CE 16 []) (pp (xZ (.dat 1 (Jk [(ii 0),(ii 0),(ii 0),(ii 2),(ii 1),(ii 1)] 0 6)) 1 (Jk [(ii 0),(ii 0),(ii 0),(ii 2),(ii 1),(ii 1)] 0 6)) (pp (xL 1 CU.length) (pp (xS 1 (Jk [(ii 0),(ii 0),(ii 0),(ii 2),(ii 1),(ii 1)] 0 6) (Zz CU)) (tt k6 (tt k5 (tt k4 (tt k3 (tt k2 (tt k1 (tt k0 (ww dG (pp (pp (xI B5 CB.length (Zz CB)) (xw cO)) nn))))))))))))) (Wj (sl Dz (C':=⟨⟨61,0,true⟩,(CV prog 15 [1,1,1,1,1,0] 31),(Zf prog 15 [1,1,1,1,1,0] 1),none,(Zy prog 8),⟨Ye [(56,(.bool true)),(57,(.dat (Xe Cb).length (Zz (Xe Cb)))),(58,(.dat CB.length (Zz CB)))],Xs [] 0,0,[],true⟩,[],.leaf⟩) 0 [] ⟨[],[0],[some [56,57,58]],[]⟩ ⟨[(58,.frz 2 CB.length (Jk D9 0 7) (Zz CB))],[],[]⟩ [] (pp (xZ (.dat 2 (Jk D9 0 7)) 2 (Jk D9 0 7)) (pp (xL 2 CB.length) (pp (xS 2 (Jk D9 0 7) (Zz CB)) nn)))) (lo fun o0=>(lr 61 3 [1,1,1,1,1,1,0] 1 8 [(0,(.bool (Iv (B4 (Xe Cb)) (B4 CB))))] (sl Dz 4 [] (b8 [0]) b7 [true] (pp (pp (xI B5 (Xe Cb).length (Zz (Xe Cb))) (pp (xI B5 CB.length (Zz CB)) (xw o0))) nn))))))) (fun k6=>(lr 61 3 [1,1,1,1,1,1,0] 1 8 [(0,(.bool false))] (sl Dz 54 [] (b8 [0]) b7 (CE 14 (bl 3 0)) (tt k6 (tt k5 (tt k4 (tt k3 (tt k2 (tt k1 (tt k0 (ww dG (pp (pp (xI B5 CB.length (Zz CB)) (xw cO)) nn)))))))))))))) (fun k5=>(lr 61 3 [1,1,1,1,1,1,0] 1 8 [(0,(.bool false))] (sl Dz 54 [] (b8 [0]) b7 (CE 12 (bl 5 0)) (tt k5 (tt k4 (tt k3 (tt k2 (tt k1 (tt k0 (ww dG (pp (pp (xI B5 CB.length (Zz CB)) (xw cO)) nn))))))))))))) (fun k4=>(lr 61 3 [1,1,1,1,1,1,0] 1 8 [(0,(.bool false))] (sl Dz 54 [] (b8 [0]) b7 (CE 8 (bl 9 0)) (tt k4 (tt k3 (tt k2 (tt k1 (tt k0 (ww dG (pp (pp (xI B5 CB.length (Zz CB)) (xw cO)) nn)))))))))))) (fun k3=>(lr 61 3 [1,1,1,1,1,1,0] 1 8 [(0,(.bool false))] (sl Dz 54 [] (b8 [0]) b7 (CE 6 (bl 11 0)) (tt k3 (tt k2 (tt k1 (tt k0 (ww dG (pp (pp (xI B5 CB.length (Zz CB)) (xw cO)) nn))))))))))) (fun k2=>(lr 61 3 [1,1,1,1,1,1,0] 1 8 [(0,(.bool false))] (sl Dz 54 [] (b8 [0]) b7 (CE 4 (bl 13 0)) (tt k2 (tt k1 (tt k0 (ww dG (pp (pp (xI B5 CB.length (Zz CB)) (xw cO)) nn)))))))))) (fun k1=>(lr 61 3 [1,1,1,1,1,1,0] 1 8 [(0,(.bool false))] (sl Dz 54 [] (b8 [0]) b7 (bl 17 3) (tt k1 (tt k0 (ww dG (pp (pp (xI B5 CB.length (Zz CB)) (xw cO)) nn))))))))) (fun k0=>(lr 61 3 [1,1,1,1,1,1,0] 1 8 [(0,(.bool false))] (sl Dz 54 [] (b8 [0]) b7 (bl 17 0) (tt k0 (ww dG (pp (pp (xI B5 CB.length (Zz CB)) (xw cO)) nn)))))))))))))))))
theorem u5d (n:Nat) (vs:List B3) (h:Yw (w4j) n (RO)=.ret vs):Kj prog (Zy prog 15) (Zg prog 15 [] true []) vs:=by have:=Ze (v1y) n _ (w4k);rwa [h] at this
end
abbrev Om :Nat:=15
theorem v9x :Vu CU=0:=by rw [x4r];kernel_rfl
theorem v9y :Vu []=0:=by rw [x4r];kernel_rfl
theorem u9t {l:List B5} (h: ∀x∈l,Vu x.s=0):ES l=0:=by
 unfold ES;have:l.find? (fun x=>Vu x.s != 0)=none:=List.find?_eq_none.2 fun x hx=>by rw [h x hx];simp
 rw [this]
theorem MR {l:List B5} (hl:l.length<=200) (h:ES l=0):Un l=bif (List.range l.length).any (DY l) then 8 else 0:=by unfold Un;rw [Ai (by omega),Ab,Jd h,Ab]
theorem v9s :ES CB=0:=u9t fun x hx=>by
 rcases AP.1 hx with rfl | hx
 .exact v9x
 .rw [AX.1 hx];exact v9y
theorem v9n :Yk CB=true:=rfl
theorem v9m :(CB.all fun x=>decide (0<=x.t))=true:=rfl
theorem w0b :Un CB=0:=by rw [MR (by decide) v9s];rfl
theorem ito0 :itoa 0=[48]:=by rw [show (0:Int)=((0:Nat):Int) from rfl,itoa_nonneg,decDigits_one (by omega)];rfl
theorem ito1 :itoa 1=[49]:=by rw [show (1:Int)=((1:Nat):Int) from rfl,itoa_nonneg,decDigits_one (by omega)];rfl
theorem ito2 :itoa 2=[50]:=by rw [show (2:Int)=((2:Nat):Int) from rfl,itoa_nonneg,decDigits_one (by omega)];rfl
theorem ito9 :itoa 9=[57]:=by rw [show (9:Int)=((9:Nat):Int) from rfl,itoa_nonneg,decDigits_one (by omega)];rfl
theorem u1y :Wv CB 0=[97]:=rfl
theorem u1x :Wv CB 1=[97,47,98]:=rfl
theorem x2n :Kc CB CB.length 0=Cb:=by have e0:FC CB 0=FA (Wv CB 0) (B5.mk [97] (-1) 9 1 0 0 CU)++E2 CU:=rfl;have e1:FC CB 1=FA (Wv CB 1) (B5.mk [98] 0 0 2 0 0 [])++[]:=rfl;show FC CB 0++(FC CB 1++[])=Cb;rw [e0,e1,u1y,u1x];unfold FA CU E2 E2 Fd;simp only [FI,ito0,ito1,ito2,ito9];rfl
theorem v3c :Vs CB=Cb/\Jn CB=0:=by unfold Vs Jn;rw [Jd w0b,x2n];exact ⟨rfl,rfl⟩
theorem v5i :Dj Cb=(CB,0):=by have:=x5s v9n v9m w0b (by rw [x2n];decide) (by decide);rwa [x2n] at this
theorem Vl :HW CB 1=0:=by unfold HW;rw [Jd w0b];rfl
theorem j6c : ∃N,Yw w4j N RO=.ret [.bool true]:=⟨0,by
 show RO=_;have p0:Xe Cb=CB:=by unfold Xe;rw [v5i]
 have p1:Qj Cb=0:=by unfold Qj;rw [v5i]
 have a1:HI CB 1=0:=Vl;have a0:G3 CB 1=[97,47,98]:=by unfold G3;rw [Jd Vl];rfl
 have q1:Ih CB 1=0:=by unfold Ih;rw [Jd Vl];rfl
 have q0:ET CB 1=⟨9,1,2,0⟩:=by unfold ET;rw [Jd Vl];rfl
 unfold RO;simp only [Yg,p0,p1,a0,a1,q0,q1,v3c.1,v3c.2,x6d];rw [Zp (show Uk CB=true from rfl),Zp (show Tw CB 1=true from rfl),Zp (show QQ CB 1=true from rfl),Zp (show Ia Cb=true from rfl),Zp (show Kf CB CB=true from rfl)];rfl⟩
abbrev Th :Nat:=Om
def Oc :List B3->Option (B3×Bool)
 | []=>some (.bool true,true)
 | _=>none
theorem j5m {S:B6} (hS:Zv prog S):Zv prog (S.with Th Oc):=CS hS (by kernel_rfl) fun args v h=>by
 unfold Oc at h;split at h
 .simp only [Ae,Ac,and_true] at h;subst h;obtain ⟨N,hN⟩:=j6c;exact ⟨_,_,.nil,rfl,u5d N _ hN,3,rfl⟩
 .cases h
def SYr :B6:=SYa.with Th Oc
theorem G0 :Zv prog SYr:=j5m Dz
section
attribute [local irreducible] Un Xe Qj Vs Jn G3 HI ET Ih Nq Np u7y NS u7o NI
abbrev XY (l0:List B5) (x1:Int):=(Fq (rd l0 (tn x1)).t (rd l0 (tn x1)).x (rd l0 (tn x1)).y (rd l0 (tn x1)).z (ET (B4 l0) (rd l0 (tn x1)).a).a (ET (B4 l0) (rd l0 (tn x1)).a).b (ET (B4 l0) (rd l0 (tn x1)).a).c (ET (B4 l0) (rd l0 (tn x1)).a).d)
abbrev XX (l0:List R7):=(u7o (u7y (B4 l0)))
abbrev IZ (l0:List B5):=(Xe (Vs (B4 l0)))
inductive Hv where
def NY (l0:List B5) (x1:List UInt8):Hv->CG
 :=nofun
def w2g (l0:List B5) (x1:List UInt8):Hv->Xj Hv
 :=nofun
def R0 (l0:List B5) (x1:List UInt8):Xj Hv:=(bif (!(Ir (B4 l0))) then (bif (decide ((l0.length:Int)<=12)) then (bif (Yk (B4 l0)) then (bif (!((Un (B4 l0)) == 0)) then (.ret [(.bool true)]) else (bif (decide ((x1.length:Int)>4000)) then (.ret [(.bool true)]) else (bif (Uk (B4 l0)) then (bif (Ia (Vs (B4 l0))) then (bif ((Jn (B4 l0)) != 0) then (.ret [(.bool false)]) else (bif ((Qj (Vs (B4 l0))) != 0) then (.ret [(.bool false)]) else (bif (Kf (B4 (Xe (Vs (B4 l0)))) (B4 l0)) then (bif (!(Iv (B4 (Xe (Vs (B4 l0)))) (B4 l0))) then (.ret [(.bool false)]) else (bif (Ia x1) then (bif ((Qj x1) != 0) then (.ret [(.bool true)]) else (bif (Uk (B4 (Xe x1))) then (bif ((Jn (B4 (Xe x1))) == 0) then (.ret [(.bool ((Vs (B4 (Xe x1))) == x1))]) else (.ret [(.bool false)])) else .stuck)) else .stuck)) else .stuck))) else .stuck) else .stuck))) else .stuck) else (.ret [(.bool true)])) else (.ret [(.bool true)]))
theorem v0o (l0:List B5) (x1:List UInt8): ∀s,Wp prog (Zy prog 4) (NY l0 x1) (NY l0 x1 s) (w2g l0 x1 s)
 :=nofun
theorem w2h (l0:List B5) (x1:List UInt8):Wp prog (Zy prog 4) (NY l0 x1) (Zg prog 4 [(.dat l0.length (Zz l0)),(.str x1)] true []) (R0 l0 x1):=let e:=pp (xr l0) nn;(lb (fun k0=>(lb (fun k1=>(lo fun bJ=>let b:=pp (pp (xr l0) (xw bJ)) (tt k1 (tt k0 e));(lb (fun k2=>(lr 73 4 [1,1,0,1,0,0] 1 3 [(4,(.bool true))] (sl G0 53 [] (b8 [4]) b7 (CE 12 []) (tt k2 b)))) (fun k2=>(lb (fun k3=>(lr 73 4 [1,1,0,1,0,0] 1 3 [(4,(.bool true))] (sl G0 53 [] (b8 [4]) b7 (CE 6 (bl 6 56)) (tt k3 (tt k2 b))))) (fun k3=>(lo fun cU=>(lo fun dS=>let a:=ww dS (pp (pp (xr l0) (xw cU)) (tt k3 (tt k2 b)));(lb (fun k4=>(lr 73 4 [1,1,1,1,1,0,1,0,0] 1 3 [(4,(.bool false))] (sl G0 90 [] (b8 [4]) b7 (CE 6 (bl 13 8128)) (tt k4 a)))) (fun k4=>(lb (fun k5=>(lr 73 4 [1,1,1,1,1,0,1,0,0] 1 3 [(4,(.bool false))] (sl G0 90 [] (b8 [4]) b7 (CE 6 (bl 13 7936)) (tt k5 (tt k4 a))))) (fun k5=>(lo fun dV=>let c:=pp (xr l0) (xw dV);let d:=tt k5 (tt k4 a);(lb (fun k6=>(lr 73 4 [1,1,1,1,1,0,1,0,0] 1 3 [(4,(.bool false))] (sl G0 90 [] (b8 [4]) b7 (CE 6 (bl 13 4096)) (tt k6 (pp (pp (xI B5 (IZ l0).length (Zz (IZ l0))) c) d))))) (fun k6=>(lo fun eB=>(lb (fun k7=>(lr 73 4 [1,1,1,1,1,1,1,0,1,0,0] 1 3 [(4,(.bool true))] (sl G0 109 [] (b8 [4]) b7 (CE 6 (bl 14 8192)) (tt k7 (ww eB (tt k6 (pp (pp (xI B5 (IZ l0).length (Zz (IZ l0))) c) d))))))) (fun k7=>(lo fun eC=>(lb (fun k8=>(lr 73 3 [1,1,1,1,1,1,0] 1 3 [(4,(.bool ((Vs (B4 (Xe x1))) == x1)))] (sl G0 129 [] (b8 [4]) b7 (CE 6 (bl 19 507904)) (tt k8 (pp (pp (xI B5 (Xe x1).length (Zz (Xe x1))) (xw eC)) (tt k7 (ww eB (tt k6 (pp (pp (xI B5 (IZ l0).length (Zz (IZ l0))) c) d))))))))) (fun k8=>(lr 73 3 [1,1,1,1,1,1,0] 1 3 [(4,(.bool false))] (sl G0 129 [] (b8 [4]) b7 (CE 6 (bl 19 49152)) (tt k8 (pp (pp (xI B5 (Xe x1).length (Zz (Xe x1))) (xw eC)) (tt k7 (ww eB (tt k6 (pp (pp (xI B5 (IZ l0).length (Zz (IZ l0))) c) d))))))))))))))))))))))))))))) (fun k1=>(lr 73 4 [1,1,0,1,0,0] 1 3 [(4,(.bool true))] (sl G0 53 [] (b8 [4]) b7 (CE 3 (bl 9 504)) (tt k1 (tt k0 e))))))) (fun k0=>(lr 73 4 [1,1,0,1,0,0] 1 3 [(4,(.bool true))] (sl G0 53 [] (b8 [4]) b7 (bl 12 4032) (tt k0 e)))))
theorem lbk_ends (l0:List B5) (x1:List UInt8) (n:Nat) (vs:List B3) (h:Yw (w2g l0 x1) n (R0 l0 x1)=.ret vs):Kj prog (Zy prog 4) (Zg prog 4 [(.dat l0.length (Zz l0)),(.str x1)] true []) vs:=by have:=Ze (v0o l0 x1) n _ (w2h l0 x1);rwa [h] at this
end
theorem j3b {p:List UInt8} (h:C6 p=0):p.length<=4000:=by
 unfold C6 at h;by_cases g:4000<p.length
 .rw [Aa g] at h;cases h
 .omega
theorem w7n {x:B5} (h:E7 x): ∀l:List R6,(∀r∈l,r∈x.s)->(E2 l).length <=58*l.length
 | [],_=>AF _
 | r::l,hl=>by obtain ⟨h1,h2,h3,h4,h5,h6⟩:=h.box r (hl r AQ);have a1:=G2 h1;have a2:=G2 h2;have a3:=G2 h3;have a4:=G2 h4;have a5:=G2 h5;have a6:=G2 h6;have:=w7n h l fun q hq=>hl q (AK _ hq);simp only [E2,Fd,CW,FI,Ap,At,AI];omega
theorem M3 {l:List B5} {i:Nat} (hT:F0 l) (hi:i<l.length) (hb:(rd l i).s.length <=12):(FC l i).length <=4740:=by have h:=hT.node i hi;have hp:=j3b (hT.path i hi).2.1;have a1:=G2 (n:=(rd l i).t) (by have:=h.t;omega);have a2:=G2 h.x;have a3:=G2 h.y;have a4:=G2 h.z;have:=w7n h (rd l i).s fun _ hr=>hr;simp only [FC,FA,Ei,FI,Ap,At,AI];omega
theorem u5o {l:List B5} (hT:F0 l) (hb: ∀x∈l,x.s.length<=12): ∀(k i:Nat),i+k=l.length->(Kc l k i).length <=4740*k/\(DO l k i).length <=13*k
 | 0,i,_=>⟨AF _,AF _⟩
 | k+1,i,hk=>by
  have hi:i<l.length:=by omega
  have h0:=hb _ (Ft hi);have h1:=M3 hT hi h0;obtain ⟨h2,h3⟩:=u5o hT hb k (i+1) (by omega);constructor
  .rw [Kc,Ap];omega
  .rw [DO,EB,Ap,At,Bs];omega
theorem u9i {l:List B5} (g:Ir l=false) (h12:l.length<=12) (ht:(l.all fun x=>decide (0<=x.t))=true) (h:Un l=0):Jn l=0/\Dj (Vs l)=(l,0)/\(Vs l).length <=60000/\Kf l l=true:=by
 have ho:=x4f g;obtain ⟨hT,_,_⟩:=w5e ho ht h;have hb: ∀x∈l,x.s.length<=12:=fun x hx=>((v7c g).2.2 x hx).1;obtain ⟨t1,t2⟩:=u5o hT hb l.length 0 (Al _);have e1:Jn l=0:=by unfold Jn;rw [Jd h,Ai (show ¬60000<(Kc l l.length 0).length by omega)];rfl
 have e0:Vs l=Kc l l.length 0:=by unfold Vs;rw [Jd h,Ai (show ¬60000<(Kc l l.length 0).length by omega)];rfl
 refine ⟨e1,?_,by rw [e0];omega,?_⟩
 .rw [e0];exact x5s ho ht h (by omega) (by omega)
 .unfold Kf;rw [Aa (show l.length<=1000000 by omega),Ar];exact Ax.2 fun x hx=>Aa (by have:=hb x hx;omega)
theorem lbk_run (l:List B5) (s:List UInt8) (ht:(l.all fun x=>decide (0<=x.t))=true): ∃N,Yw (w2g l s) N (R0 l s)=.ret [.bool true]:=⟨0,by
 show R0 l s=_;unfold R0;simp only [Yg];cases g:Ir l with
 | true=>rfl
 | false=>
  rw [AD,Af];by_cases h12:l.length<=12
  .rw [Aa (show (l.length:Int)<=12 by omega),Af,Zp (x4f g)];by_cases h:Un l=0
   .obtain ⟨t1,t2,t3,t4⟩:=u9i g h12 ht h;have p0:Xe (Vs l)=l:=by unfold Xe;rw [t2]
    have p1:Qj (Vs l)=0:=by unfold Qj;rw [t2]
    rw [Lf h,Ay,Ab];by_cases hs:(s.length:Int)>4000
    .rw [Aa hs];rfl
    .rw [Ai hs,Ab,Zp (show Uk l=true by unfold Uk;rw [x4f g,ht];rfl),Zp (show Ia (Vs l)=true from Aa (by omega)),Jd t1,Ab,Jd p1,Ab,p0,Zp t4,x6d,Ay,Ab,Zp (show Ia s=true from Aa (by omega))];by_cases hp:Qj s=0
     .obtain ⟨b1,b2,b3,b4⟩:=v8o (by omega) hp;have hl: ¬60000<(Kc (Xe s) (Xe s).length 0).length :=by rw [b4];omega
      have e1:Jn (Xe s)=0:=by unfold Jn;rw [Jd b1,Ai hl];rfl
      have e0:Vs (Xe s)=s:=by unfold Vs;rw [Jd b1,Ai hl];exact b4
      rw [Jd hp,Ab,Zp (show Uk (Xe s)=true by unfold Uk;rw [b2,b3];rfl),Lf e1,Af,e0,Bp]
     .rw [Qu hp];rfl
   .rw [P9 h];rfl
  .rw [Ai (show ¬(l.length:Int)<=12 by omega)];rfl⟩
open Go.ChangeShapes Go.WideShapes Go.Deep
section
variable {P:Program}
def j3p (P:Program) (e:TypeId):List (TypeId×Nat):=match P.underlying e with
 | some (.struct fs)=>fs.toList.map fun f=>(f.type,f.offset)
 | _=>[]
theorem v7j {e t0 t1 t2 t3:TypeId} {a b c d:Nat} (h:j3p P e=[(t0,a),(t1,b),(t2,c),(t3,d)]): ∃fs:Array Field,P.underlying e=some (.struct fs)/\fs.size=4/\(∃f0,fs[0]? =some f0/\f0.type=t0/\f0.offset=a)/\(∃f1,fs[1]? =some f1/\f1.type=t1/\f1.offset=b)/\(∃f2,fs[2]? =some f2/\f2.type=t2/\f2.offset=c)/\ ∃f3,fs[3]? =some f3/\f3.type=t3/\f3.offset=d:=by
 unfold j3p at h;split at h
 .rename_i fs hu;refine ⟨fs,hu,?_⟩;obtain ⟨l⟩:=fs;simp only at h
  match l,h with
  | [f0,f1,f2,f3],h=>simp only [A5,List.map_nil,Bj,Ac,and_true] at h;exact ⟨rfl,⟨f0,rfl,h.1.1,h.1.2⟩,⟨f1,rfl,h.2.1.1,h.2.1.2⟩,⟨f2,rfl,h.2.2.1.1,h.2.2.1.2⟩,f3,rfl,h.2.2.2.1,h.2.2.2.2⟩
 .cases h
abbrev N0 :List IntKind:=[.i64,.i64,.i64,.i64,.i64,.i64]
abbrev ksF :List IntKind:=[.u8,.i64,.i64,.i64]
variable {HH:Type} {enc:TypeId×Value->HH} {w:World} {base:Nat} {gM:Bool}
theorem w9t {t e:TypeId} {ks:List IntKind} {cs:List Value} {x:DataW HH×List MemPlace} {fuel:Nat} (ht:P.underlying t=some (.slice e)) (hk:If P 30 e=some ks) (hks:1<=ks.length)
  (h:DataW.trod enc P w base (fun _=>true) gM fuel t cs=some x):
  ∃(v:Value) (n:Nat) (c:Nat->Nat->Int),cs=[v]/\Zr (DD fun k=>w.heap[k]?) (.dat n (fun i=>Ip ks (c i))) v:=by
 rcases open_slice ht h with ⟨h0,rfl⟩ | ⟨a,len,cap,m,fl,D,Pl,hcs,hb,hl,eM,hm,rfl,hi⟩
 .exact ⟨_,0,fun _ _=>0,h0,.datn _⟩
 .simp only [if_true] at hm;subst hm;by_cases hc0:m=0
  .subst hc0;obtain rfl:len=0:=by omega
   exact ⟨_,0,fun _ _=>0,hcs,.datz _ _ _⟩
  .have hspot:a.spot=none:=by
    obtain ⟨cs',hc',ht'⟩:=hi 0 (by omega);have I:=Q5 30 e ks hk _ _ _ ht';obtain ⟨_,eE,eY⟩:=World.cells?_some hc';have h1:=eY 0 (by rw [<-eE,I.length];exact hks);obtain ⟨blk,off,spot⟩:=a;have h2:cs'[0]? =some (cs'[0]'(by rw [I.length];exact hks)):=(by simp);rw [h2] at h1
    simpa [Addr.add] using World.cell?_spot h1
   obtain ⟨blk,off,spot⟩:=a;simp only at hspot;subst hspot;obtain ⟨c,h1,h2⟩:=u4r (w:=w) hk hl hl hi;exact ⟨_,len,c,hcs,h1⟩
def Oz (x:B5):Prop:=(0<=x.t/\x.t<256)/\(-9223372036854775808<=x.a/\x.a<=9223372036854775807)/\(-9223372036854775808<=x.x/\x.x<=9223372036854775807)/\(-9223372036854775808<=x.y/\x.y<=9223372036854775807)/\(-9223372036854775808<=x.z/\x.z<=9223372036854775807)
theorem open_nodes {t e tS tI tF tL b:TypeId} {v:Value} {d:DataW HH} {p:List MemPlace} (ht:P.underlying t=some (.slice e)) (hs:j3p P e=[(tS,0),(tI,1),(tF,2),(tL,6)]) (ce:P.cellsOf e=7) (c0:P.cellsOf tS=1) (c1:P.cellsOf tI=1) (c2:P.cellsOf tF=4) (c3:P.cellsOf tL=1)
  (uS:P.underlying tS=some .string) (kI:If P 30 tI=some [.i64]) (kF:If P 30 tF=some ksF) (u1:P.underlying tL=some (.slice b)) (kb:If P 30 b=some N0) {b0:Nat} (hv:Value.okWide P w .any b0 t v) (h:DataW.Trod enc P w base (fun _=>true) gM t v d p):
  ∃X:List B5,Zr (DD fun k=>w.heap[k]?) (.dat X.length (Zz X)) v/\ ∀x∈X,Oz x:=by
 obtain ⟨fuel,h⟩:=h;have hvc:v.cells.toList=[v]:=by
  unfold Value.okWide at hv;rw [ht] at hv;unfold Cell.okWide at hv;rw [ht] at hv;cases v <;> first | rfl | (simp [Cell.ok,ht] at hv)
 rcases open_slice ht h with ⟨h0,_⟩ | ⟨a,len,cap,m,fl,D,Pl,hcs,hb,hl,eM,hm,hx,hi⟩
 .rw [hvc] at h0;obtain rfl:v=.slice none 0 0:=by simpa using h0
  exact ⟨[],.datn _,fun x hx=>by cases hx⟩
 .rw [hvc] at hcs;obtain rfl:v=.slice (some a) len cap:=by simpa using hcs
  have hspot:a.spot=none:=by unfold Value.okWide at hv;rw [ht] at hv;unfold Cell.okWide at hv;rw [ht] at hv;simp only [Cell.ok,ht] at hv;exact hv.2.2.2.1
  obtain ⟨blk,off,spot⟩:=a;simp only at hspot;subst hspot;simp only [if_true] at hm;subst hm;obtain ⟨fs,hu,hsz,⟨f0,hf0,rfl,o0⟩,⟨f1,hf1,rfl,o1⟩,⟨f2,hf2,rfl,o2⟩,f3,hf3,rfl,o3⟩:=v7j hs;have key: ∀i,i<len-> ∃q:B5×(Nat->Value),(∀j,j<7->w.cell? ⟨blk,off+(i*7+j),none⟩=some (q.2 j))/\(∀j (hj:j<7),Zr (DD fun k=>w.heap[k]?) ((Xu.cells q.1)[j]'hj) (q.2 j))/\Oz q.1:=by
   intro i hil;obtain ⟨cs',hc',ht'⟩:=hi i (by omega);obtain ⟨xs,n,_,hx',hcl,hxl,hf⟩:=DataW.trod_struct hu ht';have eE:cs'.length=7:=hcl.trans ce;have eY:=(World.cells?_some hc').2.2;have g0:=hf 0 f0 hf0;have g1:=hf 1 f1 hf1;have g2:=hf 2 f2 hf2;have g3:=hf 3 f3 hf3;rw [o0,c0,AR] at g0;rw [o1,c1] at g1;rw [o2,c2] at g2;rw [o3,c3] at g3;rw [As (show 0<xs.length by omega)] at g0;rw [As (show 1<xs.length by omega)] at g1;rw [As (show 2<xs.length by omega)] at g2;rw [As (show 3<xs.length by omega)] at g3;obtain ⟨s,s1,_,_⟩:=DataW.trod_string uS g0;obtain ⟨ns,n1,n2,n3⟩:=Q5 30 _ _ kI _ _ _ g1;obtain ⟨ms,m1,m2,m3⟩:=Q5 30 _ _ kF _ _ _ g2;obtain ⟨u,n',c,e1,e2⟩:=w9t u1 kb (by decide) g3
   match ns,n1,ms,m1 with
   | [a],_,[q0,q1,q2,q3],_=>
    have ecs:cs'=[.string s,.int .i64 a,.int .u8 q0,.int .i64 q1,.int .i64 q2,.int .i64 q3,u]:=by
     have h1:cs'=cs'.take 1++((cs'.drop 1).take 1++((cs'.drop 2).take 4++(cs'.drop 6).take 1)):=by
      match cs',eE with
      | [_,_,_,_,_,_,_],_=>rfl
     rw [h1,s1,n2,m2,e1];rfl
    have hb: ∀(k:IntKind) (n:Int),k.has n->k.min<=n/\n<=k.max:=fun k n h=>h;have b1:=hb .i64 a (n3 (.i64,a) (by simp));have b2:=hb .u8 q0 (m3 (.u8,q0) (by simp));have b3:=hb .i64 q1 (m3 (.i64,q1) (by simp));have b4:=hb .i64 q2 (m3 (.i64,q2) (by simp));have b5:=hb .i64 q3 (m3 (.i64,q3) (by simp));rw [show IntKind.i64.min= -9223372036854775808 from rfl,show IntKind.i64.max=9223372036854775807 from rfl] at b1 b3 b4 b5;rw [show IntKind.u8.min=0 from rfl,show IntKind.u8.max=255 from rfl] at b2;refine ⟨(⟨s.data.toList,a,q0,q1,q2,q3,Cf R6 n' fun i=>Ip N0 (c i)⟩,fun j=>cs'.getD j undef),fun j hj=> ?_,fun j hj=> ?_,?_⟩
    .have:=eY j (by omega);rw [ce] at this;simp only [Xa] at this;rw [show off+(i*7+j)=off+i*7+j by omega,this];show cs'[j]? =some (cs'.getD j undef);rw [Bc,As (by omega)];rfl
    .have last:=(Xh (α:=R6) (v:=.dat n' fun i=>Ip N0 (c i)) rfl (Yh fun i _=>rfl)).sound e2;rw [ecs]
     match j,hj with
     | 0,_=>exact .str s.data.toList
     | 1,_=>exact .int _ _
     | 2,_=>exact .int _ _
     | 3,_=>exact .int _ _
     | 4,_=>exact .int _ _
     | 5,_=>exact .int _ _
     | 6,_=>exact last
    .exact ⟨⟨b2.1,Int.lt_of_le_of_lt b2.2 (by decide)⟩,b1,b3,b4,b5⟩
  let Q:Nat->B5×(Nat->Value):=fun i=>if hil:i<len then (key i hil).choose else (Xu.d,fun _=>undef)
  have hQ: ∀i,i<len->(∀j,j<7->w.cell? ⟨blk,off+(i*7+j),none⟩=some ((Q i).2 j))/\(∀j (hj:j<7),Zr (DD fun k=>w.heap[k]?) ((Xu.cells (Q i).1)[j]'hj) ((Q i).2 j))/\Oz (Q i).1:=by intro i hil;have:=(key i hil).choose_spec;simp only [Q,hil,dif_pos];exact this
  have hXl:((List.range len).map fun i=>(Q i).1).length =len:=by simp
  have fI: ∀i,i<len->Zz ((List.range len).map fun i=>(Q i).1) i=Xu.cells (Q i).1:=fun i hi=>by show Xu.cells (rd _ i)=_;rw [Wb (by rw [hXl];exact hi)];simp only [BK,List.getElem_range]
  refine ⟨(List.range len).map fun i=>(Q i).1,?_,fun x hx2=> ?_⟩
  .rw [hXl];refine .dat len _ blk off 7 m (fun i j=>(Q i).2 j) hl (fun i hil=>by rw [fI i hil];rfl) (fun i j hil hj=> ?_) (fun i j hil hj=> ?_)
   .have hj7:j<7:=by rw [fI i hil] at hj;exact hj
    have:=(hQ i hil).2.1 j hj7;simp only [fI i hil];exact this
   .have e2:=(hQ i hil).1 j hj;unfold World.cell? at e2;split at e2
    .rename_i cl el fz hb2;simp only [Option.isSome_none,Bool.false_eq_true,if_false] at e2;exact ⟨cl,el,fz,hb2,e2⟩
    .cases e2
  .obtain ⟨i,hi2,rfl⟩:=BR.1 hx2;exact (hQ i (A2.1 hi2)).2.2
end
end Go.Am
end
