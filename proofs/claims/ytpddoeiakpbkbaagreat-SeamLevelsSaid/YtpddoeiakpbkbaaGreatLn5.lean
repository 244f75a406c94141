/- A part of a proof: several texts in one. -/
import Derived.Test.YtpddoeiakpbkbaaGreatLn4
set_option maxRecDepth 1000000
set_option maxHeartbeats 8000000
set_option linter.unusedVariables false
set_option linter.unusedSimpArgs false
noncomputable section
namespace Go.Am
open IntKind (wrap)
open Go.Proofs.Tryz
open Go.Proofs Go.Sort Go.Shelf Go.RowKit Go.Lib
def y9u (a:Int) (L:List R6) (p:Int):List R4:=(L.filter fun r=>decide (w9r a r.a r.b r.c≤p)&&decide (p<w9r a r.d r.e r.f)).map fun r=>⟨z2a a r.a r.b r.c,z1z a r.a r.b r.c,z2a a r.d r.e r.f,z1z a r.d r.e r.f⟩
theorem w1a (a:Int) (L M:List R6) (p:Int):y9u a (L++M) p=y9u a L p++y9u a M p:=by
 grind [y9u]
theorem cutA_t (a:Int) {r:R6} {p:Int} (h1:w9r a r.a r.b r.c≤p) (h2:p<w9r a r.d r.e r.f):y9u a [r] p=[⟨z2a a r.a r.b r.c,z1z a r.a r.b r.c,z2a a r.d r.e r.f,z1z a r.d r.e r.f⟩]:=by
 grind [y9u]
theorem j6b (a:Int) {r:R6} {p:Int} (h1: ¬w9r a r.a r.b r.c≤p):y9u a [r] p=[]:=by
 grind [y9u]
theorem j6a (a:Int) {r:R6} {p:Int} (h2: ¬p<w9r a r.d r.e r.f):y9u a [r] p=[]:=by
 grind [y9u]
def y4j (a:Int) (L:List R6) (p:Int):List R4:=Zm (y9u a L p)
def w2u (a:Int) (L:List R6) (p:Int):Int:=Yo (y9u a L p)
def x3f (a:Int) (L:List R6) (p:Int):Bool:=axO a&&decide (L.length≤1000)
theorem u4g (a:Int) (L:List R6) (p:Int) (ha:axO a=true) (hl:L.length≤1000): ∀(k i:Nat) (acc:List R4),i+k=L.length→acc.length≤i→y9u a L p=acc++y9u a (L.drop i) p→
  ∃n,Zr (z3s a L p) n (.to (.h0 acc (i:Int)))=.ret [.dat (y4j a L p).length (Zz (y4j a L p)),.int .i64 (w2u a L p)]
 | 0,i,acc,h,h',e=>by
  rw [As (by omega),show y9u a [] p=[] from rfl,AB] at e;refine ⟨1,?_⟩
  grind [y4j,w2u,Zw,z3s,Zb,Uu,Zq]
 | k+1,i,acc,h,h',e=>by
  have hi:i<L.length:=by omega
  have oA: ∀x y z,z2d a x y z=true:=fun _ _ _=>ha;have oF: ∀x y z,z1y a x y z=true:=fun _ _ _=>ha;have e2:y9u a L p=(acc++y9u a [rd L i] p)++y9u a (L.drop (i+1)) p:=by rw [AI,←w1a,e,Yg hi];rfl
  obtain ⟨n,hn⟩:=u4g a L p ha hl k (i+1) (acc++y9u a [rd L i] p) (by omega) (by
   grind [y9u]) e2
  refine ⟨n+1,?_⟩;rw [Zw];by_cases h1:w9r a (rd L i).a (rd L i).b (rd L i).c ≤p
  ·by_cases h2:p<w9r a (rd L i).d (rd L i).e (rd L i).f
   ·rw [cutA_t a h1 h2] at hn;simp (disch:=omega) only [z3s,oA,oF,Xo,Zb,Zp,Zs,Zn,Ya,Yv,Yu,Ze,Zj,Zx,show Nat.beq 4 4=true from rfl,Zk,Af,Ao,Ah,Ai,Ab,Aa];exact hn
   ·rw [j6a a h2,AB] at hn
    grind [z3s,Zj,Zk]
  grind [j6b,z3s,Zj,Zk]
theorem u9z (a:Int) (L:List R6) (p:Int) (h:x3f a L p=true): ∃n,Zr (z3s a L p) n (x0o a L p)=.ret [.dat (y4j a L p).length (Zz (y4j a L p)),.int .i64 (w2u a L p)]:=by obtain ⟨h1,h2⟩:=Ba.1 h;exact u4g a L p h1 (Av h2) L.length 0 [] (Af _) (Aq _) rfl
def fSct :List AVal→Option (AVal×Bool)
 | [.agg [.int .i64 aJ],a1,.int .i64 x2]=>match asL R6 a1 with
  | some (L1,g1,n1)=>some (.tup [.dat (y4j aJ L1 x2).length (Zz (y4j aJ L1 x2)),.int .i64 (w2u aJ L1 x2)],isT R6 n1 g1&&(x3f aJ L1 x2))
  | _=>none
 | _=>none
theorem j3z {S:Specs} (hS:Zv prog S):Zv prog (S.with nSCut fSct):=by
 refine Qe hS (by kernel_rfl) fun args v h=> ?_;unfold fSct at h;split at h
 ·rename_i aJ a1 x2;split at h
  ·rename_i L1 g1 n1 e1;simp only [Ae,Ad,Ac] at h;obtain ⟨rfl,ho1,hw⟩:=h;obtain ⟨N,hN⟩:=u9z aJ L1 x2 hw;exact ⟨_,_,(.cons (.refl _) (.cons (Yc e1 ho1) (.cons (.refl _) .nil))),rfl,v7y aJ L1 x2 N _ hN,3,rfl⟩
  ·cases h
 ·cases h
def whE :List R6→List Pa→Int
 | _,[]=>0
 | acc,x::r=>bif z3r .u acc x.s != 0 then z3r .u acc x.s else whE (z2i .u acc x.s) r
def whL :List R6→List Pa→List R6
 | acc,[]=>acc
 | acc,x::r=>whL (z2i .u acc x.s) r
def u3c (l:List Pa):Int:=whE [] l
def u3d (l:List Pa):List R6:=y7f (whE [] l) (whL [] l)
def x3a (l:List Pa):Bool:=decide (l.length≤1000)
theorem u3b (l:List Pa) (hl:l.length≤1000): ∀(k i:Nat) (acc:List R6),i+k=l.length→ ∃n,Zr (z6b l) n (.to (.h0 acc (i:Int)))=.ret (z8y (whE acc (l.drop i)) (whL acc (l.drop i)))
 | 0,i,acc,h=>by rw [As (by omega)];refine ⟨1,?_⟩;rw [Zw];simp (disch:=omega) only [z6b,Yb,Aa,Zq];rfl
 | k+1,i,acc,h=>by
  have hi:i<l.length:=by omega
  obtain ⟨n,hn⟩:=u3b l hl k (i+1) (z2i .u acc (rd l i).s) (by omega);refine ⟨n+1,?_⟩;rw [Zw,Yg hi];have e:z6b l (.h0 acc (i:Int))=bif z3r .u acc (rd l i).s != 0 then .ret [.nils,.int .i64 (z3r .u acc (rd l i).s)] else .to (.h0 (z2i .u acc (rd l i).s) ((i+1:Nat):Int)):=by
   grind [z6b,Zb,z4s,Zj]
  rw [e];unfold whE whL;rcases Yy (z3r .u acc (rd l i).s != 0) with q | q;all_goals grind [Zq,Vv]
theorem u8u (l:List Pa) (h:x3a l=true): ∃n,Zr (z6b l) n (x0c l)=.ret (z8y (u3c l) (whL [] l)):=u3b l (Av h) l.length 0 [] (Af _)
def fSwh :List AVal→Option (AVal×Bool)
 | [a0]=>match asL Pa a0 with
  | some (L0,g0,n0)=>some (.tup [.dat (u3d L0).length (Zz (u3d L0)),.int .i64 (u3c L0)],isT Pa n0 g0&&(x3a L0))
  | _=>none
 | _=>none
theorem j3t {S:Specs} (hS:Zv prog S):Zv prog (S.with v4b fSwh):=by
 refine x6d hS (by kernel_rfl) fun args v h=> ?_;unfold fSwh at h;split at h
 ·rename_i a0;split at h
  ·rename_i L0 g0 n0 e0;simp only [Ae,Ad,Ac] at h;obtain ⟨rfl,ho0,hw⟩:=h;obtain ⟨N,hN⟩:=u8u L0 hw;exact ⟨_,_,(.cons (Yc e0 ho0) .nil),Qt _ _,v7g L0 N _ hN,3,z2n _ _⟩
  ·cases h
 ·cases h
def Vb2 :Specs:=((Vb.with nSCut fSct).with v4b fSwh)
theorem Vb2_ok :Zv prog Vb2:=(j3t (j3z Kc))
inductive skcS where
 | h0 (v15:Int)
 | h1 (v28:Int)
 | h2 (v0:List R6) (v7:Int) (v8:Int) (cW:List R6) (bC:Int) (bT:Int) (cS:List R6) (aD:Int) (bB:Int) (bA:Int) (bN:Int) (cI:Int) (cJ:Int) (cK:List R6)
 | h3 (v0:List Pa) (v7:Int) (v8:Int) (bT:Int) (aD:Int) (bB:Int) (bA:Int) (bN:Int) (cI:Int) (cJ:Int) (cK:List R6)
abbrev z5o (l0:List Pa) (v28:Int):=(R6.mk (rd l0 (tn v28)).a (rd l0 (tn v28)).b (rd l0 (tn v28)).c (rd l0 (tn v28)).d (rd l0 (tn v28)).e (rd l0 (tn v28)).f)
abbrev z3h (l0:List Pa) (bC:Int):=(Zz (Ky l0 0 (tn bC)))
def y0s (l0:List Pa):AVal:=(.dat l0.length (Zz l0))
def skcC (l0:List Pa):skcS→Cfg
 | .h0 v15=>⟨⟨54,0,true⟩,none,(Zc prog 20 [1,1,0,1,0,0] 0),none,(Zy prog 9),⟨Yj [(0,(y0s l0)),(13,(y0s l0)),(14,(ii (l0.length:Int))),(15,(ii v15))],Wn [] 0,0,[],true⟩,[],.leaf⟩
 | .h1 v28=>⟨⟨54,0,true⟩,none,(Zc prog 20 [1,1,1,0,1,0,0] 0),none,(Zy prog 9),⟨Yj [(0,(y0s l0)),(26,(y0s l0)),(27,(ii (l0.length:Int))),(28,(ii v28))],Wn [] 0,0,[],true⟩,[],.leaf⟩
 | .h2 v0 v7 v8 cW bC bT cS aD bB bA bN cI cJ cK=>⟨⟨19,0,true⟩,none,(Zc prog 95 [1,0,1,0,0] 0),none,(Zy prog 6),⟨Yj [(0,(.dat v0.length (Zz v0))),(1,(.fn 53 [(.ptr 0 0)])),(7,(ii v7)),(8,(ii v8))],Wn [⟨[(ii aD),(ii bB),(ii bA),(ii bN),(ii cI),(ii cJ),(.dat cK.length (Zz cK))],59,none⟩] 0,1,[],true⟩,[⟨⟨9,0,true⟩,(Vk prog 57 [1,0] 2),(Zc prog 57 [1,0] 1),none,(Zy prog 6),Yj [(5,(.dat cW.length (Zz cW))),(6,(.fn 53 [(.ptr 0 0)]))]⟩,⟨⟨54,0,true⟩,(Vk prog 20 [1,1,1,0,1,0,0,1,1,0,0,1,1,1,0] 9),(Zc prog 20 [1,1,1,0,1,0,0,1,1,0,0,1,1,1,0] 1),none,(Zy prog 9),Yj [(0,(y0s l0)),(6,(ii bC)),(9,(.fn 55 [(.ptr 0 0)])),(26,(y0s l0)),(27,(ii (l0.length:Int))),(28,(ii bT)),(40,(.bool false)),(42,(.dat cS.length (Zz cS))),(43,(.fn 53 [(.ptr 0 0)]))]⟩],.leaf⟩
 | .h3 v0 v7 v8 bT aD bB bA bN cI cJ cK=>⟨⟨19,0,true⟩,none,(Zc prog 96 [1,0,1,0,0] 0),none,(Zy prog 6),⟨Yj [(0,(.dat v0.length (Zz v0))),(1,(.fn 55 [(.ptr 0 0)])),(7,(ii v7)),(8,(ii v8))],Wn [⟨[(ii aD),(ii bB),(ii bA),(ii bN),(ii cI),(ii cJ),(.dat cK.length (Zz cK))],59,none⟩] 0,1,[],true⟩,[⟨⟨9,0,true⟩,(Vk prog 58 [1,0] 2),(Zc prog 58 [1,0] 1),none,(Zy prog 6),Yj [(5,(.dat v0.length (Zz v0))),(6,(.fn 55 [(.ptr 0 0)]))]⟩,⟨⟨54,0,true⟩,(Vk prog 20 [1,1,1,0,1,0,0,1,1,0,0,1,1,1,0] 16),(Zc prog 20 [1,1,1,0,1,0,0,1,1,0,0,1,1,1,0] 1),none,(Zy prog 9),Yj [(0,(y0s l0)),(26,(y0s l0)),(27,(ii (l0.length:Int))),(28,(ii bT)),(46,(.bool false)),(49,(.dat v0.length (Zz v0))),(50,(.fn 55 [(.ptr 0 0)]))]⟩],.leaf⟩
def skcN0 :List (Option (List Nat)):=[some [0,13,14,15]]
def skcM0 :List (Option (List Nat)):=[]
def u9s :List (Option (List Nat)):=[some [0,26,27,28]]
def u9u :List (Option (List Nat)):=[]
def skcN2 :List (Option (List Nat)):=[some [0,1,7,8],some [5,6],some [0,6,9,26,27,28,40,42,43]]
def skcM2 :List (Option (List Nat)):=[]
def u9r :List (Option (List Nat)):=[some [0,1,7,8],some [5,6],some [0,26,27,28,46,49,50]]
def u9t :List (Option (List Nat)):=[]
def Wr (l0:List Pa):skcS→Xx skcS
 | .h0 v15=>(bif (decide (v15<(l0.length:Int))) then (bif ((decide (0≤v15∧v15<(l0.length:Int)))&&true) then (bif (Vi (cvT (rd l0 v15.toNat).s)) then (bif ((Yx (cvT (rd l0 v15.toNat).s)) != 0) then (.ret [(.int .i64 (Yx (cvT (rd l0 v15.toNat).s)))]) else (.to (.h0 (wrap .i64 (v15+1))))) else .stuck) else .stuck) else (.to (.h1 0)))
 | .h1 v28=>(bif (decide (v28<(l0.length:Int))) then (bif ((decide (0≤v28∧v28<(l0.length:Int)))&&true) then (bif (Vi (cvT ([(R6.mk (rd l0 v28.toNat).a (rd l0 v28.toNat).b (rd l0 v28.toNat).c (rd l0 v28.toNat).d (rd l0 v28.toNat).e (rd l0 v28.toNat).f)]:List R6))) then (bif ((Yx (cvT ([(R6.mk (rd l0 v28.toNat).a (rd l0 v28.toNat).b (rd l0 v28.toNat).c (rd l0 v28.toNat).d (rd l0 v28.toNat).e (rd l0 v28.toNat).f)]:List R6))) != 0) then (.ret [(.int .i64 8)]) else (.to (.h2 (rd l0 v28.toNat).s (((rd l0 v28.toNat).s.length :Nat):Int) 0 (rd l0 v28.toNat).s v28 v28 (rd l0 v28.toNat).s (rd l0 v28.toNat).a (rd l0 v28.toNat).b (rd l0 v28.toNat).c (rd l0 v28.toNat).d (rd l0 v28.toNat).e (rd l0 v28.toNat).f (rd l0 v28.toNat).s))) else .stuck) else .stuck) else (.ret [(.int .i64 0)]))
 | .h2 v0 v7 v8 cW bC bT cS aD bB bA bN cI cJ cK=>(bif (decide (v8<v7)) then (bif ((decide (0≤v8∧v8<(v0.length:Int)))&&true) then (bif (!(u7u (rd v0 v8.toNat).a (rd v0 v8.toNat).b (rd v0 v8.toNat).c (rd v0 v8.toNat).d (rd v0 v8.toNat).e (rd v0 v8.toNat).f aD bB bA bN cI cJ)) then (bif (decide (v8≥0)) then (.ret [(.int .i64 8)]) else (bif (decide (0≤bC.toNat)) then (bif (decide (bC.toNat≤l0.length)) then (bif (decide (0≤bC)) then (.to (.h3 (Ky l0 0 bC.toNat) ((bC.toNat:Nat):Int) 0 bT aD bB bA bN cI cJ cK)) else .stuck) else .stuck) else .stuck)) else (.to (.h2 v0 v7 (wrap .i64 (v8+1)) cW bC bT cS aD bB bA bN cI cJ cK))) else .stuck) else (bif (decide (0≤bC.toNat)) then (bif (decide (bC.toNat≤l0.length)) then (bif (decide (0≤bC)) then (.to (.h3 (Ky l0 0 bC.toNat) ((bC.toNat:Nat):Int) 0 bT aD bB bA bN cI cJ cK)) else .stuck) else .stuck) else .stuck))
 | .h3 v0 v7 v8 bT aD bB bA bN cI cJ cK=>(bif (decide (v8<v7)) then (bif ((decide (0≤v8∧v8<(v0.length:Int)))&&true) then (bif (u7k aD bB bA bN cI cJ (rd v0 v8.toNat).a (rd v0 v8.toNat).b (rd v0 v8.toNat).c (rd v0 v8.toNat).d (rd v0 v8.toNat).e (rd v0 v8.toNat).f) then (bif (decide (v8≥0)) then (.ret [(.int .i64 8)]) else (.to (.h1 (wrap .i64 (bT+1))))) else (.to (.h3 v0 v7 (wrap .i64 (v8+1)) bT aD bB bA bN cI cJ cK))) else .stuck) else (.to (.h1 (wrap .i64 (bT+1)))))
def z4t (l0:List Pa):Xx skcS:=(bif (decide ((l0.length:Int)>50)) then (.ret [(.int .i64 4)]) else (.to (.h0 0)))
theorem w6c (l0:List Pa): ∀s,Xy prog (Zy prog 20) (skcC l0) (skcC l0 s) (Wr l0 s)
 | .h0 v15=>(lb (fun k0=>(lo fun aI=>(lo fun bD=>(lb (fun k1=>(lr 54 20 [1,1,0,1,0,0,1,1,0,0,1,1,1,0,0] 1 9 [(2,(ii (Yx (cvT (rd l0 (tn v15)).s))))] (sl Kc 34 [] ⟨[],[],[some [2]],[]⟩ ⟨[],[],[]⟩ (bl 2 3) (tt k1 (pp (pp (xI R6 (rd l0 (tn v15)).s.length (Zz (rd l0 (tn v15)).s)) (xw bD)) (ww aI (tt k0 nn))))))) (fun k1=>(sl Kc 36 [] ⟨[],[],skcN0,skcM0⟩ ⟨[],[],[]⟩ (bl 2 1) (tt k1 (pp (pp (xI R6 (rd l0 (tn v15)).s.length (Zz (rd l0 (tn v15)).s)) (xw bD)) (ww aI (tt k0 nn)))))))))) (fun k0=>(sl Kc 16 [] ⟨[],[],u9s,u9u⟩ ⟨[],[],[]⟩ [false] (tt k0 nn))))
 | .h1 v28=>(lb (fun k0=>(lo fun q1_0=>(Wy (sl Kc (C':=⟨⟨54,0,true⟩,(Vk prog 20 [1,1,1,0,1,0,0,1,1,0,0,1,1,1,0] 3),(Zc prog 20 [1,1,1,0,1,0,0,1,1,0,0,1,1,1,0] 1),none,(Zy prog 9),⟨Yj [(0,(.dat l0.length (Zz l0))),(6,(ii v28)),(7,(.ptr 0 0)),(8,(.fn 53 [(.ptr 0 0)])),(9,(.fn 55 [(.ptr 0 0)])),(26,(.dat l0.length (Zz l0))),(27,(ii (l0.length:Int))),(28,(ii v28)),(37,(.dat ([(z5o l0 v28)]:List R6).length (Zz ([(z5o l0 v28)]:List R6))))],Wn [⟨[(ii (rd l0 (tn v28)).a),(ii (rd l0 (tn v28)).b),(ii (rd l0 (tn v28)).c),(ii (rd l0 (tn v28)).d),(ii (rd l0 (tn v28)).e),(ii (rd l0 (tn v28)).f),(.dat (rd l0 (tn v28)).s.length (Zz (rd l0 (tn v28)).s))],59,none⟩] 0,1,[],true⟩,[],.leaf⟩) 33 [] ⟨[0],[1],[some [0,6,7,8,9,26,27,28,37]],[]⟩ ⟨[(37,.frz 1 ([(z5o l0 v28)]:List R6).length (z5m [(ii (rd l0 (tn v28)).a),(ii (rd l0 (tn v28)).b),(ii (rd l0 (tn v28)).c),(ii (rd l0 (tn v28)).d),(ii (rd l0 (tn v28)).e),(ii (rd l0 (tn v28)).f)] 0 6) (Zz ([(z5o l0 v28)]:List R6)))],[],[]⟩ [true] (pp (xZ (.dat 1 (z5m [(ii (rd l0 (tn v28)).a),(ii (rd l0 (tn v28)).b),(ii (rd l0 (tn v28)).c),(ii (rd l0 (tn v28)).d),(ii (rd l0 (tn v28)).e),(ii (rd l0 (tn v28)).f)] 0 6)) 1 (z5m [(ii (rd l0 (tn v28)).a),(ii (rd l0 (tn v28)).b),(ii (rd l0 (tn v28)).c),(ii (rd l0 (tn v28)).d),(ii (rd l0 (tn v28)).e),(ii (rd l0 (tn v28)).f)] 0 6)) (pp (xL 1 ([(z5o l0 v28)]:List R6).length) (pp (xS 1 (z5m [(ii (rd l0 (tn v28)).a),(ii (rd l0 (tn v28)).b),(ii (rd l0 (tn v28)).c),(ii (rd l0 (tn v28)).d),(ii (rd l0 (tn v28)).e),(ii (rd l0 (tn v28)).f)] 0 6) (Zz ([(z5o l0 v28)]:List R6))) (ww q1_0 (tt k0 nn)))))) (lo fun aI=>(lb (fun k1=>(lr 54 20 [1,1,1,0,1,0,0,1,1,0,0,1,1,1,1,0,0] 1 9 [(2,(ii 8))] (sl Kc 21 [] ⟨[],[],[some [2]],[]⟩ ⟨[],[],[]⟩ (trs 10 []) (tt k1 (pp (pp (xI R6 ([(z5o l0 v28)]:List R6).length (Zz ([(z5o l0 v28)]:List R6))) (xw aI)) nn))))) (fun k1=>(sl Kc 29 [] ⟨[0],[],skcN2,skcM2⟩ ⟨[],[],[]⟩ (bl 4 0) (tt k1 (pp (pp (xI R6 ([(z5o l0 v28)]:List R6).length (Zz ([(z5o l0 v28)]:List R6))) (xw aI)) nn))))))))) (fun k0=>(lr 54 3 [1,1,1,1,0] 1 9 [(2,(ii 0))] (sl Kc 11 [] ⟨[],[],[some [2]],[]⟩ ⟨[],[],[]⟩ [false] (tt k0 nn)))))
 | .h2 v0 v7 v8 cW bC bT cS aD bB bA bN cI cJ cK=>(lb (fun k0=>(lo fun aI=>(lb (fun k1=>(lb (fun k2=>(lr 54 20 [1,1,1,0,1,0,0,1,1,0,0,1,1,1,1,0,0] 1 9 [(2,(ii 8))] (sl Kc 63 [] ⟨[],[],[some [2]],[]⟩ ⟨[],[],[]⟩ (trs 8 []) (tt k2 (tt k1 (ww aI (tt k0 nn))))))) (fun k2=>(lo fun o0=>(lo fun o1=>(lo fun o2=>(sl Kc 78 [] ⟨[0],[],u9r,u9t⟩ ⟨[(0,.list (Ky l0 0 (tn bC)).length (z3h l0 bC))],[],[[(5,.list (Ky l0 0 (tn bC)).length (z3h l0 bC))],[(49,.list (Ky l0 0 (tn bC)).length (z3h l0 bC))]]⟩ (bl 7 3) (pp (xL (tn bC) (Ky l0 0 (tn bC)).length) (pp (xS (tn bC) (fun k=>(Zz l0) (0+k)) (z3h l0 bC)) (pp (xL (tn bC) (Ky l0 0 (tn bC)).length) (pp (xS (tn bC) (fun k=>(Zz l0) (0+k)) (z3h l0 bC)) (pp (xL (tn bC) (Ky l0 0 (tn bC)).length) (pp (xS (tn bC) (fun k=>(Zz l0) (0+k)) (z3h l0 bC)) (pp (pp (xw o2) (pp nn (pp (xG (decide ((tn bC)≤l0.length))) (pp (xG (decide (0≤(tn bC)))) (xG (lenR l0.length (Zz l0) 7)))))) (tt k2 (tt k1 (ww aI (tt k0 nn)))))))))))))))))) (fun k1=>(sl Kc 46 [] ⟨[0],[],skcN2,skcM2⟩ ⟨[],[],[]⟩ (bl 2 1) (tt k1 (ww aI (tt k0 nn)))))))) (fun k0=>(lo fun o0=>(lo fun o1=>(lo fun o2=>(sl Kc 45 [] ⟨[0],[],u9r,u9t⟩ ⟨[(0,.list (Ky l0 0 (tn bC)).length (z3h l0 bC))],[],[[(5,.list (Ky l0 0 (tn bC)).length (z3h l0 bC))],[(49,.list (Ky l0 0 (tn bC)).length (z3h l0 bC))]]⟩ (bl 6 0) (pp (xL (tn bC) (Ky l0 0 (tn bC)).length) (pp (xS (tn bC) (fun k=>(Zz l0) (0+k)) (z3h l0 bC)) (pp (xL (tn bC) (Ky l0 0 (tn bC)).length) (pp (xS (tn bC) (fun k=>(Zz l0) (0+k)) (z3h l0 bC)) (pp (xL (tn bC) (Ky l0 0 (tn bC)).length) (pp (xS (tn bC) (fun k=>(Zz l0) (0+k)) (z3h l0 bC)) (pp (pp (xw o2) (pp nn (pp (xG (decide ((tn bC)≤l0.length))) (pp (xG (decide (0≤(tn bC)))) (xG (lenR l0.length (Zz l0) 7)))))) (tt k0 nn))))))))))))))
 | .h3 v0 v7 v8 bT aD bB bA bN cI cJ cK=>(lb (fun k0=>(lo fun aI=>(lb (fun k1=>(lb (fun k2=>(lr 54 20 [1,1,1,0,1,0,0,1,1,0,0,1,1,1,1,0,0] 1 9 [(2,(ii 8))] (sl Kc 56 [] ⟨[],[],[some [2]],[]⟩ ⟨[],[],[]⟩ (trs 3 []) (tt k2 (tt k1 (ww aI (tt k0 nn))))))) (fun k2=>(sl Kc 59 [] ⟨[],[],u9s,u9u⟩ ⟨[],[],[]⟩ (bl 3 3) (tt k2 (tt k1 (ww aI (tt k0 nn)))))))) (fun k1=>(sl Kc 46 [] ⟨[0],[],u9r,u9t⟩ ⟨[],[],[]⟩ (bl 2 1) (tt k1 (ww aI (tt k0 nn)))))))) (fun k0=>(sl Kc 26 [] ⟨[],[],u9s,u9u⟩ ⟨[],[],[]⟩ (bl 2 0) (tt k0 nn))))
theorem x6w (l0:List Pa):Xy prog (Zy prog 20) (skcC l0) (Zg prog 20 [(.dat l0.length (Zz l0))] true []) (z4t l0):=(lb (fun k0=>(lr 54 20 [1,0,1,0,0] 1 9 [(2,(ii 4))] (sl Kc 16 [] ⟨[],[],[some [2]],[]⟩ ⟨[],[],[]⟩ [true] (tt k0 nn)))) (fun k0=>(sl Kc 22 [] ⟨[],[],skcN0,skcM0⟩ ⟨[],[],[]⟩ [false] (tt k0 nn))))
theorem w2s (l0:List Pa) (n:Nat) (vs:List AVal) (h:Zr (Wr l0) n (z4t l0)=.ret vs):Uz prog (Zy prog 20) (Zg prog 20 [(.dat l0.length (Zz l0))] true []) vs:=by have:=Zd (w6c l0) n _ (x6w l0);rwa [h] at this
def bxP (x:Pa):R6:=⟨x.a,x.b,x.c,x.d,x.e,x.f⟩
def insR (r x:R6):Bool:=u7u r.a r.b r.c r.d r.e r.f x.a x.b x.c x.d x.e x.f
def v4j (x y:R6):Bool:=u7k x.a x.b x.c x.d x.e x.f y.a y.b y.c y.d y.e y.f
def w9p (l:List Pa) (i:Nat):Bool:=Yx [bxP (rd l i)] != 0||((rd l i).s.any (fun r=> !insR r (bxP (rd l i)))||(l.take i).any fun y=>v4j (bxP (rd l i)) (bxP y))
def skG (l:List Pa):Nat→Nat→Int
 | 0,_=>0
 | k+1,i=>bif w9p l i then 8 else skG l k (i+1)
def skE :List Pa→Int
 | []=>0
 | x::r=>bif Yx x.s != 0 then Yx x.s else skE r
def z9g (l:List Pa):Int:=bif decide (50<l.length) then 4 else bif skE l != 0 then skE l else skG l l.length 0
theorem w7t {l:List Pa} {i:Nat} (h:i≤l.length):Ky l 0 i=l.take i:=(v4l l 0 i).symm.trans (by rw [u1d l (by omega)];rfl)
def smP (l:List Pa):Bool:=decide (l.length≤1000)&&l.all fun x=>decide (x.s.length≤2000000)
def x3e (l:List Pa):Bool:=smP l
theorem z6d {l:List Pa} (h:smP l=true):l.length≤1000:=Av (Ba.1 h).1
theorem w2m {l:List Pa} (h:smP l=true) {i:Nat} (hi:i<l.length):(rd l i).s.length ≤2000000:=by rw [Xz hi];exact Av (Ar.1 (Ba.1 h).2 _ (AY hi))
section
variable (l:List Pa) (hl:l.length≤1000)
include hl
theorem u3z (i:Nat) (hi:i<l.length) (x:R6) (S:List R6) (V:List Pa) (hV:V.length≤1000): ∀(k j:Nat),j+k=V.length→
  ∃n,∀N,Zr (Wr l) (N+n) (.to (.h3 V (V.length:Int) (j:Int) (i:Int) x.a x.b x.c x.d x.e x.f S))=bif (V.drop j).any (fun y=>v4j x (bxP y)) then .ret [.int .i64 8] else Zr (Wr l) N (.to (.h1 ((i+1:Nat):Int)))
 | 0,j,h=>by
  refine ⟨1,fun N=> ?_⟩
  grind [Zw,Wr,Zj]
 | k+1,j,h=>by
  have hj:j<V.length:=by omega
  obtain ⟨n,hn⟩:=u3z i hi x S V hV k (j+1) (by omega);refine ⟨n+1,fun N=> ?_⟩;rw [←AG,Zw,Yg hj,BK];have e:Wr l (.h3 V (V.length:Int) (j:Int) (i:Int) x.a x.b x.c x.d x.e x.f S)=bif v4j x (bxP (rd V j)) then .ret [.int .i64 8] else .to (.h3 V (V.length:Int) ((j+1:Nat):Int) (i:Int) x.a x.b x.c x.d x.e x.f S):=by
   grind [Wr,v4j,bxP,Zj]
  grind [Zq]
theorem u4a (i:Nat) (hi:i<l.length) (x:R6) (S:List R6) (hS:S.length≤2000000): ∀(k j:Nat),j+k=S.length→
  ∃n,∀N,Zr (Wr l) (N+n) (.to (.h2 S (S.length:Int) (j:Int) S (i:Int) (i:Int) S x.a x.b x.c x.d x.e x.f S))=bif (S.drop j).any (fun r=> !insR r x)||(l.take i).any (fun y=>v4j x (bxP y)) then .ret [.int .i64 8] else Zr (Wr l) N (.to (.h1 ((i+1:Nat):Int)))
 | 0,j,h=>by
  have e0:(l.take i).length =i:=by grind
  obtain ⟨n,hn⟩:=u3z l hl i hi x S (l.take i) (by omega) i 0 (by omega);refine ⟨n+1,fun N=> ?_⟩;rw [←AG,Zw,As (by omega)];have hn:=hn N;rw [e0,AT] at hn;simp (disch:=omega) only [Wr,Yb,Xo,Ya,Zk,w7t (show i≤l.length by omega),Ab,Aa,List.any_nil,BL];exact hn
 | k+1,j,h=>by
  have hj:j<S.length:=by omega
  obtain ⟨n,hn⟩:=u4a i hi x S hS k (j+1) (by omega);refine ⟨n+1,fun N=> ?_⟩;rw [←AG,Zw,Yg hj,BK];have e:Wr l (.h2 S (S.length:Int) (j:Int) S (i:Int) (i:Int) S x.a x.b x.c x.d x.e x.f S)=bif !insR (rd S j) x then .ret [.int .i64 8] else .to (.h2 S (S.length:Int) ((j+1:Nat):Int) S (i:Int) (i:Int) S x.a x.b x.c x.d x.e x.f S):=by
   grind [Wr,insR,Zj]
  grind [Zq]
theorem u4b (hs:smP l=true): ∀(k i:Nat),i+k=l.length→ ∃n,Zr (Wr l) n (.to (.h1 (i:Int)))=.ret [.int .i64 (skG l k i)]
 | 0,i,h=>by refine ⟨1,?_⟩;rw [Zw];simp (disch:=omega) only [Wr,Yb,Aa,Zq];rfl
 | k+1,i,h=>by
  have hi:i<l.length:=by omega
  obtain ⟨m,hm⟩:=u4b hs k (i+1) (by omega);obtain ⟨n,hn⟩:=u4a l hl i hi (bxP (rd l i)) (rd l i).s (w2m hs hi) (rd l i).s.length 0 (Af _);refine ⟨m+n+1,?_⟩;have e:Wr l (.h1 (i:Int))=bif Yx [bxP (rd l i)] != 0 then .ret [.int .i64 8] else .to (.h2 (rd l i).s ((rd l i).s.length :Int) ((0:Nat):Int) (rd l i).s (i:Int) (i:Int) (rd l i).s (bxP (rd l i)).a (bxP (rd l i)).b (bxP (rd l i)).c (bxP (rd l i)).d (bxP (rd l i)).e (bxP (rd l i)).f (rd l i).s):=by simp_all [Wr,bxP,Zb,Vi]
  rw [Zw,e];show _=Xx.ret [.int .i64 (bif w9p l i then 8 else skG l k (i+1))];unfold w9p;rcases Yy (Yx [bxP (rd l i)] != 0) with q | q;all_goals grind [Zq]
theorem u4c (hs:smP l=true): ∀(k i:Nat),i+k=l.length→ ∃n,Zr (Wr l) n (.to (.h0 (i:Int)))=.ret [.int .i64 (bif skE (l.drop i) != 0 then skE (l.drop i) else skG l l.length 0)]
 | 0,i,h=>by obtain ⟨m,hm⟩:=u4b l hl hs l.length 0 (Af _);refine ⟨m+1,?_⟩;rw [Zw,As (by omega)];simp (disch:=omega) only [Wr,Yb,Aa];exact hm
 | k+1,i,h=>by
  have hi:i<l.length:=by omega
  obtain ⟨m,hm⟩:=u4c hs k (i+1) (by omega);refine ⟨m+1,?_⟩;have e:Wr l (.h0 (i:Int))=bif Yx (rd l i).s != 0 then .ret [.int .i64 (Yx (rd l i).s)] else .to (.h0 ((i+1:Nat):Int)):=by
   grind [Wr,Zb,Vi,Zj]
  rw [Zw,e,Yg hi];unfold skE;rcases Yy (Yx (rd l i).s != 0) with q | q;all_goals grind [Zq]
end
theorem v1l (l:List Pa) (h:x3e l=true): ∃n,Zr (Wr l) n (z4t l)=.ret [.int .i64 (z9g l)]:=by
 have hl:=z6d h;unfold z4t z9g;by_cases g:50<l.length
 ·exact ⟨0,by rw [Yn (by omega),Al g];rfl⟩
 ·obtain ⟨n,hn⟩:=u4c l hl h l.length 0 (Af _)
  grind
def fSkc :List AVal→Option (AVal×Bool)
 | [a0]=>match asL Pa a0 with
  | some (L0,g0,n0)=>some (.int .i64 (z9g L0),isT Pa n0 g0&&(x3e L0))
  | _=>none
 | _=>none
theorem j3y {S:Specs} (hS:Zv prog S):Zv prog (S.with x1h fSkc):=by
 refine Qe hS (by kernel_rfl) fun args v h=> ?_;unfold fSkc at h;split at h
 ·rename_i a0;split at h
  ·rename_i L0 g0 n0 e0;simp only [Ae,Ad,Ac] at h;obtain ⟨rfl,ho0,hw⟩:=h;obtain ⟨N,hN⟩:=v1l L0 hw;exact ⟨_,_,(.cons (Yc e0 ho0) .nil),rfl,w2s L0 N _ hN,3,rfl⟩
  ·cases h
 ·cases h
def Vc :Specs:=(Vb2.with x1h fSkc)
theorem Ka :Zv prog Vc:=(j3y Vb2_ok)
theorem x0m : ∀{l:List Pa},skE l=0→ ∀x∈l,Yx x.s=0
 | [],_,x,hx=>by cases hx
 | y::l,h,x,hx=>by
  unfold skE at h;rcases Yy (Yx y.s != 0) with q | q
  ·rw [q,Ab] at h;rw [h] at q;cases q
  ·rw [q,Aa] at h;rcases AM.1 hx with rfl | hx
   ·simpa using q
   ·exact x0m h x hx
theorem w2r {l:List Pa} (h:z9g l=0):l.length≤50∧skE l=0∧skG l l.length 0=0:=by
 unfold z9g at h
 grind
theorem v1m {l:List Pa} (h:z9g l=0) {i:Nat} (hi:i<l.length):Yx (rd l i).s =0∧(rd l i).s.length ≤400:=by
 grind [x0m,w2r,Xz,z4u]
def dhA (d:Int):Int:=wrap .i64 (Int.tdiv d 2)
def ownP (d p:Int):Int:=bif Int.tmod d 2 == 1 then p else wrap .i64 (p - 1)
def othP (d p:Int):Int:=bif Int.tmod d 2 == 1 then wrap .i64 (p - 1) else p
def eqB (t r:R6):Bool:=(((t.a == r.a)&&((t.b == r.b)&&((t.c == r.c)&&true)))&&(((t.d == r.d)&&((t.e == r.e)&&((t.f == r.f)&&true)))&&true))
def w7q (x y:R6):R6:=z8z x.a x.b x.c x.d x.e x.f y.a y.b y.c y.d y.e y.f
def rvbR (x:R6):Bool:=rvbV x.a x.b x.c x.d x.e x.f
def o6 :R6:=⟨0,0,0,0,0,0⟩
def j2h (l:List Pa) (i:Nat):Bool:= !rvbR (bxP (rd l i))||((rd l i).s.any (fun r=> !eqB (w7q r (bxP (rd l i))) r)||(l.take i).any fun y=> !eqB (w7q (bxP (rd l i)) (bxP y)) o6)
def rkG (l:List Pa):Nat→Nat→Int
 | 0,_=>0
 | k+1,i=>bif j2h l i then 8 else rkG l k (i+1)
def rkE :List Pa→Int
 | []=>0
 | x::r=>bif Xm x.s != 0 then Xm x.s else rkE r
def y6y (l:List Pa):Int:=bif decide (50<l.length) then 4 else bif rkE l != 0 then rkE l else rkG l l.length 0
def z7p (l:List Pa):Bool:=smP l
theorem v0o {l:List Pa} {i j:Nat} (hj:j<i) (hi:i≤l.length):(l.take i).drop j=rd l j::(l.take i).drop (j+1):=by
 have h1:j<(l.take i).length :=by grind
 rw [Bs h1,Bz,Xz (show j<l.length by omega)]
section
variable (l:List Pa) (hl:l.length≤1000)
include hl
theorem u5n (i:Nat) (hi:i<l.length): ∀(k j:Nat),j+k=i→ ∃n,∀N,Zr (Ws l) (N+n) (.to (.h3 (i:Int) (j:Int)))=bif ((l.take i).drop j).any (fun y=> !eqB (w7q (bxP (rd l i)) (bxP y)) o6) then .ret [.int .i64 8] else Zr (Ws l) N (.to (.h1 ((i+1:Nat):Int)))
 | 0,j,h=>by
  refine ⟨1,fun N=> ?_⟩
  grind [Zw,Ws,Zj]
 | k+1,j,h=>by
  have hj:j<i:=by omega
  obtain ⟨n,hn⟩:=u5n i hi k (j+1) (by omega);refine ⟨n+1,fun N=> ?_⟩;rw [←AG,Zw,v0o hj (by omega),BK];have e:Ws l (.h3 (i:Int) (j:Int))=bif !eqB (w7q (bxP (rd l i)) (bxP (rd l j))) o6 then .ret [.int .i64 8] else .to (.h3 (i:Int) ((j+1:Nat):Int)):=by
   grind [Ws,eqB,w7q,bxP,o6,Zj]
  grind [Zq]
theorem u5o (hs:smP l=true) (i:Nat) (hi:i<l.length): ∀(k j:Nat),j+k=(rd l i).s.length → ∃n,∀N,Zr (Ws l) (N+n) (.to (.h2 (i:Int) (j:Int)))=bif ((rd l i).s.drop j).any (fun r=> !eqB (w7q r (bxP (rd l i))) r)||(l.take i).any (fun y=> !eqB (w7q (bxP (rd l i)) (bxP y)) o6) then .ret [.int .i64 8] else Zr (Ws l) N (.to (.h1 ((i+1:Nat):Int)))
 | 0,j,h=>by obtain ⟨n,hn⟩:=u5n l hl i hi i 0 (by omega);refine ⟨n+1,fun N=> ?_⟩;rw [←AG,Zw,As (by omega)];simp_all [Ws]
 | k+1,j,h=>by
  have hS:=w2m hs hi;have hj:j<(rd l i).s.length :=by omega
  obtain ⟨n,hn⟩:=u5o hs i hi k (j+1) (by omega);refine ⟨n+1,fun N=> ?_⟩;rw [←AG,Zw,Yg hj,BK];have e:Ws l (.h2 (i:Int) (j:Int))=bif !eqB (w7q (rd (rd l i).s j) (bxP (rd l i))) (rd (rd l i).s j) then .ret [.int .i64 8] else .to (.h2 (i:Int) ((j+1:Nat):Int)):=by simp (disch:=omega) only [Ws,eqB,w7q,bxP,Zs,Zn,Zj,Zx,Zk,Ah,Ab]
  grind [Zq]
theorem u5p (hs:smP l=true): ∀(k i:Nat),i+k=l.length→ ∃n,Zr (Ws l) n (.to (.h1 (i:Int)))=.ret [.int .i64 (rkG l k i)]
 | 0,i,h=>by refine ⟨1,?_⟩;rw [Zw];simp (disch:=omega) only [Ws,Yb,Aa,Zq];rfl
 | k+1,i,h=>by
  have hi:i<l.length:=by omega
  obtain ⟨m,hm⟩:=u5p hs k (i+1) (by omega);obtain ⟨n,hn⟩:=u5o l hl hs i hi (rd l i).s.length 0 (Af _);refine ⟨m+n+1,?_⟩;have e:Ws l (.h1 (i:Int))=bif !rvbR (bxP (rd l i)) then .ret [.int .i64 8] else .to (.h2 (i:Int) ((0:Nat):Int)):=by simp_all [Ws,rvbR,bxP]
  rw [Zw,e];show _=Xx.ret [.int .i64 (bif j2h l i then 8 else rkG l k (i+1))];unfold j2h;rcases Yy (!rvbR (bxP (rd l i))) with q | q;all_goals grind [Zq]
theorem u5q (hs:smP l=true): ∀(k i:Nat),i+k=l.length→ ∃n,Zr (Ws l) n (.to (.h0 (i:Int)))=.ret [.int .i64 (bif rkE (l.drop i) != 0 then rkE (l.drop i) else rkG l l.length 0)]
 | 0,i,h=>by obtain ⟨m,hm⟩:=u5p l hl hs l.length 0 (Af _);refine ⟨m+1,?_⟩;rw [Zw,As (by omega)];simp (disch:=omega) only [Ws,Yb,Aa];exact hm
 | k+1,i,h=>by
  have hi:i<l.length:=by omega
  obtain ⟨m,hm⟩:=u5q hs k (i+1) (by omega);refine ⟨m+1,?_⟩;have e:Ws l (.h0 (i:Int))=bif Xm (rd l i).s != 0 then .ret [.int .i64 (Xm (rd l i).s)] else .to (.h0 ((i+1:Nat):Int)):=by
   grind [Ws,Zb,Vs,Zj]
  rw [Zw,e,Yg hi];unfold rkE;rcases Yy (Xm (rd l i).s != 0) with q | q;all_goals grind [Zq]
end
theorem v2m (l:List Pa) (h:z7p l=true): ∃n,Zr (Ws l) n (z4x l)=.ret [.int .i64 (y6y l)]:=by
 have hl:=z6d h;unfold z4x y6y;by_cases g:50<l.length
 ·exact ⟨0,by rw [Yn (by omega),Al g];rfl⟩
 ·obtain ⟨n,hn⟩:=u5q l hl h l.length 0 (Af _)
  grind
def fRlc :List AVal→Option (AVal×Bool)
 | [a0]=>match asL Pa a0 with
  | some (L0,g0,n0)=>some (.int .i64 (y6y L0),isT Pa n0 g0&&(z7p L0))
  | _=>none
 | _=>none
theorem j4n {S:Specs} (hS:Zv prog S):Zv prog (S.with nRlc fRlc):=by
 refine Qe hS (by kernel_rfl) fun args v h=> ?_;unfold fRlc at h;split at h
 ·rename_i a0;split at h
  ·rename_i L0 g0 n0 e0;simp only [Ae,Ad,Ac] at h;obtain ⟨rfl,ho0,hw⟩:=h;obtain ⟨N,hN⟩:=v2m L0 hw;exact ⟨_,_,(.cons (Yc e0 ho0) .nil),rfl,w3b L0 N _ hN,3,rfl⟩
  ·cases h
 ·cases h
def Vr3 :Specs:=(Vr2f.with nRlc fRlc)
theorem z8v :Zv prog Vr3:=(j4n Wt)
inductive flrS where
def flrC (x0:Int) (x1:Int):flrS→Cfg
 :=nofun
def w0m (x0:Int) (x1:Int):flrS→Xx flrS
 :=nofun
def y3o (x0:Int) (x1:Int):Xx flrS:=(bif (!decide (x1=0)) then (bif (decide ((Int.tmod x0 x1)<0)) then (.ret [(.int .i64 (wrap .i64 (x0 - (wrap .i64 ((Int.tmod x0 x1)+x1)))))]) else (.ret [(.int .i64 (wrap .i64 (x0 - (Int.tmod x0 x1))))])) else .stuck)
theorem w8q (x0:Int) (x1:Int): ∀s,Xy prog (Zy prog 106) (flrC x0 x1) (flrC x0 x1 s) (w0m x0 x1 s)
 :=nofun
theorem w0n (x0:Int) (x1:Int):Xy prog (Zy prog 106) (flrC x0 x1) (Zg prog 106 [(.int .i64 x0),(.int .i64 x1)] true []) (y3o x0 x1):=(lo fun bH=>(lb (fun k0=>(lr 17 3 [1,1,1,1,0] 1 6 [(4,(ii (wr (x0 - (wr ((Int.tmod x0 x1)+x1))))))] (sl z8v 31 [] ⟨[],[],[some [4]],[]⟩ ⟨[],[],[]⟩ [true] (tt k0 (ww bH nn))))) (fun k0=>(lr 17 3 [1,1,1,1,0] 1 6 [(4,(ii (wr (x0 - (Int.tmod x0 x1)))))] (sl z8v 26 [] ⟨[],[],[some [4]],[]⟩ ⟨[],[],[]⟩ [false] (tt k0 (ww bH nn)))))))
theorem u1s (x0:Int) (x1:Int) (n:Nat) (vs:List AVal) (h:Zr (w0m x0 x1) n (y3o x0 x1)=.ret vs):Uz prog (Zy prog 106) (Zg prog 106 [(.int .i64 x0),(.int .i64 x1)] true []) vs:=by have:=Zd (w8q x0 x1) n _ (w0n x0 x1);rwa [h] at this
abbrev x4k :Nat:=75
abbrev w4a :Nat:=41
def Vd (x n:Int):Int:=bif decide (Int.tmod x n<0) then wrap .i64 (x - wrap .i64 (Int.tmod x n+n)) else wrap .i64 (x - Int.tmod x n)
def Ja (x n:Int):Bool:= !decide (n=0)
theorem j3m (x n:Int) (h:Ja x n=true): ∃N,Zr (w0m x n) N (y3o x n)=.ret [.int .i64 (Vd x n)]:=⟨0,by
 have h:(!decide (n=0))=true:=h;unfold y3o Vd;rw [h,Ab];cases decide (Int.tmod x n<0) <;> rfl⟩
def fFlr :List AVal→Option (AVal×Bool)
 | [.int .i64 x0,.int .i64 x1]=>some (.int .i64 (Vd x0 x1),Ja x0 x1)
 | _=>none
theorem j5f {S:Specs} (hS:Zv prog S):Zv prog (S.with w4c fFlr):=by
 refine Qe hS (by kernel_rfl) fun args v h=> ?_;unfold fFlr at h;split at h
 ·rename_i x0 x1;simp only [Ae,Ad,Ac] at h;obtain ⟨rfl,hw⟩:=h;obtain ⟨N,hN⟩:=j3m x0 x1 hw;exact ⟨_,_,(.cons (.refl _) (.cons (.refl _) .nil)),rfl,u1s x0 x1 N _ hN,3,rfl⟩
 ·cases h
def X0 :Specs:=Vr3.with w4c fFlr
theorem y6v :Zv prog X0:=j5f z8v
inductive rouS where
 | h0 (v6:List R6) (v7:Int)
def rouC (l0:List R6) (x1:Int):rouS→Cfg
 | .h0 v6 v7=>⟨⟨120,0,true⟩,none,(Zc prog 75 [1,1,1,0,1,0,0] 0),none,(Zy prog 16),⟨Yj [(0,(.dat l0.length (Zz l0))),(1,(ii x1)),(6,(.sla 0 6 0 v6.length (.un 6))),(7,(ii v7))],Wn [⟨Yk v6.length (Zz v6),57,some ⟨6,v6.length,(Zz v6)⟩⟩] 0,1,[],true⟩,[],.leaf⟩
def rouN0 :List (Option (List Nat)):=[some [0,1,6,7]]
def rouM0 :List (Option (List Nat)):=[]
def z6k (l0:List R6) (x1:Int):rouS→Xx rouS
 | .h0 v6 v7=>(bif (decide (v7<(l0.length:Int))) then (bif (Ja (rd l0 v7.toNat).a x1) then (bif (Ja (rd l0 v7.toNat).b x1) then (bif (Ja (rd l0 v7.toNat).c x1) then (bif (Ja (wrap .i64 ((rd l0 v7.toNat).d - 1)) x1) then (bif (Ja (wrap .i64 ((rd l0 v7.toNat).e - 1)) x1) then (bif ((decide (0≤v7∧v7<(l0.length:Int)))&&true) then (bif (Ja (wrap .i64 ((rd l0 v7.toNat).f - 1)) x1) then (bif (decide ((Kx (Kx (Vd (rd l0 v7.toNat).a x1) (Vd (rd l0 v7.toNat).b x1)) (Vd (rd l0 v7.toNat).c x1))<(-1000000))) then (.ret [.nils,(.int .i64 16)]) else (bif (decide ((Kw (Kw (wrap .i64 ((Vd (wrap .i64 ((rd l0 v7.toNat).d - 1)) x1)+x1)) (wrap .i64 ((Vd (wrap .i64 ((rd l0 v7.toNat).e - 1)) x1)+x1))) (wrap .i64 ((Vd (wrap .i64 ((rd l0 v7.toNat).f - 1)) x1)+x1)))>1000000)) then (.ret [.nils,(.int .i64 16)]) else (bif (Nat.beq 6 6&&((decide (0+v6.length=v6.length))&&decide ((v6.length+1+1)*(48+1)≤room))) then (.to (.h0 (v6++[(R6.mk (Vd (rd l0 v7.toNat).a x1) (Vd (rd l0 v7.toNat).b x1) (Vd (rd l0 v7.toNat).c x1) (wrap .i64 ((Vd (wrap .i64 ((rd l0 v7.toNat).d - 1)) x1)+x1)) (wrap .i64 ((Vd (wrap .i64 ((rd l0 v7.toNat).e - 1)) x1)+x1)) (wrap .i64 ((Vd (wrap .i64 ((rd l0 v7.toNat).f - 1)) x1)+x1)))]) (wrap .i64 (v7+1)))) else .stuck))) else .stuck) else .stuck) else .stuck) else .stuck) else .stuck) else .stuck) else .stuck) else (bif (z0c 2 ([]:List R6) (cvT v6)) then (bif (!(z0p 2 ([]:List R6) (cvT v6))) then (.ret [.nils,(.int .i64 4)]) else (.ret [(.dat (Jg 2 ([]:List R6) (cvT v6)).length (Zz (Jg 2 ([]:List R6) (cvT v6)))),(.int .i64 0)])) else .stuck))
def y2p (l0:List R6) (x1:Int):Xx rouS:=(bif (Vs (cvT l0)) then (bif ((Xm (cvT l0)) != 0) then (.ret [.nils,(.int .i64 (Xm (cvT l0)))]) else (bif (decide (x1<1)) then (.ret [.nils,(.int .i64 2)]) else (bif (decide (x1>1000)) then (.ret [.nils,(.int .i64 2)]) else (.to (.h0 ([]:List R6) 0))))) else .stuck)
theorem w6v (l0:List R6) (x1:Int): ∀s,Xy prog (Zy prog 75) (rouC l0 x1) (rouC l0 x1 s) (z6k l0 x1 s)
 | .h0 v6 v7=>(lb (fun k0=>(lo fun aI=>(lo fun bD=>(lo fun cD=>(lo fun cT=>(lo fun cY=>(lo fun cL=>(lo fun cZ=>(lb (fun k1=>(lr 120 75 [1,1,1,0,1,0,0,1,0,0,1,0,1,0,0] 1 16 [(4,.nils),(5,(ii 16))] (sl y6v 48 [] ⟨[],[],[some [4,5]],[]⟩ ⟨[],[],[]⟩ (trs 13 []) (tt k1 (ww cZ (ww cL (ww cY (ww cL (ww cT (ww cL (ww cD (ww cL (ww bD (ww cL (ww aI (ww cL (tt k0 nn))))))))))))))))) (fun k1=>(lb (fun k2=>(lr 120 75 [1,1,1,0,1,0,0,1,0,0,1,0,1,0,0] 1 16 [(4,.nils),(5,(ii 16))] (sl y6v 48 [] ⟨[],[],[some [4,5]],[]⟩ ⟨[],[],[]⟩ (bl 13 4097) (tt k2 (tt k1 (ww cZ (ww cL (ww cY (ww cL (ww cT (ww cL (ww cD (ww cL (ww bD (ww cL (ww aI (ww cL (tt k0 nn)))))))))))))))))) (fun k2=>(lo fun o0=>(sl y6v 58 [] ⟨[3],[],rouN0,rouM0⟩ ⟨[(6,.len (v6++[(R6.mk (Vd (rd l0 (tn v7)).a x1) (Vd (rd l0 (tn v7)).b x1) (Vd (rd l0 (tn v7)).c x1) (wr ((Vd (wr ((rd l0 (tn v7)).d - 1)) x1)+x1)) (wr ((Vd (wr ((rd l0 (tn v7)).e - 1)) x1)+x1)) (wr ((Vd (wr ((rd l0 (tn v7)).f - 1)) x1)+x1)))]).length)],[.rowed 6 (v6++[(R6.mk (Vd (rd l0 (tn v7)).a x1) (Vd (rd l0 (tn v7)).b x1) (Vd (rd l0 (tn v7)).c x1) (wr ((Vd (wr ((rd l0 (tn v7)).d - 1)) x1)+x1)) (wr ((Vd (wr ((rd l0 (tn v7)).e - 1)) x1)+x1)) (wr ((Vd (wr ((rd l0 (tn v7)).f - 1)) x1)+x1)))]).length (Zz (v6++[(R6.mk (Vd (rd l0 (tn v7)).a x1) (Vd (rd l0 (tn v7)).b x1) (Vd (rd l0 (tn v7)).c x1) (wr ((Vd (wr ((rd l0 (tn v7)).d - 1)) x1)+x1)) (wr ((Vd (wr ((rd l0 (tn v7)).e - 1)) x1)+x1)) (wr ((Vd (wr ((rd l0 (tn v7)).f - 1)) x1)+x1)))]))],[]⟩ (bl 13 1) (pp (xL (v6.length+1) (v6++[(R6.mk (Vd (rd l0 (tn v7)).a x1) (Vd (rd l0 (tn v7)).b x1) (Vd (rd l0 (tn v7)).c x1) (wr ((Vd (wr ((rd l0 (tn v7)).d - 1)) x1)+x1)) (wr ((Vd (wr ((rd l0 (tn v7)).e - 1)) x1)+x1)) (wr ((Vd (wr ((rd l0 (tn v7)).f - 1)) x1)+x1)))]).length) (pp (xL (v6.length+1) (v6++[(R6.mk (Vd (rd l0 (tn v7)).a x1) (Vd (rd l0 (tn v7)).b x1) (Vd (rd l0 (tn v7)).c x1) (wr ((Vd (wr ((rd l0 (tn v7)).d - 1)) x1)+x1)) (wr ((Vd (wr ((rd l0 (tn v7)).e - 1)) x1)+x1)) (wr ((Vd (wr ((rd l0 (tn v7)).f - 1)) x1)+x1)))]).length) (pp (xS (v6.length+1) (Zh (Zz v6) 0 v6.length 6 [(ii (Vd (rd l0 (tn v7)).a x1)),(ii (Vd (rd l0 (tn v7)).b x1)),(ii (Vd (rd l0 (tn v7)).c x1)),(ii (wr ((Vd (wr ((rd l0 (tn v7)).d - 1)) x1)+x1))),(ii (wr ((Vd (wr ((rd l0 (tn v7)).e - 1)) x1)+x1))),(ii (wr ((Vd (wr ((rd l0 (tn v7)).f - 1)) x1)+x1)))]) (Zz (v6++[(R6.mk (Vd (rd l0 (tn v7)).a x1) (Vd (rd l0 (tn v7)).b x1) (Vd (rd l0 (tn v7)).c x1) (wr ((Vd (wr ((rd l0 (tn v7)).d - 1)) x1)+x1)) (wr ((Vd (wr ((rd l0 (tn v7)).e - 1)) x1)+x1)) (wr ((Vd (wr ((rd l0 (tn v7)).f - 1)) x1)+x1)))]))) (pp (pp (xF (Zh (Zz v6) 0 v6.length 6 [(ii (Vd (rd l0 (tn v7)).a x1)),(ii (Vd (rd l0 (tn v7)).b x1)),(ii (Vd (rd l0 (tn v7)).c x1)),(ii (wr ((Vd (wr ((rd l0 (tn v7)).d - 1)) x1)+x1))),(ii (wr ((Vd (wr ((rd l0 (tn v7)).e - 1)) x1)+x1))),(ii (wr ((Vd (wr ((rd l0 (tn v7)).f - 1)) x1)+x1)))])) nn) (ww o0 (tt k2 (tt k1 (ww cZ (ww cL (ww cY (ww cL (ww cT (ww cL (ww cD (ww cL (ww bD (ww cL (ww aI (ww cL (tt k0 nn)))))))))))))))))))))))))))))))))) (fun k0=>(Wy (sl y6v (C':=⟨⟨120,0,true⟩,(Vk prog 75 [1,1,1,1,0] 1),(Zc prog 75 [1,1,1,1,0] 1),none,(Zy prog 16),⟨Yj [(113,(.dat v6.length (Zz v6)))],Wn [] 0,0,[],true⟩,[],.leaf⟩) 13 [] ⟨[],[0],[some [113]],[]⟩ ⟨[(113,.frz v6.length v6.length (Zz v6) (Zz v6))],[],[]⟩ [false] (pp (xZ (z1o 6 6 0 v6.length v6.length (Zz v6)) v6.length (Zz v6)) (pp (xL v6.length v6.length) (pp (xS v6.length (Zz v6) (Zz v6)) (pp (fl v6 nn) (tt k0 nn)))))) (lo fun aI=>(lb (fun k1=>(lr 120 75 [1,1,1,1,1,0,1,0,0] 1 16 [(4,.nils),(5,(ii 4))] (sl y6v 19 [] ⟨[],[],[some [4,5]],[]⟩ ⟨[],[],[]⟩ [true] (tt k1 (pp (pp (xI R6 0 (fun _=>[])) (pp (xr v6) (xw aI))) nn))))) (fun k1=>(lr 120 3 [1,1,1,1,0] 1 16 [(4,(.dat (Jg 2 ([]:List R6) (cvT v6)).length (Zz (Jg 2 ([]:List R6) (cvT v6))))),(5,(ii 0))] (sl y6v 21 [] ⟨[],[],[some [4,5]],[]⟩ ⟨[],[],[]⟩ [false] (tt k1 (pp (pp (xI R6 0 (fun _=>[])) (pp (xr v6) (xw aI))) nn))))))))))
theorem x7o (l0:List R6) (x1:Int):Xy prog (Zy prog 75) (rouC l0 x1) (Zg prog 75 [(.dat l0.length (Zz l0)),(.int .i64 x1)] true []) (y2p l0 x1):=(lo fun bH=>(lb (fun k0=>(lr 120 75 [1,0,1,0,0] 1 16 [(4,.nils),(5,(ii (Xm (cvT l0))))] (sl y6v 60 [] ⟨[],[],[some [4,5]],[]⟩ ⟨[],[],[]⟩ (trs 3 []) (pp (pp (xr l0) (xw bH)) (tt k0 (pp (pp (xr l0) (xw bH)) (tt k0 (pp (pp (xr l0) (xw bH)) (tt k0 (pp (pp (xr l0) (xw bH)) nn)))))))))) (fun k0=>(lb (fun k1=>(lr 120 75 [1,0,1,0,0] 1 16 [(4,.nils),(5,(ii 2))] (sl y6v 80 [] ⟨[],[],[some [4,5]],[]⟩ ⟨[],[],[]⟩ [false,true,true,true,true,false,true,true,true] (tt k1 (tt k0 (pp (pp (xr l0) (xw bH)) (tt k1 (tt k0 (pp (pp (xr l0) (xw bH)) nn))))))))) (fun k1=>(lb (fun k2=>(lr 120 75 [1,0,1,0,0] 1 16 [(4,.nils),(5,(ii 2))] (sl y6v 80 [] ⟨[],[],[some [4,5]],[]⟩ ⟨[],[],[]⟩ [false,false,false,true,true,false,false,false,true] (tt k2 (tt k1 (tt k0 (pp (pp (xr l0) (xw bH)) (tt k2 (tt k1 (tt k0 (pp (pp (xr l0) (xw bH)) nn))))))))))) (fun k2=>(sl y6v 56 [(57,6,Zz ([]:List R6))] ⟨[0],[],rouN0,rouM0⟩ ⟨[(6,.grow 0 6)],[],[]⟩ [false,false,false,false,false] (pp (fl ([]:List R6) nn) (tt k2 (tt k1 (tt k0 (pp (pp (xr l0) (xw bH)) nn)))))))))))))
theorem v8y (l0:List R6) (x1:Int) (n:Nat) (vs:List AVal) (h:Zr (z6k l0 x1) n (y2p l0 x1)=.ret vs):Uz prog (Zy prog 75) (Zg prog 75 [(.dat l0.length (Zz l0)),(.int .i64 x1)] true []) vs:=by have:=Zd (w6v l0 x1) n _ (x7o l0 x1);rwa [h] at this
def rB (n:Int) (r:R6):R6:=⟨Vd r.a n,Vd r.b n,Vd r.c n,wrap .i64 (Vd (wrap .i64 (r.d - 1)) n+n),wrap .i64 (Vd (wrap .i64 (r.e - 1)) n+n),wrap .i64 (Vd (wrap .i64 (r.f - 1)) n+n)⟩
def bOk (r:R6):Bool:= !decide (Kx (Kx r.a r.b) r.c<(-1000000))&& !decide (Kw (Kw r.d r.e) r.f>1000000)
theorem flr_o {x n:Int} (h:n≠0):Ja x n=true:=by unfold Ja;rw [Az h];rfl
def rouR (n:Int) (L:List R6) (ok:Bool):List AVal:=bif ok then (bif z0p 2 [] (L.map (rB n)) then [.dat (Jg 2 [] (L.map (rB n))).length (Zz (Jg 2 [] (L.map (rB n)))),.int .i64 0] else [.nils,.int .i64 4]) else [.nils,.int .i64 16]
theorem u5b {L:List R6} {n:Int} (hl:L.length≤400) (hn:n≠0): ∀(k i:Nat) (acc:List R6),i+k=L.length→acc=(L.take i).map (rB n)→ ∃N,Zr (z6k L n) N (.to (.h0 acc (i:Int)))=.ret (rouR n L ((L.drop i).all fun r=>bOk (rB n r)))
 | 0,i,acc,h,ha=>by
  refine ⟨1,?_⟩;rw [AU (by omega)] at ha;subst ha;have w:z0c 2 [] (L.map (rB n))=true:=u7r (by simp) (by rw [Bg];omega);rw [Zw,As (by omega)];unfold rouR;cases q:z0p 2 [] (L.map (rB n)) <;>
   simp (disch:=omega) only [z6k,Yb,Zb,w,q,Aw,Ay,Ab,Aa,Zq,List.all_nil]
 | k+1,i,acc,h,ha=>by
  have hi:i<L.length:=by omega
  have hla:acc.length=i:=by rw [ha,Bg,BB];omega
  obtain ⟨N,hN⟩:=u5b hl hn k (i+1) (acc++[rB n (rd L i)]) (by omega) (by rw [ha,Xz hi,←List.map_singleton,←Bo,List.take_append_getElem]);have hw:wrap .i64 ((i:Int)+1)=((i+1:Nat):Int):=Zj (by omega);have hs:z6k L n (.h0 acc (i:Int))=bif bOk (rB n (rd L i)) then .to (.h0 (acc++[rB n (rd L i)]) ((i+1:Nat):Int)) else .ret [.nils,.int .i64 16]:=by simp (disch:=omega) only [z6k,Zs,Zn,hw,Zk,flr_o hn,Yu,Ze,Yp,Af,Ao,Ah,Ai,Ab];unfold bOk rB;dsimp only;cases decide (Kx (Kx (Vd (rd L i).a n) (Vd (rd L i).b n)) (Vd (rd L i).c n)<(-1000000)) <;> cases decide (Kw (Kw (wrap .i64 (Vd (wrap .i64 ((rd L i).d - 1)) n+n)) (wrap .i64 (Vd (wrap .i64 ((rd L i).e - 1)) n+n))) (wrap .i64 (Vd (wrap .i64 ((rd L i).f - 1)) n+n))>1000000) <;> rfl
  refine ⟨N+1,?_⟩;rw [Zw,hs,Yg hi,List.all_cons];rcases Yy (bOk (rB n (rd L i))) with q | q
  ·rw [q,Ab,Ai];exact hN
  ·rw [q,Aa,Bc];exact Zq _ _ _
def u5c (L:List R6) (n:Int):Bool:=(Xm L == 0)&&(!decide (n<1)&&(!decide (n>1000)&&((L.all fun r=>bOk (rB n r))&&z0p 2 [] (L.map (rB n)))))
def Qn (L:List R6) (n:Int):List R6:=bif u5c L n then Jg 2 [] (L.map (rB n)) else []
def z5q (L:List R6) (n:Int):Int:=bif Xm L != 0 then Xm L else bif decide (n<1)||decide (n>1000) then 2 else bif L.all fun r=>bOk (rB n r) then (bif z0p 2 [] (L.map (rB n)) then 0 else 4) else 16
def rouW (L:List R6) (n:Int):List AVal:=bif u5c L n then [.dat (Qn L n).length (Zz (Qn L n)),.int .i64 (z5q L n)] else [.nils,.int .i64 (z5q L n)]
theorem j0v (L:List R6) (n:Int): ∃N,Zr (z6k L n) N (y2p L n)=.ret (rouW L n):=by
 have hk:(Xm L != 0)= !(Xm L == 0):=rfl;unfold y2p rouW Qn z5q u5c;simp only [Zb,show∀l,Vs l=true from fun _=>rfl,Ab,hk];rcases Yy (Xm L == 0) with a | a
 ·rcases Yy (decide (n<1)) with b | b
  ·refine ⟨0,?_⟩;rw [a,b];rfl
  ·rcases Yy (decide (n>1000)) with c | c
   ·refine ⟨0,?_⟩;rw [a,b,c];rfl
   ·have hb:=AX b;obtain ⟨N,hN⟩:=u5b (L:=L) (n:=n) (Vh ((z0e L).trans (eq_of_beq a))).1 (by omega) L.length 0 [] (Af _) rfl;refine ⟨N,?_⟩;rw [a,b,c];simp only [Aw,Ay,Ai,BW,Ab,Aa];rw [z2b] at hN;rw [hN,AT];unfold rouR;cases L.all (fun r=>bOk (rB n r)) <;> cases z0p 2 [] (L.map (rB n)) <;> rfl
 ·refine ⟨0,?_⟩;rw [a];rfl
def y4l (L:List R6) (n:Int):Bool:=true
def fRou :List AVal→Option (AVal×Bool)
 | [a0,.int .i64 x1]=>match asL R6 a0 with
  | some (L0,g0,n0)=>some (.tup [.dat (Qn L0 x1).length (Zz (Qn L0 x1)),.int .i64 (z5q L0 x1)],isT R6 n0 g0&&y4l L0 x1)
  | _=>none
 | _=>none
theorem j4g {S:Specs} (hS:Zv prog S):Zv prog (S.with x4k fRou):=by
 refine x6d hS (by kernel_rfl) fun args v h=> ?_;unfold fRou at h;split at h
 ·rename_i a0 x1;split at h
  ·rename_i L0 g0 n0 e0;simp only [Ae,Ad,Ac] at h;obtain ⟨rfl,ho0,hw⟩:=h;obtain ⟨N,hN⟩:=j0v L0 x1;refine ⟨_,rouW L0 x1,(.cons (Yc e0 ho0) (.cons (.refl _) .nil)),?_,v8y L0 x1 N _ hN,3,?_⟩
   ·unfold rouW;rcases Yy (u5c L0 x1) with q | q
    ·rw [q];exact fun ρ u hu=>hu
    ·rw [q];unfold Qn;rw [q];exact fun ρ u hu=>z3g (.cons (Qd R6) (RLe.refl _)) ρ u hu
   ·unfold rouW;cases u5c L0 x1 <;> rfl
  ·cases h
 ·cases h
def X1 :Specs:=X0.with x4k fRou
theorem w2f :Zv prog X1:=j4g y6v
inductive rpkS where
 | h0 (v6:Int) (v7:Int)
def rpkC (l0:List R6) (x1:Int):rpkS→Cfg
 | .h0 v6 v7=>⟨⟨31,0,true⟩,none,(Zc prog 41 [1,1,1,1,0,1,0,0] 0),none,(Zy prog 16),⟨Yj [(0,(.dat l0.length (Zz l0))),(1,(ii x1)),(6,(ii v6)),(7,(ii v7))],Wn [] 0,0,[],true⟩,[],.leaf⟩
def rpkN0 :List (Option (List Nat)):=[some [0,1,6,7]]
def rpkM0 :List (Option (List Nat)):=[]
def z9h (l0:List R6) (x1:Int):rpkS→Xx rpkS
 | .h0 v6 v7=>(bif (decide (v7<x1)) then (.to (.h0 (wrap .i64 (2*v6)) (wrap .i64 (v7+1)))) else (bif (y4l (cvT l0) v6) then (.ret [(.dat (Qn (cvT l0) v6).length (Zz (Qn (cvT l0) v6))),(.int .i64 (z5q (cvT l0) v6))]) else .stuck))
def y2l (l0:List R6) (x1:Int):Xx rpkS:=(bif (Vs (cvT l0)) then (bif ((Xm (cvT l0)) != 0) then (.ret [.nils,(.int .i64 (Xm (cvT l0)))]) else (bif (decide (x1<0)) then (.ret [.nils,(.int .i64 2)]) else (bif (decide (x1>9)) then (.ret [.nils,(.int .i64 2)]) else (.to (.h0 1 0))))) else .stuck)
theorem w6t (l0:List R6) (x1:Int): ∀s,Xy prog (Zy prog 41) (rpkC l0 x1) (rpkC l0 x1 s) (z9h l0 x1 s)
 | .h0 v6 v7=>(lb (fun k0=>(sl w2f 23 [] ⟨[],[],rpkN0,rpkM0⟩ ⟨[],[],[]⟩ [true] (tt k0 nn))) (fun k0=>(lo fun o0=>(lr 31 3 [1,1,1,1,0] 1 16 [(4,(.dat (Qn (cvT l0) v6).length (Zz (Qn (cvT l0) v6)))),(5,(ii (z5q (cvT l0) v6)))] (sl w2f 19 [] ⟨[],[],[some [4,5]],[]⟩ ⟨[],[],[]⟩ [false] (pp (pp (xr l0) (xw o0)) (tt k0 nn)))))))
theorem x7m (l0:List R6) (x1:Int):Xy prog (Zy prog 41) (rpkC l0 x1) (Zg prog 41 [(.dat l0.length (Zz l0)),(.int .i64 x1)] true []) (y2l l0 x1):=(lo fun bH=>(lb (fun k0=>(lr 31 41 [1,0,1,0,0] 1 16 [(4,.nils),(5,(ii (Xm (cvT l0))))] (sl w2f 20 [] ⟨[],[],[some [4,5]],[]⟩ ⟨[],[],[]⟩ [true] (pp (pp (xr l0) (xw bH)) (tt k0 (pp (pp (xr l0) (xw bH)) nn)))))) (fun k0=>(lb (fun k1=>(lr 31 41 [1,1,0,1,0,0] 1 16 [(4,.nils),(5,(ii 2))] (sl w2f 30 [] ⟨[],[],[some [4,5]],[]⟩ ⟨[],[],[]⟩ [false,true,true,true] (tt k1 (tt k0 (pp (pp (xr l0) (xw bH)) nn)))))) (fun k1=>(lb (fun k2=>(lr 31 41 [1,1,0,1,0,0] 1 16 [(4,.nils),(5,(ii 2))] (sl w2f 30 [] ⟨[],[],[some [4,5]],[]⟩ ⟨[],[],[]⟩ [false,false,false,true] (tt k2 (tt k1 (tt k0 (pp (pp (xr l0) (xw bH)) nn))))))) (fun k2=>(sl w2f 37 [] ⟨[],[],rpkN0,rpkM0⟩ ⟨[],[],[]⟩ [false,false,false,false] (tt k2 (tt k1 (tt k0 (pp (pp (xr l0) (xw bH)) nn))))))))))))
theorem v8u (l0:List R6) (x1:Int) (n:Nat) (vs:List AVal) (h:Zr (z9h l0 x1) n (y2l l0 x1)=.ret vs):Uz prog (Zy prog 41) (Zg prog 41 [(.dat l0.length (Zz l0)),(.int .i64 x1)] true []) vs:=by have:=Zd (w6t l0 x1) n _ (x7m l0 x1);rwa [h] at this
inductive slmS where
 | h0 (v8:Int)
 | h1 (v16:Int) (aB:List Int)
 | h2 (v4:Int) (aF:List R6) (aN:List R4) (aY:Int) (aZ:Int) (aE:Nat) (aH:List Int)
 | h3 (v4:Int) (v38:Int) (aF:List R6) (aN:List R4) (aY:Int) (aZ:Int) (aE:Nat) (aH:List Int) (aM:Int) (aX:Int) (aA:List R4)
 | h4 (v1:Int) (v2:Int) (v72:List R4) (v73:Int) (v74:Int) (bJ:List R4) (aV:Int) (aD:List R6) (bB:List R4) (bA:Int) (aE:Nat) (aH:List Int) (aM:List R4)
 | h5 (v2:Int) (v8:Int) (bR:Int) (bJ:List R4) (aV:Int) (aD:List R6) (bB:List R4) (bA:Int) (bN:Int) (bG:Nat) (bM:List Int) (aA:List R4)
def slmC (l0:List R6):slmS→Cfg
 | .h0 v8=>⟨⟨19,0,true⟩,none,(Zc prog 148 [1,0,1,0,0] 0),none,(Zy prog 6),⟨Yj [(0,(.dat l0.length (Zz l0))),(1,(.fn 104 [])),(7,(ii (l0.length:Int))),(8,(ii v8))],Wn [] 0,0,[],true⟩,[⟨⟨9,0,true⟩,(Vk prog 103 [1,0] 2),(Zc prog 103 [1,0] 1),none,(Zy prog 6),Yj [(5,(.dat l0.length (Zz l0))),(6,(.fn 104 []))]⟩,⟨⟨15,0,true⟩,(Vk prog 74 [1,1,0,0] 1),(Zc prog 74 [1,1,0,0] 1),none,(Zy prog 14),Yj [(0,(.dat l0.length (Zz l0))),(7,(.dat l0.length (Zz l0)))]⟩],.leaf⟩
 | .h1 v16 aB=>⟨⟨36,0,true⟩,none,(Zc prog 135 [1,1,0,1,0,0,1,1,0,0,1,1,0,0] 0),none,(Zy prog 9),⟨Yj [(1,(.ptr 0 0)),(3,(.ptr 2 0)),(8,(.sl 1 0 1 (.un 1))),(9,(ii 1)),(10,(ii 0)),(14,(.dat l0.length (Zz l0))),(15,(ii (l0.length:Int))),(16,(ii v16))],Wn [⟨[(.sl 1 0 1 (.un 1))],177,none⟩,⟨[(.dat l0.length (Zz l0))],32,none⟩,⟨[(.sla 7 1 0 aB.length (.un 1))],125,none⟩,⟨[.nilf],101,none⟩,⟨[.nils],33,none⟩,⟨[(ii 0)],24,none⟩,⟨[.nils,.nils,(ii 0),(ii 0)],179,none⟩,⟨Yk aB.length (Zz aB),3,some ⟨1,aB.length,(Zz aB)⟩⟩] 0,8,[],true⟩,[⟨⟨65,0,true⟩,(Vk prog 93 [1,1,0,0] 1),(Zc prog 93 [1,1,0,0] 1),none,(Zy prog 93),Yj [(2,(.ptr 3 0)),(4,(.ptr 4 0)),(5,(.ptr 5 0)),(6,(.ptr 6 0)),(13,(.sl 1 0 1 (.un 1)))]⟩,⟨⟨15,0,true⟩,(Vk prog 74 [1,1,1,0] 3),(Zc prog 74 [1,1,1,0] 1),none,(Zy prog 14),Yj [(9,(.agg [.nilf])),(11,(.sl 1 0 1 (.un 1)))]⟩],.leaf⟩
 | .h2 v4 aF aN aY aZ aE aH=>⟨⟨86,0,true⟩,none,(Zc prog 162 [1,0,0] 0),none,[],⟨Yj [(0,(.yld 0)),(1,(.ptr 5 0)),(2,(.ptr 7 0)),(4,(ii v4))],z6q [(1,⟨[.nilf],101,none⟩),(2,⟨[.nils],33,none⟩),(3,⟨[(ii 0)],24,none⟩),(4,⟨[(.sla 9 6 0 aF.length (.un 6)),(.dat aN.length (Zz aN)),(ii aY),(ii aZ)],179,none⟩),(5,⟨[(.sla 6 1 0 aE (.un 1))],125,none⟩),(6,⟨Yk aH.length (Zz aH),3,some ⟨1,aH.length,(Zz aH)⟩⟩),(7,⟨[(.sl 8 0 1 (.un 1))],177,none⟩),(8,⟨[(.dat l0.length (Zz l0))],32,none⟩),(9,⟨Yk aF.length (Zz aF),57,some ⟨6,aF.length,(Zz aF)⟩⟩)],10,[],true⟩,[⟨⟨65,0,true⟩,none,(.inRangeFunc 0::(Zc prog 93 [1,1,0,1,0] 1)),none,(Zy prog 93),Yj [(4,(.ptr 2 0)),(5,(.ptr 3 0)),(6,(.ptr 4 0))]⟩,⟨⟨15,0,true⟩,(Vk prog 74 [1,1,1,0] 3),(Zc prog 74 [1,1,1,0] 1),none,(Zy prog 14),Yj [(9,(.agg [.nilf])),(11,(.sl 8 0 1 (.un 1)))]⟩],(y1k [(0,⟨.ready,none,65,Yj [(2,(.ptr 1 0)),(4,(.ptr 2 0)),(5,(.ptr 3 0)),(6,(.ptr 4 0))],[15],(Wc prog 93 [1,1,0,1,0,0]),(Wc prog 93 [1,1,0,1,0,1])⟩)])⟩
 | .h3 v4 v38 aF aN aY aZ aE aH aM aX aA=>⟨⟨86,0,true⟩,none,(Zc prog 162 [1,0,0,1,0,0,1,0,1,0,0,1,1,0,0,1,1,0,0] 0),none,[],⟨Yj [(0,(.yld 0)),(1,(.ptr 5 0)),(2,(.ptr 7 0)),(4,(ii v4)),(5,(.ptr 9 0)),(6,(ii 0)),(29,(.sl 8 0 1 (.un 1))),(30,(ii 1)),(31,(ii 0)),(36,(.dat l0.length (Zz l0))),(37,(ii (l0.length:Int))),(38,(ii v38))],z6q [(1,⟨[.nilf],101,none⟩),(2,⟨[.nils],33,none⟩),(3,⟨[(ii 0)],24,none⟩),(4,⟨[(.sla 12 6 0 aF.length (.un 6)),(.dat aN.length (Zz aN)),(ii aY),(ii aZ)],179,none⟩),(5,⟨[(.sla 6 1 0 aE (.un 1))],125,none⟩),(6,⟨Yk aH.length (Zz aH),3,some ⟨1,aH.length,(Zz aH)⟩⟩),(7,⟨[(.sl 8 0 1 (.un 1))],177,none⟩),(8,⟨[(.dat l0.length (Zz l0))],32,none⟩),(9,⟨[(ii aM),(ii aX),(.sl 10 0 1 (.ex 1))],184,none⟩),(10,⟨[(.sla 11 4 0 aA.length (.un 4))],80,none⟩),(11,⟨Yk aA.length (Zz aA),116,some ⟨4,aA.length,(Zz aA)⟩⟩),(12,⟨Yk aF.length (Zz aF),57,some ⟨6,aF.length,(Zz aF)⟩⟩)],13,[],true⟩,[⟨⟨65,0,true⟩,none,(.inRangeFunc 0::(Zc prog 93 [1,1,0,1,0] 1)),none,(Zy prog 93),Yj [(4,(.ptr 2 0)),(5,(.ptr 3 0)),(6,(.ptr 4 0))]⟩,⟨⟨15,0,true⟩,(Vk prog 74 [1,1,1,0] 3),(Zc prog 74 [1,1,1,0] 1),none,(Zy prog 14),Yj [(9,(.agg [.nilf])),(11,(.sl 8 0 1 (.un 1)))]⟩],(y1k [(0,⟨.ready,none,65,Yj [(2,(.ptr 1 0)),(4,(.ptr 2 0)),(5,(.ptr 3 0)),(6,(.ptr 4 0))],[15],(Wc prog 93 [1,1,0,1,0,0]),(Wc prog 93 [1,1,0,1,0,1])⟩)])⟩
 | .h4 v1 v2 v72 v73 v74 bJ aV aD bB bA aE aH aM=>⟨⟨101,0,true⟩,none,(Zc prog 136 [1,1,1,0,0] 0),none,[],⟨Yj [(0,(.ptr 0 0)),(1,(ii v1)),(2,(ii v2)),(72,(.dat v72.length (Zz v72))),(73,(ii v73)),(74,(ii v74))],z6q [(0,⟨[(.sla 10 6 0 aD.length (.un 6)),(.dat bB.length (Zz bB)),(ii bA),(ii v2)],179,none⟩),(2,⟨[.nilf],101,none⟩),(3,⟨[.nils],33,none⟩),(4,⟨[(ii 0)],24,none⟩),(5,⟨[(.sla 6 1 0 aE (.un 1))],125,none⟩),(6,⟨Yk aH.length (Zz aH),3,some ⟨1,aH.length,(Zz aH)⟩⟩),(7,⟨[(.sl 8 0 1 (.un 1))],177,none⟩),(8,⟨[(.dat l0.length (Zz l0))],32,none⟩),(9,⟨[(.dat aM.length (Zz aM))],80,none⟩),(10,⟨Yk aD.length (Zz aD),57,some ⟨6,aD.length,(Zz aD)⟩⟩)],11,[],true⟩,[⟨⟨65,0,true⟩,(Vk prog 93 [1,1,0,1,0,1,0,1,1,1] 5),(Zc prog 93 [1,1,0,1,0,1,0,1,1,1] 1),(some 1),[],Yj [(6,(.ptr 0 0)),(54,(ii v1)),(56,(ii v2)),(57,(.dat bJ.length (Zz bJ)))]⟩,⟨⟨86,0,true⟩,(Vk prog 162 [1,0,0,1,0,0,1,1,0] 2),(Zc prog 162 [1,0,0,1,0,0,1,1,0] 1),none,[],Yj [(0,(.yld 1)),(1,(.ptr 5 0)),(2,(.ptr 7 0)),(4,(ii aV)),(82,(.yld 1)),(83,(.agg [(ii v1),(ii v2),(.sl 9 0 1 (.ex 1))]))]⟩,⟨⟨65,0,true⟩,none,(.inRangeFunc 1::(Zc prog 93 [1,1,0,1,0] 1)),none,(Zy prog 93),Yj [(4,(.ptr 3 0)),(5,(.ptr 4 0)),(6,(.ptr 0 0))]⟩,⟨⟨15,0,true⟩,(Vk prog 74 [1,1,1,0] 3),(Zc prog 74 [1,1,1,0] 1),none,(Zy prog 14),Yj [(9,(.agg [.nilf])),(11,(.sl 8 0 1 (.un 1)))]⟩],(y1k [(1,⟨.busy,none,65,Yj [(2,(.ptr 2 0)),(4,(.ptr 3 0)),(5,(.ptr 4 0)),(6,(.ptr 0 0))],[15],(Wc prog 93 [1,1,0,1,0,0]),(Wc prog 93 [1,1,0,1,0,1])⟩)])⟩
 | .h5 v2 v8 bR bJ aV aD bB bA bN bG bM aA=>⟨⟨101,0,true⟩,none,(Zc prog 136 [0,1,0,0,1,0,0] 0),none,[],⟨Yj [(0,(.ptr 0 0)),(2,(ii v2)),(8,(ii v8))],z6q [(0,⟨[(.sla 1 6 0 aD.length (.un 6)),(.dat bB.length (Zz bB)),(ii bA),(ii bN)],179,none⟩),(1,⟨Yk aD.length (Zz aD),57,some ⟨6,aD.length,(Zz aD)⟩⟩),(3,⟨[.nilf],101,none⟩),(4,⟨[.nils],33,none⟩),(5,⟨[(ii 0)],24,none⟩),(6,⟨[(.sla 7 1 0 bG (.un 1))],125,none⟩),(7,⟨Yk bM.length (Zz bM),3,some ⟨1,bM.length,(Zz bM)⟩⟩),(8,⟨[(.sl 9 0 1 (.un 1))],177,none⟩),(9,⟨[(.dat l0.length (Zz l0))],32,none⟩),(10,⟨[(.dat aA.length (Zz aA))],80,none⟩)],11,[],true⟩,[⟨⟨65,0,true⟩,(Vk prog 93 [1,1,0,1,0,1,0,1,1,1] 5),(Zc prog 93 [1,1,0,1,0,1,0,1,1,1] 1),(some 2),[],Yj [(6,(.ptr 0 0)),(54,(ii bR)),(56,(ii v2)),(57,(.dat bJ.length (Zz bJ)))]⟩,⟨⟨86,0,true⟩,(Vk prog 162 [1,0,0,1,0,0,1,1,0] 2),(Zc prog 162 [1,0,0,1,0,0,1,1,0] 1),none,[],Yj [(0,(.yld 2)),(1,(.ptr 6 0)),(2,(.ptr 8 0)),(4,(ii aV)),(82,(.yld 2)),(83,(.agg [(ii bR),(ii v2),(.sl 10 0 1 (.ex 1))]))]⟩,⟨⟨65,0,true⟩,none,(.inRangeFunc 2::(Zc prog 93 [1,1,0,1,0] 1)),none,(Zy prog 93),Yj [(4,(.ptr 4 0)),(5,(.ptr 5 0)),(6,(.ptr 0 0))]⟩,⟨⟨15,0,true⟩,(Vk prog 74 [1,1,1,0] 3),(Zc prog 74 [1,1,1,0] 1),none,(Zy prog 14),Yj [(9,(.agg [.nilf])),(11,(.sl 9 0 1 (.un 1)))]⟩],(y1k [(2,⟨.busy,none,65,Yj [(2,(.ptr 3 0)),(4,(.ptr 4 0)),(5,(.ptr 5 0)),(6,(.ptr 0 0))],[15],(Wc prog 93 [1,1,0,1,0,0]),(Wc prog 93 [1,1,0,1,0,1])⟩)])⟩
def slmN0 :List (Option (List Nat)):=[some [0,1,7,8],some [5,6],some [0,7]]
def slmM0 :List (Option (List Nat)):=[]
def u9h :List (Option (List Nat)):=[some [1,3,8,9,10,14,15,16],some [2,4,5,6,13],some [9,11]]
def u9j :List (Option (List Nat)):=[]
def u9g :List (Option (List Nat)):=[some [0,1,2,4],some [4,5,6],some [9,11]]
def u9i :List (Option (List Nat)):=[some [2,4,5,6],none,none,none,none,none,none,none,none,none]
def v7n :List (Option (List Nat)):=[some [0,1,2,4,5,6,29,30,31,36,37,38],some [4,5,6],some [9,11]]
def v7p :List (Option (List Nat)):=[some [2,4,5,6],none,none,none,none,none,none,none,none,none,none,none,none]
def v7m :List (Option (List Nat)):=[some [0,1,2,72,73,74],some [6,54,56,57],some [0,1,2,4,82,83],some [4,5,6],some [9,11]]
def v7o :List (Option (List Nat)):=[none,some [2,4,5,6],none,none,none,none,none,none,none,none,none]
def slmN5 :List (Option (List Nat)):=[some [0,2,8],some [6,54,56,57],some [0,1,2,4,82,83],some [4,5,6],some [9,11]]
def slmM5 :List (Option (List Nat)):=[none,none,some [2,4,5,6],none,none,none,none,none,none,none,none]
def Xq (l0:List R6):slmS→Xx slmS
 | .h0 v8=>(bif (decide (v8<(l0.length:Int))) then (bif ((decide (0≤v8∧v8<(l0.length:Int)))&&true) then (bif (!(u8o (rd l0 v8.toNat).a (rd l0 v8.toNat).b (rd l0 v8.toNat).c (rd l0 v8.toNat).d (rd l0 v8.toNat).e (rd l0 v8.toNat).f)) then (bif (decide (v8≥0)) then (.ret [.nils,(.int .i64 8)]) else (.to (.h1 0 ([]:List Int)))) else (.to (.h0 (wrap .i64 (v8+1))))) else .stuck) else (.to (.h1 0 ([]:List Int))))
 | .h1 v16 aB=>(bif (decide (v16<(l0.length:Int))) then (bif ((decide (0≤v16∧v16<(l0.length:Int)))&&true) then (bif (Nat.beq 1 1&&((decide (0+aB.length=aB.length))&&decide ((aB.length+2+1)*(8+1)≤room))) then (.to (.h1 (wrap .i64 (v16+1)) (aB++[(rd l0 v16.toNat).c,(rd l0 v16.toNat).f]))) else .stuck) else .stuck) else (bif (decide (aB.length<4611686018427387904)) then (bif (decide (aB.length=aB.length)) then (.to (.h2 1 ([]:List R6) ([]:List R4) 0 0 (u8b (Ye aB.length (cOf (Zz (Xr (Ye aB.length (cOf (Zz aB)))))))) (Wd (Ye aB.length (cOf (Zz (Xr (Ye aB.length (cOf (Zz aB)))))))))) else .stuck) else .stuck))
 | .h2 v4 aF aN aY aZ aE aH=>(bif (decide (v4<((aE:Nat):Int))) then (bif ((decide (0≤(wrap .i64 (v4 - 1))∧(wrap .i64 (v4 - 1))<((aE:Nat):Int)))&&true) then (bif (decide ((0+(Int.toNat (wrap .i64 (v4 - 1))))<aH.length)) then (bif ((decide (0≤v4∧v4<((aE:Nat):Int)))&&true) then (bif (decide ((0+v4.toNat)<aH.length)) then (.to (.h3 v4 0 aF aN aY aZ aE aH (rd aH (0+(Int.toNat (wrap .i64 (v4 - 1))))) (rd aH (0+v4.toNat)) ([]:List R4))) else .stuck) else .stuck) else .stuck) else .stuck) else (bif (decide ((aF.length:Int)>400)) then (.ret [.nils,(.int .i64 4)]) else (.ret [(.dat aF.length (Zz aF)),(.int .i64 0)])))
 | .h3 v4 v38 aF aN aY aZ aE aH aM aX aA=>(bif (decide (v38<(l0.length:Int))) then (bif ((decide (0≤v38∧v38<(l0.length:Int)))&&true) then (bif (decide ((rd l0 v38.toNat).c ≤aM)) then (bif (decide (aM<(rd l0 v38.toNat).f)) then (bif (Nat.beq 4 4&&((decide (0+aA.length=aA.length))&&decide ((aA.length+1+1)*(32+1)≤room))) then (.to (.h3 v4 (wrap .i64 (v38+1)) aF aN aY aZ aE aH aM aX (aA++[(R4.mk (rd l0 v38.toNat).a (rd l0 v38.toNat).b (rd l0 v38.toNat).d (rd l0 v38.toNat).e)]))) else .stuck) else (.to (.h3 v4 (wrap .i64 (v38+1)) aF aN aY aZ aE aH aM aX aA))) else (.to (.h3 v4 (wrap .i64 (v38+1)) aF aN aY aZ aE aH aM aX aA))) else .stuck) else (bif (Uu (cvT aA)) then (bif ((Yo (cvT aA)) != 0) then (.ret [.nils,(.int .i64 (Yo (cvT aA)))]) else (bif (decide ((((Zm (cvT aA)).length :Nat):Int)>0)) then (bif (aZ == aM) then (bif (Xs (cvT aN) (cvT (Zm (cvT aA)))) then (bif (Vw (cvT aN) (cvT (Zm (cvT aA)))) then (.to (.h5 aX aY aM (Zm (cvT aA)) v4 aF aN aY aZ aE aH aA)) else (.to (.h4 aM aX (Zm (cvT aA)) (((Zm (cvT aA)).length :Nat):Int) 0 (Zm (cvT aA)) v4 aF (Zm (cvT aA)) (aF.length:Int) aE aH aA))) else .stuck) else (.to (.h4 aM aX (Zm (cvT aA)) (((Zm (cvT aA)).length :Nat):Int) 0 (Zm (cvT aA)) v4 aF (Zm (cvT aA)) (aF.length:Int) aE aH aA))) else (.to (.h4 aM aX (Zm (cvT aA)) (((Zm (cvT aA)).length :Nat):Int) 0 (Zm (cvT aA)) v4 aF (Zm (cvT aA)) (aF.length:Int) aE aH aA)))) else .stuck))
 | .h4 v1 v2 v72 v73 v74 bJ aV aD bB bA aE aH aM=>(bif (decide (v74<v73)) then (bif ((decide (0≤v74∧v74<(v72.length:Int)))&&true) then (bif (Nat.beq 6 6&&((decide (0+aD.length=aD.length))&&decide ((aD.length+1+1)*(48+1)≤room))) then (.to (.h4 v1 v2 v72 v73 (wrap .i64 (v74+1)) bJ aV (aD++[(R6.mk (rd v72 v74.toNat).a (rd v72 v74.toNat).b v1 (rd v72 v74.toNat).c (rd v72 v74.toNat).d v2)]) bB bA aE aH aM)) else .stuck) else .stuck) else (.to (.h2 (wrap .i64 (aV+1)) aD bB bA v2 aE aH)))
 | .h5 v2 v8 bR bJ aV aD bB bA bN bG bM aA=>(bif (decide (v8<(aD.length:Int))) then (bif ((decide (0≤v8∧v8<(aD.length:Int)))&&true) then (bif (decide ((0+v8.toNat)<aD.length)) then (.to (.h5 v2 (wrap .i64 (v8+1)) bR bJ aV (aD.set (0+v8.toNat) (R6.mk (rd aD (0+v8.toNat)).a (rd aD (0+v8.toNat)).b (rd aD (0+v8.toNat)).c (rd aD (0+v8.toNat)).d (rd aD (0+v8.toNat)).e v2)) bB bA bN bG bM aA)) else .stuck) else .stuck) else (.to (.h2 (wrap .i64 (aV+1)) aD bB bA v2 bG bM)))
def y2a (l0:List R6):Xx slmS:=(bif (decide ((l0.length:Int)>400)) then (.ret [.nils,(.int .i64 4)]) else (.to (.h0 0)))
theorem w6a (l0:List R6): ∀s,Xy prog (Zy prog 74) (slmC l0) (slmC l0 s) (Xq l0 s)
 | .h0 v8=>(lb (fun k0=>(lo fun aI=>(lb (fun k1=>(lb (fun k2=>(lr 15 74 [1,1,0,1,0,0] 1 14 [(2,.nils),(3,(ii 8))] (sl Ka 54 [] ⟨[],[],[some [2,3]],[]⟩ ⟨[],[],[]⟩ (trs 3 []) (tt k2 (tt k1 (ww aI (tt k0 nn))))))) (fun k2=>(sl Ka 112 [(3,1,Zz ([]:List Int))] ⟨[6,1,7,2,3,4,5,8],[],u9h,u9j⟩ ⟨[],[.keep,.keep,.cells [.grow 7 1],.keep,.keep,.keep,.keep,.keep],[]⟩ (bl 4 11) (pp (fl ([]:List Int) nn) (tt k2 (tt k1 (ww aI (tt k0 nn))))))))) (fun k1=>(sl Ka 44 [] ⟨[],[],slmN0,slmM0⟩ ⟨[],[],[]⟩ (bl 2 1) (tt k1 (ww aI (tt k0 nn)))))))) (fun k0=>(sl Ka 81 [(3,1,Zz ([]:List Int))] ⟨[5,0,6,1,2,3,4,7],[],u9h,u9j⟩ ⟨[],[.keep,.keep,.cells [.grow 7 1],.keep,.keep,.keep,.keep,.keep],[]⟩ (bl 3 4) (pp (fl ([]:List Int) nn) (tt k0 nn)))))
 | .h1 v16 aB=>(lb (fun k0=>(lo fun o0=>(lo fun o1=>(sl Ka 34 [] ⟨[0,1,2,3,4,5,6,10],[],u9h,u9j⟩ ⟨[],[.keep,.keep,.cells [.len (aB++[(rd l0 (tn v16)).c,(rd l0 (tn v16)).f]).length],.keep,.keep,.keep,.keep,.rowed 1 (aB++[(rd l0 (tn v16)).c,(rd l0 (tn v16)).f]).length (Zz (aB++[(rd l0 (tn v16)).c,(rd l0 (tn v16)).f]))],[]⟩ [true] (pp (xL (aB.length+2) (aB++[(rd l0 (tn v16)).c,(rd l0 (tn v16)).f]).length) (pp (xL (aB.length+2) (aB++[(rd l0 (tn v16)).c,(rd l0 (tn v16)).f]).length) (pp (xS (aB.length+2) (Zh (Zz aB) 0 aB.length 1 [(ii (rd l0 (tn v16)).c),(ii (rd l0 (tn v16)).f)]) (Zz (aB++[(rd l0 (tn v16)).c,(rd l0 (tn v16)).f]))) (pp (pp (xF (Zh (Zz aB) 0 aB.length 1 [(ii (rd l0 (tn v16)).c),(ii (rd l0 (tn v16)).f)])) nn) (ww o1 (ww o0 (tt k0 nn))))))))))) (fun k0=>(lo fun o0=>(lo fun o1=>(sl Ka 46 [(57,6,Zz ([]:List R6))] ⟨[8,3,4,5,6,2,7,0,1,9],[],u9g,u9i⟩ ⟨[],(kpB 4 [.cells [.grow 9 6,.list 0 (Zz ([]:List R4)),.keep,.keep],.keep,.rowed 1 (Wd (Ye aB.length (cOf (Zz (Xr (Ye aB.length (cOf (Zz aB)))))))).length (Zz (Wd (Ye aB.length (cOf (Zz (Xr (Ye aB.length (cOf (Zz aB))))))))),.keep,.keep,.keep]),[]⟩ (bl 2 0) (pp (xL aB.length (Wd (Ye aB.length (cOf (Zz (Xr (Ye aB.length (cOf (Zz aB)))))))).length (by first | exact z4i _ _ | exact Vt rfl)) (pp (xS aB.length (Zz (Wd (Ye aB.length (cOf (Zz (Xr (Ye aB.length (cOf (Zz aB))))))))) (Zz (Wd (Ye aB.length (cOf (Zz (Xr (Ye aB.length (cOf (Zz aB)))))))))) (pp (fl (Wd (Ye aB.length (cOf (Zz (Xr (Ye aB.length (cOf (Zz aB)))))))) (fl ([]:List R6) nn)) (pp (pp (xG (Nat.beq 1 1)) (pp (xG (Nat.beq 1 1)) (pp (xG (Nat.beq 0 0)) (pp (xG (decide (aB.length=aB.length))) (pp (xG (isI (Zz (Xr (Ye aB.length (cOf (Zz aB))))))) (xG (decide (aB.length<4611686018427387904)))))))) (pp (pp (xG (Nat.beq 1 1)) (pp (xG (Nat.beq 1 1)) (pp (xG (Nat.beq 0 0)) (pp (xG (decide (aB.length=aB.length))) (pp (xG (isI (Zz aB))) (xG (decide (aB.length<4611686018427387904)))))))) (tt k0 nn)))))))))))
 | .h2 v4 aF aN aY aZ aE aH=>(lb (fun k0=>(lo fun o0=>(lo fun o1=>(lo fun o2=>(lo fun o3=>(sl Ka 48 [(116,4,Zz ([]:List R4))] ⟨[0,1,2,3,4,5,6,7,8,10,11,12,9],[],v7n,v7p⟩ ⟨[],(kpB 10 [.cells [.grow 11 4],.keep,.keep]),[]⟩ (trs 3 []) (pp (fl aH (fl ([]:List R4) (fl aF nn))) (ww o3 (ww o2 (ww o1 (ww o0 (tt k0 nn)))))))))))) (fun k0=>(lb (fun k1=>(lr 15 3 [1,1,1,1,0] 1 14 [(2,.nils),(3,(ii 4))] (sl Ka 33 [] ⟨[],[],[some [2,3]],[]⟩ ⟨[],[],[]⟩ (bl 2 2) (tt k1 (tt k0 nn))))) (fun k1=>(lr 15 3 [1,1,1,1,0] 1 14 [(2,(.dat aF.length (Zz aF))),(3,(ii 0))] (sl Ka 36 [] ⟨[],[9],[some [2,3]],[]⟩ ⟨[(2,.frz aF.length aF.length (Zz aF) (Zz aF))],[],[]⟩ (bl 2 0) (pp (xZ (z1o 6 6 0 aF.length aF.length (Zz aF)) aF.length (Zz aF)) (pp (xL aF.length aF.length) (pp (xS aF.length (Zz aF) (Zz aF)) (pp (fl aF nn) (tt k1 (tt k0 nn))))))))))))
 | .h3 v4 v38 aF aN aY aZ aE aH aM aX aA=>(lb (fun k0=>(lo fun aI=>(lb (fun k1=>(lb (fun k2=>(lo fun o0=>(sl Ka 41 [] ⟨[0,1,2,3,4,5,6,7,8,9,10,15,12],[],v7n,v7p⟩ ⟨[],(kpB 10 [.cells [.len (aA++[(R4.mk (rd l0 (tn v38)).a (rd l0 (tn v38)).b (rd l0 (tn v38)).d (rd l0 (tn v38)).e)]).length],.rowed 4 (aA++[(R4.mk (rd l0 (tn v38)).a (rd l0 (tn v38)).b (rd l0 (tn v38)).d (rd l0 (tn v38)).e)]).length (Zz (aA++[(R4.mk (rd l0 (tn v38)).a (rd l0 (tn v38)).b (rd l0 (tn v38)).d (rd l0 (tn v38)).e)])),.keep]),[]⟩ (trs 8 []) (pp (xL (aA.length+1) (aA++[(R4.mk (rd l0 (tn v38)).a (rd l0 (tn v38)).b (rd l0 (tn v38)).d (rd l0 (tn v38)).e)]).length) (pp (xL (aA.length+1) (aA++[(R4.mk (rd l0 (tn v38)).a (rd l0 (tn v38)).b (rd l0 (tn v38)).d (rd l0 (tn v38)).e)]).length) (pp (xS (aA.length+1) (Zh (Zz aA) 0 aA.length 4 [(ii (rd l0 (tn v38)).a),(ii (rd l0 (tn v38)).b),(ii (rd l0 (tn v38)).d),(ii (rd l0 (tn v38)).e)]) (Zz (aA++[(R4.mk (rd l0 (tn v38)).a (rd l0 (tn v38)).b (rd l0 (tn v38)).d (rd l0 (tn v38)).e)]))) (pp (fl aH (pp (xF (Zh (Zz aA) 0 aA.length 4 [(ii (rd l0 (tn v38)).a),(ii (rd l0 (tn v38)).b),(ii (rd l0 (tn v38)).d),(ii (rd l0 (tn v38)).e)])) (fl aF nn))) (ww o0 (tt k2 (tt k1 (ww aI (tt k0 nn)))))))))))) (fun k2=>(sl Ka 41 [] ⟨(List.range 13),[],v7n,v7p⟩ ⟨[],[],[]⟩ (trs 7 [false]) (pp (fl aH (fl aA (fl aF nn))) (tt k2 (tt k1 (ww aI (tt k0 nn))))))))) (fun k1=>(sl Ka 41 [] ⟨(List.range 13),[],v7n,v7p⟩ ⟨[],[],[]⟩ (bl 8 1) (pp (fl aH (fl aA (fl aF nn))) (tt k1 (ww aI (tt k0 nn))))))))) (fun k0=>(Wy (sl Ka (C':=⟨⟨65,0,true⟩,(Vk prog 93 [1,1,0,1,0,1,0,0] 4),(Zc prog 93 [1,1,0,1,0,1,0,0] 1),(some 0),[],⟨Yj [(2,(.ptr 1 0)),(4,(.ptr 2 0)),(5,(.ptr 3 0)),(6,(.ptr 4 0)),(7,(.ptr 6 0)),(20,(.dat aA.length (Zz aA)))],z6q [(1,⟨[.nilf],101,none⟩),(2,⟨[.nils],33,none⟩),(3,⟨[(ii 0)],24,none⟩),(4,⟨[(.sla 5 6 0 aF.length (.un 6)),(.dat aN.length (Zz aN)),(ii aY),(ii aZ)],179,none⟩),(5,⟨Yk aF.length (Zz aF),57,some ⟨6,aF.length,(Zz aF)⟩⟩),(6,⟨[(ii aM),(ii aX),(.sl 7 0 1 (.ex 1))],184,none⟩),(7,⟨[(.dat aA.length (Zz aA))],80,none⟩),(8,⟨[(.sla 9 1 0 aE (.un 1))],125,none⟩),(9,⟨Yk aH.length (Zz aH),3,some ⟨1,aH.length,(Zz aH)⟩⟩),(10,⟨[(.sl 11 0 1 (.un 1))],177,none⟩),(11,⟨[(.dat l0.length (Zz l0))],32,none⟩)],12,[],true⟩,[⟨⟨86,0,true⟩,(Vk prog 162 [1,0,0,1,0,0,1,1,0] 2),(Zc prog 162 [1,0,0,1,0,0,1,1,0] 1),none,[],Yj [(0,(.yld 0)),(1,(.ptr 8 0)),(2,(.ptr 10 0)),(4,(ii v4)),(82,(.yld 0)),(83,(.agg [(ii aM),(ii aX),(.sl 7 0 1 (.ex 1))]))]⟩,⟨⟨65,0,true⟩,none,(.inRangeFunc 0::(Zc prog 93 [1,1,0,1,0] 1)),none,(Zy prog 93),Yj [(4,(.ptr 2 0)),(5,(.ptr 3 0)),(6,(.ptr 4 0))]⟩,⟨⟨15,0,true⟩,(Vk prog 74 [1,1,1,0] 3),(Zc prog 74 [1,1,1,0] 1),none,(Zy prog 14),Yj [(9,(.agg [.nilf])),(11,(.sl 11 0 1 (.un 1)))]⟩],(y1k [(0,⟨.busy,none,65,Yj [(2,(.ptr 1 0)),(4,(.ptr 2 0)),(5,(.ptr 3 0)),(6,(.ptr 4 0))],[15],(Wc prog 93 [1,1,0,1,0,0]),(Wc prog 93 [1,1,0,1,0,1])⟩)])⟩) 37 [] ⟨[0,1,2,3,4,12,13,10,5,6,7,8],[11],[some [2,4,5,6,7,20],some [0,1,2,4,82,83],some [4,5,6],some [9,11]],[some [2,4,5,6],none,none,none,none,none,none,none,none,none,none,none]⟩ ⟨[(20,.frz aA.length aA.length (Zz aA) (Zz aA))],[.keep,.keep,.keep,.keep,.keep,.keep,.keep,.cells [.frz aA.length aA.length (Zz aA) (Zz aA)],.keep,.keep,.keep,.keep],[]⟩ (bl 2 0) (pp (xZ (z1o 4 4 0 aA.length aA.length (Zz aA)) aA.length (Zz aA)) (pp (xL aA.length aA.length) (pp (xS aA.length (Zz aA) (Zz aA)) (pp (xZ (z1o 4 4 0 aA.length aA.length (Zz aA)) aA.length (Zz aA)) (pp (xL aA.length aA.length) (pp (xS aA.length (Zz aA) (Zz aA)) (pp (fl aF (fl aH nn)) (pp (fl aA nn) (tt k0 nn)))))))))) (lo fun aI=>(lb (fun k1=>(lr 15 3 [1,1,1,1,0] 1 14 [(2,.nils),(3,(ii (Yo (cvT aA))))] (sl Ka 50 [] ⟨[],[],[some [2,3]],[]⟩ ⟨[],[],[]⟩ (bl 3 6) (tt k1 (pp (pp (xr aA) (xw aI)) nn))))) (fun k1=>(lb (fun k2=>(lb (fun k3=>(lo fun bU=>(lb (fun k4=>(sl Ka 75 [] ⟨[4,5,0,1,2,3,8,9,10,11,7],[],slmN5,slmM5⟩ ⟨[],[],[]⟩ (bl 15 32764) (pp (fl aF (fl aH nn)) (tt k4 (pp (pp (xr aN) (pp (xI R4 (Zm (cvT aA)).length (Zz (Zm (cvT aA)))) (xw bU))) (tt k3 (tt k2 (tt k1 (pp (pp (xr aA) (xw aI)) nn))))))))) (fun k4=>(sl Ka 95 [] ⟨[4,0,1,2,3,8,9,10,11,7,5],[],v7m,v7o⟩ ⟨[],[],[]⟩ (bl 15 16380) (pp (fl aH (fl aF nn)) (tt k4 (pp (pp (xr aN) (pp (xI R4 (Zm (cvT aA)).length (Zz (Zm (cvT aA)))) (xw bU))) (tt k3 (tt k2 (tt k1 (pp (pp (xr aA) (xw aI)) nn)))))))))))) (fun k3=>(sl Ka 95 [] ⟨[4,0,1,2,3,8,9,10,11,7,5],[],v7m,v7o⟩ ⟨[],[],[]⟩ (bl 15 252) (pp (fl aH (fl aF nn)) (tt k3 (tt k2 (tt k1 (pp (pp (xr aA) (xw aI)) nn))))))))) (fun k2=>(sl Ka 95 [] ⟨[4,0,1,2,3,8,9,10,11,7,5],[],v7m,v7o⟩ ⟨[],[],[]⟩ (bl 15 0) (pp (fl aH (fl aF nn)) (tt k2 (tt k1 (pp (pp (xr aA) (xw aI)) nn)))))))))))))
 | .h4 v1 v2 v72 v73 v74 bJ aV aD bB bA aE aH aM=>(lb (fun k0=>(lo fun o0=>(lo fun o1=>(sl Ka 23 [] ⟨[0,1,2,3,4,5,6,7,8,9,13],[],v7m,v7o⟩ ⟨[],[.cells [.len (aD++[(R6.mk (rd v72 (tn v74)).a (rd v72 (tn v74)).b v1 (rd v72 (tn v74)).c (rd v72 (tn v74)).d v2)]).length,.keep,.keep,.keep],.keep,.keep,.keep,.keep,.keep,.keep,.keep,.keep,.keep,.rowed 6 (aD++[(R6.mk (rd v72 (tn v74)).a (rd v72 (tn v74)).b v1 (rd v72 (tn v74)).c (rd v72 (tn v74)).d v2)]).length (Zz (aD++[(R6.mk (rd v72 (tn v74)).a (rd v72 (tn v74)).b v1 (rd v72 (tn v74)).c (rd v72 (tn v74)).d v2)]))],[]⟩ [true] (pp (xL (aD.length+1) (aD++[(R6.mk (rd v72 (tn v74)).a (rd v72 (tn v74)).b v1 (rd v72 (tn v74)).c (rd v72 (tn v74)).d v2)]).length) (pp (xL (aD.length+1) (aD++[(R6.mk (rd v72 (tn v74)).a (rd v72 (tn v74)).b v1 (rd v72 (tn v74)).c (rd v72 (tn v74)).d v2)]).length) (pp (xS (aD.length+1) (Zh (Zz aD) 0 aD.length 6 [(ii (rd v72 (tn v74)).a),(ii (rd v72 (tn v74)).b),(ii v1),(ii (rd v72 (tn v74)).c),(ii (rd v72 (tn v74)).d),(ii v2)]) (Zz (aD++[(R6.mk (rd v72 (tn v74)).a (rd v72 (tn v74)).b v1 (rd v72 (tn v74)).c (rd v72 (tn v74)).d v2)]))) (pp (fl aH (pp (xF (Zh (Zz aD) 0 aD.length 6 [(ii (rd v72 (tn v74)).a),(ii (rd v72 (tn v74)).b),(ii v1),(ii (rd v72 (tn v74)).c),(ii (rd v72 (tn v74)).d),(ii v2)])) nn)) (ww o1 (ww o0 (tt k0 nn))))))))))) (fun k0=>(sl Ka 22 [] ⟨[1,2,3,4,0,5,6,7,8,10],[],u9g,u9i⟩ ⟨[],[],[]⟩ (bl 2 0) (pp (fl aH (fl aD nn)) (tt k0 nn)))))
 | .h5 v2 v8 bR bJ aV aD bB bA bN bG bM aA=>(lb (fun k0=>(lo fun o0=>(lo fun o1=>(sl Ka 34 [] ⟨(List.range 11),[],slmN5,slmM5⟩ ⟨[],[.cells [.len (aD.set (0+(tn v8)) (R6.mk (rd aD (0+(tn v8))).a (rd aD (0+(tn v8))).b (rd aD (0+(tn v8))).c (rd aD (0+(tn v8))).d (rd aD (0+(tn v8))).e v2)).length,.keep,.keep,.keep],.rowed 6 (aD.set (0+(tn v8)) (R6.mk (rd aD (0+(tn v8))).a (rd aD (0+(tn v8))).b (rd aD (0+(tn v8))).c (rd aD (0+(tn v8))).d (rd aD (0+(tn v8))).e v2)).length (Zz (aD.set (0+(tn v8)) (R6.mk (rd aD (0+(tn v8))).a (rd aD (0+(tn v8))).b (rd aD (0+(tn v8))).c (rd aD (0+(tn v8))).d (rd aD (0+(tn v8))).e v2))),.keep,.keep,.keep,.keep,.keep,.keep,.keep,.keep,.keep],[]⟩ [true] (pp (xL aD.length (aD.set (0+(tn v8)) (R6.mk (rd aD (0+(tn v8))).a (rd aD (0+(tn v8))).b (rd aD (0+(tn v8))).c (rd aD (0+(tn v8))).d (rd aD (0+(tn v8))).e v2)).length) (pp (xL aD.length (aD.set (0+(tn v8)) (R6.mk (rd aD (0+(tn v8))).a (rd aD (0+(tn v8))).b (rd aD (0+(tn v8))).c (rd aD (0+(tn v8))).d (rd aD (0+(tn v8))).e v2)).length) (pp (xS aD.length (Yt (Zz aD) (0+(tn v8)) 5 [(ii v2)]) (Zz (aD.set (0+(tn v8)) (R6.mk (rd aD (0+(tn v8))).a (rd aD (0+(tn v8))).b (rd aD (0+(tn v8))).c (rd aD (0+(tn v8))).d (rd aD (0+(tn v8))).e v2)))) (pp (pp (xF (Yt (Zz aD) (0+(tn v8)) 5 [(ii v2)])) (fl bM nn)) (ww o1 (ww o0 (tt k0 nn))))))))))) (fun k0=>(sl Ka 36 [] ⟨[2,3,4,5,0,6,7,8,9,1],[],u9g,u9i⟩ ⟨[],[],[]⟩ (bl 2 0) (pp (fl bM (fl aD nn)) (tt k0 nn)))))
theorem x6t (l0:List R6):Xy prog (Zy prog 74) (slmC l0) (Zg prog 74 [(.dat l0.length (Zz l0))] true []) (y2a l0):=(lb (fun k0=>(lr 15 74 [1,0,1,0,0] 1 14 [(2,.nils),(3,(ii 4))] (sl Ka 18 [] ⟨[],[],[some [2,3]],[]⟩ ⟨[],[],[]⟩ [true] (tt k0 nn)))) (fun k0=>(sl Ka 41 [] ⟨[],[],slmN0,slmM0⟩ ⟨[],[],[]⟩ [false] (tt k0 nn))))
theorem v7l (l0:List R6) (n:Nat) (vs:List AVal) (h:Zr (Xq l0) n (y2a l0)=.ret vs):Uz prog (Zy prog 74) (Zg prog 74 [(.dat l0.length (Zz l0))] true []) vs:=by have:=Zd (w6a l0) n _ (x6t l0);rwa [h] at this
inductive dwnS where
def dwnC (x0:Int) (x1:Int):dwnS→Cfg
 :=nofun
def w0w (x0:Int) (x1:Int):dwnS→Xx dwnS
 :=nofun
def y3p (x0:Int) (x1:Int):Xx dwnS:=(bif (!decide (x1=0)) then (bif (decide ((wrap .i64 ((wrap .i64 (Int.tdiv x0 x1))*x1))>x0)) then (.ret [(.int .i64 (wrap .i64 ((wrap .i64 ((wrap .i64 (Int.tdiv x0 x1)) - 1))*x1)))]) else (.ret [(.int .i64 (wrap .i64 ((wrap .i64 (Int.tdiv x0 x1))*x1)))])) else .stuck)
theorem w9a (x0:Int) (x1:Int): ∀s,Xy prog (Zy prog 72) (dwnC x0 x1) (dwnC x0 x1 s) (w0w x0 x1 s)
 :=nofun
theorem w0x (x0:Int) (x1:Int):Xy prog (Zy prog 72) (dwnC x0 x1) (Zg prog 72 [(.int .i64 x0),(.int .i64 x1)] true []) (y3p x0 x1):=(lo fun bH=>(lb (fun k0=>(lr 19 3 [1,1,1,1,0] 1 6 [(4,(ii (wr ((wr ((wr (Int.tdiv x0 x1)) - 1))*x1))))] (sl Ka 33 [] ⟨[],[],[some [4]],[]⟩ ⟨[],[],[]⟩ [true] (tt k0 (ww bH nn))))) (fun k0=>(lr 19 3 [1,1,1,1,0] 1 6 [(4,(ii (wr ((wr (Int.tdiv x0 x1))*x1))))] (sl Ka 29 [] ⟨[],[],[some [4]],[]⟩ ⟨[],[],[]⟩ [false] (tt k0 (ww bH nn)))))))
theorem u2g (x0:Int) (x1:Int) (n:Nat) (vs:List AVal) (h:Zr (w0w x0 x1) n (y3p x0 x1)=.ret vs):Uz prog (Zy prog 72) (Zg prog 72 [(.int .i64 x0),(.int .i64 x1)] true []) vs:=by have:=Zd (w9a x0 x1) n _ (w0x x0 x1);rwa [h] at this
def slmX :List AVal:=[.nils,.int .i64 8]
def eF (l:List R6):Nat→Nat→Int
 | 0,_=>0
 | k+1,i=>bif v0g l (rd (D6.cuts l) i) then Yo (D6.inn l (rd (D6.cuts l) i)) else eF l k (i+1)
def slmE (l:List R6) (k i:Nat):List AVal:=[.nils,.int .i64 (eF l k i)]
section
variable (l:List R6) (hl:l.length≤400)
include hl
theorem u3p (i:Nat) (out:List R6) (last:List R4) (first fin x x':Int): ∀(k j:Nat) (acc:List R4),j+k=l.length→acc.length≤j→
  ∃n,∀N,Zr (Xq l) (N+n) (.to (.h3 (i:Int) (j:Int) out last first fin ((D6.cuts l).length) (Wd (Xr (D6.ends l))) x x' acc))=Zr (Xq l) N (.to (.h3 (i:Int) (l.length:Int) out last first fin ((D6.cuts l).length) (Wd (Xr (D6.ends l))) x x' (acc++D6.inn (l.drop j) x)))
 | 0,j,acc,h,ha=>by refine ⟨0,fun N=> ?_⟩;rw [As (by omega),show D6.inn ([]:List R6) x=[] from rfl,AB,Bh,show j=l.length by omega]
 | k+1,j,acc,h,ha=>by
  have hj:j<l.length:=by omega
  obtain ⟨n,hn⟩:=u3p i out last first fin x x' k (j+1) (acc++D6.inn [rd l j] x) (by omega) (by have:=D6.inn_length [rd l j] x;simp only [AO,List.length_singleton] at*;omega)
  refine ⟨n+1,fun N=> ?_⟩;have e:D6.inn (l.drop j) x=D6.inn [rd l j] x++D6.inn (l.drop (j+1)) x:=by rw [Yg hj,←D6.inn_append];rfl
  rw [e,←AG,Zw,←AI,←hn N];by_cases h1:D6.lo (rd l j)≤x
  ·by_cases h2:x<D6.hi (rd l j)
   ·rw [D6.inn_t _ _ h1 h2];simp only [D6] at h1 h2 ⊢;simp (disch:=omega) only [Xq,Xo,Zb,Zp,Zs,Zn,Ya,Yv,Yu,Ze,Zj,Zx,Yp,Zk,Af,Ao,Ah,Ai,Ab,Aa]
   ·rw [D6.inn_f2 _ _ h2,AB];simp only [D6] at h1 h2;simp (disch:=omega) only [Xq,Xo,Yb,Zb,Zp,Zs,Zn,Ya,Yv,Yu,Ze,Zj,Zx,Yp,Zk,Af,Ao,Ah,Ai,Ab,Aa]
  ·rw [D6.inn_f1 _ _ h1,AB];simp only [D6] at h1;simp (disch:=omega) only [Xq,w0y,Zb,Zp,Zs,Zn,Ya,Yv,Yu,Ze,Zj,Zx,Yp,Zk,Af,Ao,Ah,Ai,Ab,Aa]
theorem u3o (i:Nat) (hi:i≤1000) (x x':Int) (s last:List R4) (first:Int) (inn:List R4) (hs:s.length≤1000): ∀(k j:Nat) (out:List R6),j+k=s.length→out.length≤10000000+j→
  ∃n,∀N,Zr (Xq l) (N+n) (.to (.h4 x x' s (s.length:Int) (j:Int) s (i:Int) out last first ((D6.cuts l).length) (Wd (Xr (D6.ends l))) inn))=Zr (Xq l) N (.to (.h2 ((i+1:Nat):Int) (out++(s.drop j).map (D6.put x x')) last first x' ((D6.cuts l).length) (Wd (Xr (D6.ends l)))))
 | 0,j,out,h,ho=>by have _u:=hl;refine ⟨1,fun N=> ?_⟩;rw [As (by omega),Zw];simp (disch:=omega) only [Xq,Yb,Zj,Zx,Aa,By,AB]
 | k+1,j,out,h,ho=>by
  obtain ⟨n,hn⟩:=u3o i hi x x' s last first inn hs k (j+1) (out++[D6.put x x' (rd s j)]) (by omega) (by simp;omega)
  refine ⟨n+1,fun N=> ?_⟩;have:=hn N;rw [Yg (show j<s.length by omega),A2,←AG,Zw];simp (disch:=omega) only [Xq,Zb,Zp,Zs,Zn,Ya,Yv,Yu,Ze,Zj,Zx,Yp,Zk,Af,Ao,Ah,Ai,Ab,Aa];rw [AI] at this;exact this
theorem u3n (i:Nat) (hi:i≤1000) (x x' fin:Int) (s last:List R4) (first:Int) (inn:List R4): ∀(k j:Nat) (out:List R6),j+k=out.length→out.length≤10000000→
  ∃n,∀N,Zr (Xq l) (N+n) (.to (.h5 x' (j:Int) x s (i:Int) out last first fin ((D6.cuts l).length) (Wd (Xr (D6.ends l))) inn))=Zr (Xq l) N (.to (.h2 ((i+1:Nat):Int) (D6.grow out j x') last first x' ((D6.cuts l).length) (Wd (Xr (D6.ends l)))))
 | 0,j,out,h,ho=>by have _u:=hl;refine ⟨1,fun N=> ?_⟩;rw [D6.grow_nil _ _ _ (by omega),Zw];simp (disch:=omega) only [Xq,Yb,Zj,Zx,Aa]
 | k+1,j,out,h,ho=>by
  obtain ⟨n,hn⟩:=u3n i hi x x' fin s last first inn k (j+1) (out.set j (D6.ext x' (rd out j))) (by simp;omega) (by simpa using ho)
  refine ⟨n+1,fun N=> ?_⟩;have:=hn N;rw [D6.grow_set out j _ (by omega)] at this;rw [←AG,Zw];simp (disch:=omega) only [Xq,Zb,Zp,Zs,Zn,Ya,Yv,Yu,Ze,Zj,Zx,Yp,Zk,Af,Ao,Ah,Ai,Ab,Aa];exact this
theorem v1d : ∀(k i:Nat) (s:Sw R6 R4),k=(D6.cuts l).length - 1 - i→i≤(D6.cuts l).length →s.out.length≤i*1000→s.last.length≤1000→s.first≤s.out.length→
  ∃n,Zr (Xq l) n (.to (.h2 ((i+1:Nat):Int) s.out s.last (s.first:Int) s.fin ((D6.cuts l).length) (Wd (Xr (D6.ends l)))))=.ret ((bif okF l k i then Ki (D6.go l k i s).out else slmE l k i))
 | 0,i,s,h,hi,ho,hla,hf=>by
  have hc:=D6.cuts_length l;refine ⟨1,?_⟩;rw [Zw,show D6.go l 0 i s=s from rfl,show okF l 0 i=true from rfl,Ab];unfold Ki;by_cases q:(s.out.length:Int)>400
  ·simp (disch:=omega) only [Xq,Yb,Yn,Ab,Aa,Zq]
  ·simp (disch:=omega) only [Xq,Zb,Yb,Xi,Ab,Aa,Zq]
 | k +1,i,s,h,hi,ho,hla,hf=>by
  have hc:=D6.cuts_length l;have hi1:i+1<(D6.cuts l).length :=by omega
  have hpl:(Wd (Xr (D6.ends l))).length =2*l.length:=by rw [Jf,Jz,D6.ends_length]
  have r0:rd (Wd (Xr (D6.ends l))) i=rd (D6.cuts l) i:=z5r _ _ (by show i<(D6.cuts l).length;omega);have r1:rd (Wd (Xr (D6.ends l))) (i+1)=rd (D6.cuts l) (i+1):=z5r _ _ (by show i+1<(D6.cuts l).length;omega);have hbig:i*1000≤1000*1000:=AC _ (by omega);have hsl:=u8l l (rd (D6.cuts l) i);have hsd:D6.sec l (rd (D6.cuts l) i)=Zm (D6.inn l (rd (D6.cuts l) i)):=rfl;obtain ⟨n3,h3⟩:=u3p l hl (i+1) s.out s.last (s.first:Int) s.fin (rd (D6.cuts l) i) (rd (D6.cuts l) (i+1)) l.length 0 [] (Af _) (Aq _);simp only [AT,A8,z2b] at h3;have w1:Uu (D6.inn l (rd (D6.cuts l) i))=true:=rfl;have w2:Xs s.last (Zm (D6.inn l (rd (D6.cuts l) i)))=true:=Al (by omega);have ol:=D6.one_length l (rd (D6.cuts l) i) (rd (D6.cuts l) (i+1)) s;have st0: ∀N,Zr (Xq l) (N+n3+1) (.to (.h2 ((i+1:Nat):Int) s.out s.last (s.first:Int) s.fin ((D6.cuts l).length) (Wd (Xr (D6.ends l)))))=Zr (Xq l) N (.to (.h3 ((i+1:Nat):Int) (l.length:Int) s.out s.last (s.first:Int) s.fin ((D6.cuts l).length) (Wd (Xr (D6.ends l))) (rd (D6.cuts l) i) (rd (D6.cuts l) (i+1)) (D6.inn l (rd (D6.cuts l) i)))):=fun N=>by
   rw [←h3 N,Zw];have e1:wrap .i64 (((i+1:Nat):Int) - 1)=(i:Int):=by rw [Zo];exact Zj (by omega)
   simp (disch:=omega) only [Xq,e1,r0,r1,Zb,Zp,Zs,Zn,Ya,Yv,Yu,Ze,Zj,Zx,Yp,Zk,Af,Ao,Ah,Ai,Ab,Aa]
  rcases Yy (v0g l (rd (D6.cuts l) i)) with q0 | q0
  ·refine ⟨1+n3+1,?_⟩;rw [st0 1,Zw];simp only [okF,slmE,eF,q0,Ab,Aa];have q0':(Yo (D6.inn l (rd (D6.cuts l) i)) != 0)=true:=q0;simp (disch:=omega) only [Xq,Zb,Zp,Yb,q0',w1,Ab,Aa,Zq]
  have q0':(Yo (D6.inn l (rd (D6.cuts l) i)) != 0)=false:=q0;rcases Yy (decide (0<(D6.sec l (rd (D6.cuts l) i)).length)&&((s.fin == rd (D6.cuts l) i)&&D6.same s.last (D6.sec l (rd (D6.cuts l) i)))) with q | q
  ·obtain ⟨n5,h5⟩:=u3n l hl (i+1) (by omega) (rd (D6.cuts l) i) (rd (D6.cuts l) (i+1)) s.fin (D6.sec l (rd (D6.cuts l) i)) s.last (s.first:Int) (D6.inn l (rd (D6.cuts l) i)) (s.out.length - s.first) s.first s.out (by omega) (by omega)
   have e:D6.one l (rd (D6.cuts l) i) (rd (D6.cuts l) (i+1)) s=⟨D6.grow s.out s.first (rd (D6.cuts l) (i+1)),s.last,s.first,rd (D6.cuts l) (i+1)⟩:=by unfold Dim.one;rw [q];rfl
   obtain ⟨n0,h0⟩:=v1d k (i+1) (D6.one l (rd (D6.cuts l) i) (rd (D6.cuts l) (i+1)) s) (by omega) (by omega) (by omega) (by rw [e];exact hla) (by rw [e];simpa [Dim.grow_length] using hf);refine ⟨n0+n5+1+n3+1,?_⟩;rw [st0 (n0+n5+1),Zw];simp only [Ac,At] at q;obtain ⟨q1,q2,q3⟩:=q;have q3':Vw s.last (Zm (D6.inn l (rd (D6.cuts l) i)))=true:=q3;rw [hsd] at q1;simp (disch:=omega) only [Xq,Zb,Zp,Yb,Yn,q0',q2,q3',w1,w2,Ab,Aa];rw [←hsd,h5 n0];simp only [okF,slmE,eF,q0,Aa];simp only [Dim.go];rw [e] at h0 ⊢;exact h0
  ·obtain ⟨n4,h4⟩:=u3o l hl (i+1) (by omega) (rd (D6.cuts l) i) (rd (D6.cuts l) (i+1)) (D6.sec l (rd (D6.cuts l) i)) (D6.sec l (rd (D6.cuts l) i)) (s.out.length:Int) (D6.inn l (rd (D6.cuts l) i)) hsl (D6.sec l (rd (D6.cuts l) i)).length 0 s.out (Af _) (by omega);simp only [AT,z2b] at h4;have e:D6.one l (rd (D6.cuts l) i) (rd (D6.cuts l) (i+1)) s=⟨s.out++(D6.sec l (rd (D6.cuts l) i)).map (D6.put (rd (D6.cuts l) i) (rd (D6.cuts l) (i+1))),D6.sec l (rd (D6.cuts l) i),s.out.length,rd (D6.cuts l) (i+1)⟩:=by unfold Dim.one;rw [q];rfl
   obtain ⟨n0,h0⟩:=v1d k (i+1) (D6.one l (rd (D6.cuts l) i) (rd (D6.cuts l) (i+1)) s) (by omega) (by omega) (by omega) (by rw [e];exact hsl) (by rw [e];simp);have hg:Zr (Xq l) 1 (.to (.h3 ((i+1:Nat):Int) (l.length:Int) s.out s.last (s.first:Int) s.fin ((D6.cuts l).length) (Wd (Xr (D6.ends l))) (rd (D6.cuts l) i) (rd (D6.cuts l) (i+1)) (D6.inn l (rd (D6.cuts l) i))))=.to (.h4 (rd (D6.cuts l) i) (rd (D6.cuts l) (i+1)) (D6.sec l (rd (D6.cuts l) i)) ((D6.sec l (rd (D6.cuts l) i)).length :Int) 0 (D6.sec l (rd (D6.cuts l) i)) ((i+1:Nat):Int) s.out (D6.sec l (rd (D6.cuts l) i)) (s.out.length:Int) ((D6.cuts l).length) (Wd (Xr (D6.ends l))) (D6.inn l (rd (D6.cuts l) i))):=by
    rw [show (1:Nat)=0+1 from rfl,Zw];rw [hsd] at q ⊢;have e3:D6.same s.last (Zm (D6.inn l (rd (D6.cuts l) i)))=Vw s.last (Zm (D6.inn l (rd (D6.cuts l) i))):=rfl;rw [e3] at q;by_cases q1:0<(Zm (D6.inn l (rd (D6.cuts l) i))).length
    ·rw [Al q1,Ai] at q;rcases Yy (s.fin == rd (D6.cuts l) i) with q2 | q2
     ·rw [q2,Ai] at q;simp (disch:=omega) only [Xq,Zb,Zp,Yb,Yn,q0',q2,q,w1,w2,Ab,Aa];rfl
     ·simp (disch:=omega) only [Xq,Zb,Zp,Yb,Yn,q0',q2,w1,w2,Ab,Aa];rfl
    ·simp (disch:=omega) only [Xq,Zb,Zp,Yb,Xi,q0',w1,w2,Ab,Aa];rfl
   refine ⟨n0+n4+1+n3+1,?_⟩;rw [st0 (n0+n4+1),z4k _ (n0+n4) 1,hg,h4 n0];simp only [okF,slmE,eF,q0,Aa];simp only [Dim.go];rw [e] at h0 ⊢;exact h0
theorem u3q : ∀(k i:Nat) (acc:List Int),i+k=l.length→acc=D6.ends (l.take i)→ ∃n,Zr (Xq l) n (.to (.h1 (i:Int) acc))=.ret ((bif okF l ((D6.cuts l).length - 1) 0 then Ki (D6.go l ((D6.cuts l).length - 1) 0 ⟨[],[],0,0⟩).out else slmE l ((D6.cuts l).length - 1) 0))
 | 0,i,acc,h,ha=>by
  have e:acc=D6.ends l:=by rw [ha,AU (by omega)]
  subst e;have hle:=D6.ends_length l;obtain ⟨n,hn⟩:=v1d l hl ((D6.cuts l).length - 1) 0 ⟨[],[],0,0⟩ (by omega) (AA _) (AA _) (AA _) (AA _);refine ⟨n+1,?_⟩;rw [Zw];simp (disch:=omega) only [Xq,Ks,z1v,y6c,Yb,Yv,Yu,Ao,Ab,Aa];exact hn
 | k+1,i,acc,h,ha=>by
  have hle:=D6.ends_length (l.take i);have fM:acc.length≤2*i:=by rw [ha,hle];simp;omega
  obtain ⟨n,hn⟩:=u3q k (i+1) (acc++D6.ends [rd l i]) (by omega) (by
   rw [ha,A0];have:l[i]? =some (rd l i):=by rw [Xz (show i<l.length by omega)];exact Au _
   rw [this,D6.ends_append];rfl)
  refine ⟨n+1,?_⟩;rw [Zw];simp (disch:=omega) only [Xq,Zb,Zp,Zs,Zn,Ya,Yv,Yu,Ze,Zj,Zx,Yp,Zk,Af,Ao,Ah,Ai,Ab,Aa];exact hn
theorem u3r : ∀(k i:Nat),i+k=l.length→(∀s∈l.take i,Kv s=true)→ ∃n,Zr (Xq l) n (.to (.h0 (i:Int)))=.ret (bif l.all Kv then (bif okF l ((D6.cuts l).length - 1) 0 then Ki (D6.go l ((D6.cuts l).length - 1) 0 ⟨[],[],0,0⟩).out else slmE l ((D6.cuts l).length - 1) 0) else slmX)
 | 0,i,h,ht=>by have hv:l.all Kv=true:=Ar.2 fun s hs=>ht s (by rw [AU (by omega)];exact hs);obtain ⟨n,hn⟩:=u3q l hl l.length 0 [] (Af _) rfl;refine ⟨n+1,?_⟩;rw [Zw,hv,Ab];simp (disch:=omega) only [Xq,Yb,Aa];exact hn
 | k+1,i,h,ht=>by
  have hi:i<l.length:=by omega
  have hs:Xq l (.h0 (i:Int))=bif Kv (rd l i) then .to (.h0 ((i+1:Nat):Int)) else .ret slmX:=by have e:u8o (rd l i).a (rd l i).b (rd l i).c (rd l i).d (rd l i).e (rd l i).f =Kv (rd l i):=rfl;simp (disch:=omega) only [Xq,e,y0e,x5g,w5a,Zn,Zj,Zx,Zk,Ah,Ab,Aa];rfl
  rcases Yy (Kv (rd l i)) with q | q
  ·obtain ⟨n,hn⟩:=u3r k (i+1) (by omega) (fun s hs=>by
    rw [A0] at hs;have e:l[i]? =some (rd l i):=by rw [Xz hi];exact Au _
    rw [e] at hs;simp only [Option.toList_some,AH,BD] at hs;rcases hs with hs | rfl
    ·exact ht s hs
    ·exact q)
   refine ⟨n+1,?_⟩;rw [Zw,hs,q,Ab];exact hn
  ·have hv:l.all Kv=false:=AZ.2 fun e=>by have:=Ar.1 e (rd l i) (by rw [Xz hi];exact AY hi);rw [this] at q;cases q
   refine ⟨1,?_⟩;rw [Zw,hv,Aa,hs,q,Aa,Zq]
end
theorem j5w {l:List R6}: ∀(k i:Nat),okF l k i=false→(eF l k i != 0)=true
 | 0,i,h=>by cases h
 | k+1,i,h=>by
  unfold okF at h;unfold eF;rcases Yy (v0g l (rd (D6.cuts l) i)) with q | q
  ·rw [q,Ab];exact q
  ·rw [q,Aa] at h ⊢;exact j5w k (i+1) h
def Ku (l:List R6):Int:=bif decide (400<l.length) then 4 else bif l.all Kv then (bif okF l ((D6.cuts l).length - 1) 0 then y7g (D6.out l).length else eF l ((D6.cuts l).length - 1) 0) else 8
def Qp (l:List R6):List R6:=y7f (Ku l) (D6.out l)
def z7e (l:List R6):Bool:=true
theorem u9f (l:List R6) (h:z7e l=true): ∃n,Zr (Xq l) n (y2a l)=.ret (z8y (Ku l) (D6.out l)):=by
 unfold y2a Ku;by_cases h:400<l.length
 ·refine ⟨0,?_⟩;rw [Al h,Yn (show (l.length:Int)>400 by omega)];rfl
 ·obtain ⟨n,hn⟩:=u3r l (by omega) l.length 0 (Af _) (fun s hs=>by simp at hs);refine ⟨n,?_⟩;rw [Az h,Xi (show ¬(l.length:Int)>400 by omega),Aa,Aa];rw [z2b] at hn;rw [hn];rcases Yy (l.all Kv) with q | q
  ·rw [q,Ab,Ab];rcases Yy (okF l ((D6.cuts l).length - 1) 0) with q2 | q2
   ·rw [q2,Ab,Ab,z8r];rfl
   ·rw [q2,Aa,Aa,Vv _ (j5w _ _ q2)];rfl
  ·rw [q];rfl
def fSlm :List AVal→Option (AVal×Bool)
 | [a0]=>match asL R6 a0 with
  | some (L0,g0,n0)=>some (.tup [.dat (Qp L0).length (Zz (Qp L0)),.int .i64 (Ku L0)],isT R6 n0 g0&&(z7e L0))
  | _=>none
 | _=>none
theorem j3w {S:Specs} (hS:Zv prog S):Zv prog (S.with v4d fSlm):=by
 refine x6d hS (by kernel_rfl) fun args v h=> ?_;unfold fSlm at h;split at h
 ·rename_i a0;split at h
  ·rename_i L0 g0 n0 e0;simp only [Ae,Ad,Ac] at h;obtain ⟨rfl,ho0,hw⟩:=h;obtain ⟨N,hN⟩:=u9f L0 hw;exact ⟨_,_,(.cons (Yc e0 ho0) .nil),Qt _ _,v7l L0 N _ hN,3,z2n _ _⟩
  ·cases h
 ·cases h
def Wo (x n:Int):Int:=bif decide (wrap .i64 (wrap .i64 (Int.tdiv x n)*n)>x) then wrap .i64 (wrap .i64 (wrap .i64 (Int.tdiv x n) - 1)*n) else wrap .i64 (wrap .i64 (Int.tdiv x n)*n)
def Jb (x n:Int):Bool:= !decide (n=0)
theorem j5x (x n:Int) (h:Jb x n=true): ∃N,Zr (w0w x n) N (y3p x n)=.ret [.int .i64 (Wo x n)]:=⟨0,by
 have h:(!decide (n=0))=true:=h;unfold y3p Wo;rw [h,Ab];cases decide (wrap .i64 (wrap .i64 (Int.tdiv x n)*n)>x) <;> rfl⟩
def fDwn :List AVal→Option (AVal×Bool)
 | [.int .i64 x0,.int .i64 x1]=>some (.int .i64 (Wo x0 x1),Jb x0 x1)
 | _=>none
theorem j5g {S:Specs} (hS:Zv prog S):Zv prog (S.with nDown fDwn):=by
 refine Qe hS (by kernel_rfl) fun args v h=> ?_;unfold fDwn at h;split at h
 ·rename_i x0 x1;simp only [Ae,Ad,Ac] at h;obtain ⟨rfl,hw⟩:=h;obtain ⟨N,hN⟩:=j5x x0 x1 hw;exact ⟨_,_,(.cons (.refl _) (.cons (.refl _) .nil)),rfl,u2g x0 x1 N _ hN,3,rfl⟩
 ·cases h
def Vo1 :Specs:=(Vc.with v4d fSlm).with nDown fDwn
theorem z5z :Zv prog Vo1:=j5g (j3w Ka)
inductive outeS where
 | h0 (v7:List R6) (v19:Int)
def j2m (l0:List R6) (x1:Int):outeS→Cfg
 | .h0 v7 v19=>⟨⟨89,0,true⟩,none,(Zc prog 38 [1,1,1,0,1,0,0] 0),none,(Zy prog 16),⟨Yj [(1,(ii x1)),(7,(.sla 0 6 0 v7.length (.un 6))),(17,(.dat l0.length (Zz l0))),(18,(ii (l0.length:Int))),(19,(ii v19))],Wn [⟨Yk v7.length (Zz v7),57,some ⟨6,v7.length,(Zz v7)⟩⟩] 0,1,[],true⟩,[],.leaf⟩
def u6q :List (Option (List Nat)):=[some [1,7,17,18,19]]
def u6r :List (Option (List Nat)):=[]
def z2q (l0:List R6) (x1:Int):outeS→Xx outeS
 | .h0 v7 v19=>(bif (decide (v19<(l0.length:Int))) then (bif ((decide (0≤v19∧v19<(l0.length:Int)))&&true) then (bif (Jb (rd l0 v19.toNat).a x1) then (bif (Jb (rd l0 v19.toNat).b x1) then (bif (Jb (rd l0 v19.toNat).c x1) then (bif (Jb (wrap .i64 (0 - (rd l0 v19.toNat).d)) x1) then (bif (Jb (wrap .i64 (0 - (rd l0 v19.toNat).e)) x1) then (bif (Jb (wrap .i64 (0 - (rd l0 v19.toNat).f)) x1) then (bif (decide ((Kx (Kx (Wo (rd l0 v19.toNat).a x1) (Wo (rd l0 v19.toNat).b x1)) (Wo (rd l0 v19.toNat).c x1))<(-1000000))) then (.ret [.nils,(.int .i64 16)]) else (bif (decide ((Kw (Kw (wrap .i64 (0 - (Wo (wrap .i64 (0 - (rd l0 v19.toNat).d)) x1))) (wrap .i64 (0 - (Wo (wrap .i64 (0 - (rd l0 v19.toNat).e)) x1)))) (wrap .i64 (0 - (Wo (wrap .i64 (0 - (rd l0 v19.toNat).f)) x1))))>1000000)) then (.ret [.nils,(.int .i64 16)]) else (bif (Nat.beq 6 6&&((decide (0+v7.length=v7.length))&&decide ((v7.length+1+1)*(48+1)≤room))) then (.to (.h0 (v7++[(R6.mk (Wo (rd l0 v19.toNat).a x1) (Wo (rd l0 v19.toNat).b x1) (Wo (rd l0 v19.toNat).c x1) (wrap .i64 (0 - (Wo (wrap .i64 (0 - (rd l0 v19.toNat).d)) x1))) (wrap .i64 (0 - (Wo (wrap .i64 (0 - (rd l0 v19.toNat).e)) x1))) (wrap .i64 (0 - (Wo (wrap .i64 (0 - (rd l0 v19.toNat).f)) x1))))]) (wrap .i64 (v19+1)))) else .stuck))) else .stuck) else .stuck) else .stuck) else .stuck) else .stuck) else .stuck) else .stuck) else (bif (z7e (cvT v7)) then (.ret [(.dat (Qp (cvT v7)).length (Zz (Qp (cvT v7)))),(.int .i64 (Ku (cvT v7)))]) else .stuck))
def z8a (l0:List R6) (x1:Int):Xx outeS:=(bif (Vi (cvT l0)) then (bif ((Yx (cvT l0)) != 0) then (.ret [.nils,(.int .i64 (Yx (cvT l0)))]) else (bif (decide (x1<1)) then (.ret [.nils,(.int .i64 2)]) else (bif (decide (x1>1000)) then (.ret [.nils,(.int .i64 2)]) else (.to (.h0 ([]:List R6) 0))))) else .stuck)
theorem x9a (l0:List R6) (x1:Int): ∀s,Xy prog (Zy prog 38) (j2m l0 x1) (j2m l0 x1 s) (z2q l0 x1 s)
 | .h0 v7 v19=>(lb (fun k0=>(lo fun aI=>(lo fun bD=>(lo fun cD=>(lo fun cT=>(lo fun cY=>(lo fun cL=>(lo fun cZ=>(lb (fun k1=>(lr 89 38 [1,1,1,0,1,0,0,1,1,0,0,1,1,0,1,0,0] 1 16 [(4,.nils),(5,(ii 16))] (sl z5z 52 [] ⟨[],[],[some [4,5]],[]⟩ ⟨[],[],[]⟩ (trs 13 []) (tt k1 (ww cZ (ww cL (ww cY (ww cT (ww cD (ww bD (ww aI (tt k0 nn)))))))))))) (fun k1=>(lb (fun k2=>(lr 89 38 [1,1,1,0,1,0,0,1,1,0,0,1,1,0,1,0,0] 1 16 [(4,.nils),(5,(ii 16))] (sl z5z 52 [] ⟨[],[],[some [4,5]],[]⟩ ⟨[],[],[]⟩ (bl 13 4097) (tt k2 (tt k1 (ww cZ (ww cL (ww cY (ww cT (ww cD (ww bD (ww aI (tt k0 nn))))))))))))) (fun k2=>(lo fun o0=>(sl z5z 61 [] ⟨[4],[],u6q,u6r⟩ ⟨[(7,.len (v7++[(R6.mk (Wo (rd l0 (tn v19)).a x1) (Wo (rd l0 (tn v19)).b x1) (Wo (rd l0 (tn v19)).c x1) (wr (0 - (Wo (wr (0 - (rd l0 (tn v19)).d)) x1))) (wr (0 - (Wo (wr (0 - (rd l0 (tn v19)).e)) x1))) (wr (0 - (Wo (wr (0 - (rd l0 (tn v19)).f)) x1))))]).length)],[.rowed 6 (v7++[(R6.mk (Wo (rd l0 (tn v19)).a x1) (Wo (rd l0 (tn v19)).b x1) (Wo (rd l0 (tn v19)).c x1) (wr (0 - (Wo (wr (0 - (rd l0 (tn v19)).d)) x1))) (wr (0 - (Wo (wr (0 - (rd l0 (tn v19)).e)) x1))) (wr (0 - (Wo (wr (0 - (rd l0 (tn v19)).f)) x1))))]).length (Zz (v7++[(R6.mk (Wo (rd l0 (tn v19)).a x1) (Wo (rd l0 (tn v19)).b x1) (Wo (rd l0 (tn v19)).c x1) (wr (0 - (Wo (wr (0 - (rd l0 (tn v19)).d)) x1))) (wr (0 - (Wo (wr (0 - (rd l0 (tn v19)).e)) x1))) (wr (0 - (Wo (wr (0 - (rd l0 (tn v19)).f)) x1))))]))],[]⟩ (bl 13 1) (pp (xL (v7.length+1) (v7++[(R6.mk (Wo (rd l0 (tn v19)).a x1) (Wo (rd l0 (tn v19)).b x1) (Wo (rd l0 (tn v19)).c x1) (wr (0 - (Wo (wr (0 - (rd l0 (tn v19)).d)) x1))) (wr (0 - (Wo (wr (0 - (rd l0 (tn v19)).e)) x1))) (wr (0 - (Wo (wr (0 - (rd l0 (tn v19)).f)) x1))))]).length) (pp (xL (v7.length+1) (v7++[(R6.mk (Wo (rd l0 (tn v19)).a x1) (Wo (rd l0 (tn v19)).b x1) (Wo (rd l0 (tn v19)).c x1) (wr (0 - (Wo (wr (0 - (rd l0 (tn v19)).d)) x1))) (wr (0 - (Wo (wr (0 - (rd l0 (tn v19)).e)) x1))) (wr (0 - (Wo (wr (0 - (rd l0 (tn v19)).f)) x1))))]).length) (pp (xS (v7.length+1) (Zh (Zz v7) 0 v7.length 6 [(ii (Wo (rd l0 (tn v19)).a x1)),(ii (Wo (rd l0 (tn v19)).b x1)),(ii (Wo (rd l0 (tn v19)).c x1)),(ii (wr (0 - (Wo (wr (0 - (rd l0 (tn v19)).d)) x1)))),(ii (wr (0 - (Wo (wr (0 - (rd l0 (tn v19)).e)) x1)))),(ii (wr (0 - (Wo (wr (0 - (rd l0 (tn v19)).f)) x1))))]) (Zz (v7++[(R6.mk (Wo (rd l0 (tn v19)).a x1) (Wo (rd l0 (tn v19)).b x1) (Wo (rd l0 (tn v19)).c x1) (wr (0 - (Wo (wr (0 - (rd l0 (tn v19)).d)) x1))) (wr (0 - (Wo (wr (0 - (rd l0 (tn v19)).e)) x1))) (wr (0 - (Wo (wr (0 - (rd l0 (tn v19)).f)) x1))))]))) (pp (pp (xF (Zh (Zz v7) 0 v7.length 6 [(ii (Wo (rd l0 (tn v19)).a x1)),(ii (Wo (rd l0 (tn v19)).b x1)),(ii (Wo (rd l0 (tn v19)).c x1)),(ii (wr (0 - (Wo (wr (0 - (rd l0 (tn v19)).d)) x1)))),(ii (wr (0 - (Wo (wr (0 - (rd l0 (tn v19)).e)) x1)))),(ii (wr (0 - (Wo (wr (0 - (rd l0 (tn v19)).f)) x1))))])) nn) (ww o0 (tt k2 (tt k1 (ww cZ (ww cL (ww cY (ww cT (ww cD (ww bD (ww aI (tt k0 nn))))))))))))))))))))))))))))) (fun k0=>(Wy (sl z5z (C':=⟨⟨89,0,true⟩,(Vk prog 38 [1,1,1,1,0] 1),(Zc prog 38 [1,1,1,1,0] 1),none,(Zy prog 16),⟨Yj [(85,(.dat v7.length (Zz v7)))],Wn [] 0,0,[],true⟩,[],.leaf⟩) 10 [] ⟨[],[0],[some [85]],[]⟩ ⟨[(85,.frz v7.length v7.length (Zz v7) (Zz v7))],[],[]⟩ [false] (pp (xZ (z1o 6 6 0 v7.length v7.length (Zz v7)) v7.length (Zz v7)) (pp (xL v7.length v7.length) (pp (xS v7.length (Zz v7) (Zz v7)) (pp (fl v7 nn) (tt k0 nn)))))) (lo fun o0=>(lr 89 3 [1,1,1,1,0] 1 16 [(4,(.dat (Qp (cvT v7)).length (Zz (Qp (cvT v7))))),(5,(ii (Ku (cvT v7))))] (sl z5z 6 [] ⟨[],[],[some [4,5]],[]⟩ ⟨[],[],[]⟩ [] (pp (pp (xr v7) (xw o0)) nn)))))))
theorem x4d (l0:List R6) (x1:Int):Xy prog (Zy prog 38) (j2m l0 x1) (Zg prog 38 [(.dat l0.length (Zz l0)),(.int .i64 x1)] true []) (z8a l0 x1):=(lo fun bH=>(lb (fun k0=>(lr 89 38 [1,0,1,1,0,0] 1 16 [(4,.nils),(5,(ii (Yx (cvT l0))))] (sl z5z 48 [] ⟨[],[],[some [4,5]],[]⟩ ⟨[],[],[]⟩ [true,true] (tt k0 (tt k0 (pp (pp (xr l0) (xw bH)) nn)))))) (fun k0=>(lb (fun k1=>(lr 89 38 [1,0,1,1,0,0] 1 16 [(4,.nils),(5,(ii 2))] (sl z5z 59 [] ⟨[],[],[some [4,5]],[]⟩ ⟨[],[],[]⟩ [false,true,true,true,true] (tt k1 (tt k0 (pp (pp (xr l0) (xw bH)) nn)))))) (fun k1=>(lb (fun k2=>(lr 89 38 [1,0,1,1,0,0] 1 16 [(4,.nils),(5,(ii 2))] (sl z5z 59 [] ⟨[],[],[some [4,5]],[]⟩ ⟨[],[],[]⟩ [false,false,false,true,true] (tt k2 (tt k1 (tt k0 (pp (pp (xr l0) (xw bH)) nn))))))) (fun k2=>(sl z5z 68 [(57,6,Zz ([]:List R6))] ⟨[0],[],u6q,u6r⟩ ⟨[(7,.grow 0 6)],[],[]⟩ [false,false,false,false,false] (pp (fl ([]:List R6) nn) (tt k2 (tt k1 (tt k0 (pp (pp (xr l0) (xw bH)) nn)))))))))))))
theorem v3q (l0:List R6) (x1:Int) (n:Nat) (vs:List AVal) (h:Zr (z2q l0 x1) n (z8a l0 x1)=.ret vs):Uz prog (Zy prog 38) (Zg prog 38 [(.dat l0.length (Zz l0)),(.int .i64 x1)] true []) vs:=by have:=Zd (x9a l0 x1) n _ (x4d l0 x1);rwa [h] at this
def upV (x n:Int):Int:=wrap .i64 (0 - Wo (wrap .i64 (0 - x)) n)
theorem dwn_o {x n:Int} (h:n≠0):Jb x n=true:=by unfold Jb;rw [Az h];rfl
def oB (n:Int) (r:R6):R6:=⟨Wo r.a n,Wo r.b n,Wo r.c n,upV r.d n,upV r.e n,upV r.f n⟩
def oOk (n:Int) (r:R6):Bool:= !decide (Kx (Kx (Wo r.a n) (Wo r.b n)) (Wo r.c n)<(-1000000))&& !decide (Kw (Kw (upV r.d n) (upV r.e n)) (upV r.f n)>1000000)
def outR (n:Int) (L:List R6) (ok:Bool):List AVal:=bif ok then [.dat (Qp (L.map (oB n))).length (Zz (Qp (L.map (oB n)))),.int .i64 (Ku (L.map (oB n)))] else [.nils,.int .i64 16]
theorem v3p {L:List R6} {n:Int} (hl:L.length≤400) (hn:n≠0): ∀(k i:Nat) (acc:List R6),i+k=L.length→acc=(L.take i).map (oB n)→ ∃N,Zr (z2q L n) N (.to (.h0 acc (i:Int)))=.ret (outR n L ((L.drop i).all (oOk n)))
 | 0,i,acc,h,ha=>by refine ⟨1,?_⟩;rw [AU (by omega)] at ha;subst ha;rw [Zw,As (by omega)];simp (disch:=omega) only [z2q,Yb,Zb,show∀l,z7e l=true from fun _=>rfl,Ab,Aa,Zq,outR,List.all_nil]
 | k+1,i,acc,h,ha=>by
  have hi:i<L.length:=by omega
  have hla:acc.length=i:=by rw [ha,Bg,BB];omega
  obtain ⟨N,hN⟩:=v3p hl hn k (i+1) (acc++[oB n (rd L i)]) (by omega) (by rw [ha,Xz hi,←List.map_singleton,←Bo,List.take_append_getElem]);have hw:wrap .i64 ((i:Int)+1)=((i+1:Nat):Int):=Zj (by omega);have hs:z2q L n (.h0 acc (i:Int))=bif oOk n (rd L i) then .to (.h0 (acc++[oB n (rd L i)]) ((i+1:Nat):Int)) else .ret [.nils,.int .i64 16]:=by simp (disch:=omega) only [z2q,Zs,Zn,hw,Zk,dwn_o hn,Yu,Ze,Yp,Af,Ao,Ah,Ai,Ab];unfold oOk upV oB;cases decide (Kx (Kx (Wo (rd L i).a n) (Wo (rd L i).b n)) (Wo (rd L i).c n)<(-1000000)) <;> cases decide (Kw (Kw (wrap .i64 (0 - Wo (wrap .i64 (0 - (rd L i).d)) n)) (wrap .i64 (0 - Wo (wrap .i64 (0 - (rd L i).e)) n))) (wrap .i64 (0 - Wo (wrap .i64 (0 - (rd L i).f)) n))>1000000) <;> rfl
  refine ⟨N+1,?_⟩;rw [Zw,hs,Yg hi,List.all_cons];rcases Yy (oOk n (rd L i)) with q | q
  ·rw [q,Ab,Ai];exact hN
  ·rw [q,Aa,Bc];exact Zq _ _ _
def j2n (L:List R6) (n:Int):Bool:=(Yx L == 0)&&(!decide (n<1)&&(!decide (n>1000)&&L.all (oOk n)))
def Wg (L:List R6) (n:Int):List R6:=bif j2n L n then Qp (L.map (oB n)) else []
def Uo (L:List R6) (n:Int):Int:=bif Yx L != 0 then Yx L else bif decide (n<1)||decide (n>1000) then 2 else bif L.all (oOk n) then Ku (L.map (oB n)) else 16
def outW (L:List R6) (n:Int):List AVal:=bif j2n L n then [.dat (Wg L n).length (Zz (Wg L n)),.int .i64 (Uo L n)] else [.nils,.int .i64 (Uo L n)]
theorem u0o (L:List R6) (n:Int): ∃N,Zr (z2q L n) N (z8a L n)=.ret (outW L n):=by
 have hk:(Yx L != 0)= !(Yx L == 0):=rfl;unfold z8a outW Wg Uo j2n;simp only [Zb,show∀l,Vi l=true from fun _=>rfl,Ab,hk];rcases Yy (Yx L == 0) with a | a
 ·rcases Yy (decide (n<1)) with b | b
  ·refine ⟨0,?_⟩;rw [a,b];rfl
  ·rcases Yy (decide (n>1000)) with c | c
   ·refine ⟨0,?_⟩;rw [a,b,c];rfl
   ·have hb:=AX b;obtain ⟨N,hN⟩:=v3p (L:=L) (n:=n) (Vh (eq_of_beq a)).1 (by omega) L.length 0 [] (Af _) rfl;refine ⟨N,?_⟩;rw [a,b,c];simp only [Aw,Ay,Ai,BW,Ab,Aa];rw [z2b] at hN;rw [hN,AT];unfold outR;cases L.all (oOk n) <;> rfl
 ·refine ⟨0,?_⟩;rw [a];rfl
def y4t (L:List R6) (n:Int):Bool:=true
def fOut :List AVal→Option (AVal×Bool)
 | [a0,.int .i64 x1]=>match asL R6 a0 with
  | some (L0,g0,n0)=>some (.tup [.dat (Wg L0 x1).length (Zz (Wg L0 x1)),.int .i64 (Uo L0 x1)],isT R6 n0 g0&&y4t L0 x1)
  | _=>none
 | _=>none
theorem j4x {S:Specs} (hS:Zv prog S):Zv prog (S.with v4h fOut):=by
 refine x6d hS (by kernel_rfl) fun args v h=> ?_;unfold fOut at h;split at h
 ·rename_i a0 x1;split at h
  ·rename_i L0 g0 n0 e0;simp only [Ae,Ad,Ac] at h;obtain ⟨rfl,ho0,hw⟩:=h;obtain ⟨N,hN⟩:=u0o L0 x1;refine ⟨_,outW L0 x1,(.cons (Yc e0 ho0) (.cons (.refl _) .nil)),?_,v3q L0 x1 N _ hN,3,?_⟩
   ·unfold outW;rcases Yy (j2n L0 x1) with q | q
    ·rw [q];exact fun ρ u hu=>hu
    ·rw [q];unfold Wg;rw [q];exact fun ρ u hu=>z3g (.cons (Qd R6) (RLe.refl _)) ρ u hu
   ·unfold outW;cases j2n L0 x1 <;> rfl
  ·cases h
 ·cases h
def Vo2 :Specs:=(Vo1.with v4h fOut)
theorem Vo2_ok :Zv prog Vo2:=j4x z5z
theorem v7b {P:Program} {S:Specs} (hS:Zv P S) {f:FuncId} {F:List AVal→Option (AVal×Bool)} (hf:(P.funcs[f]?).any (fun fn=>fn.body.isSome)=true)
  (hF: ∀args v,F args=some (v,true)→ ∃a n g,args=[a]∧VLe a (.dat n g)∧
   (n=0→ ∃vs,(∀(ρ:Rho) (u:Value),Zt ρ (Un vs) u→Zt ρ v u)∧Uz P (Zy P f) (Zg P f [.nils] true []) vs∧ ∃d,pf d (Un vs)=true)∧
   ∃vs,(∀(ρ:Rho) (u:Value),Zt ρ (Un vs) u→Zt ρ v u)∧Uz P (Zy P f) (Zg P f [.nnl n g] true []) vs∧ ∃d,pf d (Un vs)=true):Zv P (S.with f F):=by
 intro k G hg;unfold Specs.with at hg;cases hgf:Nat.beq k f with
 | false=>rw [hgf] at hg;exact hS k G hg
 | true=>
  rw [hgf] at hg;obtain rfl:Spec.val F=G:=Ag hg;obtain rfl:k=f:=Aj hgf;refine ⟨by grind,fun args v hv H vals w dI hH=> ?_⟩;obtain ⟨a,n,g,rfl,hle,h0,h1⟩:=hF args v hv
  suffices hh: ∃b vs,Vz (Zt (z1k H)) [b] vals.toList∧(∀(ρ:Rho) (u:Value),Zt ρ (Un vs) u→Zt ρ v u)∧Uz P (Zy P k) (Zg P k [b] true []) vs∧ ∃d,pf d (Un vs)=true by
   obtain ⟨b,vs,hb,hw,⟨C',g1,g2,g3⟩,d,hp⟩:=hh;exact (goes_call hf g1 g2 (by rw [y3z];exact g3) hb hH).mono fun e w' ⟨ρ,u,he,ho⟩=>⟨ρ.fz,u,ho.le,ho.old,ho.same,he,hw _ _ (Jq d _ u hp ho.val),ho.below⟩
  generalize vals.toList=us at dI ⊢;cases dI with
  | cons hx hr=>
   obtain ⟨vs,hvs⟩:=h1;have hd:=hle.sound hx;cases hd with
   | datn=>obtain ⟨vs,hvs⟩:=h0 rfl;exact ⟨_,vs,.cons .nils hr,hvs⟩
   | datz=>exact ⟨_,vs,.cons (.nnl _ _ _ _ (hle.sound hx)) hr,hvs⟩
   | dat=>exact ⟨_,vs,.cons (.nnl _ _ _ _ (hle.sound hx)) hr,hvs⟩
inductive cl0S where
def cl0C :cl0S→Cfg
 :=nofun
def v6g :cl0S→Xx cl0S
 :=nofun
def w5b :Xx cl0S:=(.ret [.nils])
theorem w9i : ∀s,Xy prog (Zy prog 40) (cl0C) (cl0C s) (v6g s)
 :=nofun
theorem w1i :Xy prog (Zy prog 40) (cl0C) (Zg prog 40 [.nils] true []) (w5b):=(lr 8 40 [1,0,1,0,0] 1 9 [(2,.nils)] (sl Ka 15 [] ⟨[],[],[some [2]],[]⟩ ⟨[],[],[]⟩ [true] nn))
theorem u2m (n:Nat) (vs:List AVal) (h:Zr (v6g) n (w5b)=.ret vs):Uz prog (Zy prog 40) (Zg prog 40 [.nils] true []) vs:=by have:=Zd (w9i) n _ (w1i);rwa [h] at this
inductive cl1S where
def cl1C (l0:List R6):cl1S→Cfg
 :=nofun
def v6f (l0:List R6):cl1S→Xx cl1S
 :=nofun
def x2d (l0:List R6):Xx cl1S:=(bif (decide ((0+l0.length+1)*(48+1)≤room)) then (.ret [(.dat l0.length (Zz l0))]) else .stuck)
theorem w9h (l0:List R6): ∀s,Xy prog (Zy prog 40) (cl1C l0) (cl1C l0 s) (v6f l0 s)
 :=nofun
theorem w1h (l0:List R6):Xy prog (Zy prog 40) (cl1C l0) (Zg prog 40 [(.nnl l0.length (Zz l0))] true []) (x2d l0):=(lo fun o0=>(lr 8 3 [1,1,1,1,0] 1 9 [(2,(.dat l0.length (Zz l0)))] (sl Ka 19 [] ⟨[],[1],[some [2]],[]⟩ ⟨[(2,.frz (0+l0.length) l0.length (Vp (fun k=>(([]:List AVal).drop (k*6)).take 6) 0 (Zz l0)) (Zz l0))],[],[]⟩ [false] (pp (xZ (z1o 6 6 0 (0+l0.length) (0+l0.length) (Vp (fun k=>(([]:List AVal).drop (k*6)).take 6) 0 (Zz l0))) (0+l0.length) (Vp (fun k=>(([]:List AVal).drop (k*6)).take 6) 0 (Zz l0))) (pp (xL (0+l0.length) l0.length (Vt (Af _))) (pp (xS (0+l0.length) (Vp (fun k=>(([]:List AVal).drop (k*6)).take 6) 0 (Zz l0)) (Zz l0)) (pp (pp (xF (Vp (fun k=>(([]:List AVal).drop (k*6)).take 6) 0 (Zz l0))) nn) (pp (pp nn (pp (xG (y6b 6 l0.length (Zz l0))) (xw o0))) nn))))))))
theorem u2l (l0:List R6) (n:Nat) (vs:List AVal) (h:Zr (v6f l0) n (x2d l0)=.ret vs):Uz prog (Zy prog 40) (Zg prog 40 [(.nnl l0.length (Zz l0))] true []) vs:=by have:=Zd (w9h l0) n _ (w1h l0);rwa [h] at this
abbrev v4i :Nat:=40
abbrev w4g :Nat:=10
def v7a (l:List R6):List R6:=l
def z8q (l:List R6):Bool:=decide ((0+l.length+1)*(48+1)≤room)
def fClo :List AVal→Option (AVal×Bool)
 | [a0]=>match asL R6 a0 with
  | some (L0,g0,n0)=>some (.dat L0.length (Zz L0),isT R6 n0 g0&&(z8q L0))
  | _=>none
 | _=>none
theorem j5k {S:Specs} (hS:Zv prog S):Zv prog (S.with v4i fClo):=by
 refine v7b hS (by kernel_rfl) fun args v h=> ?_;unfold fClo at h;split at h
 ·rename_i a0;split at h
  ·rename_i L0 g0 n0 e0;simp only [Ae,Ad,Ac] at h;obtain ⟨rfl,ho0,hw⟩:=h;refine ⟨_,_,_,rfl,Yc e0 ho0,fun hz=>⟨[.nils],?_,u2m 0 _ rfl,3,rfl⟩,[.dat L0.length (Zz L0)],fun _ _ hu=>hu,u2l L0 0 _ ?_,3,rfl⟩
   ·intro ρ u hu;obtain rfl:=BA hz;exact (Qd R6).sound hu
   ·unfold x2d;unfold z8q at hw;rw [hw];rfl
  ·cases h
 ·cases h
def smQ (l:List Pa):Bool:=decide (50<l.length)||smP l
theorem smQ_of {l:List Pa} (h:smP l=true):smQ l=true:=by unfold smQ;rw [h,Bool.or_true]
def u9p (l:List Pa):Int:=z9g l
def z7f (l:List Pa):Bool:=smQ l
theorem u9o (l:List Pa) (h:z7f l=true): ∃n,Zr (Wr l) n (z4t l)=.ret [.int .i64 (u9p l)]:=by
 unfold u9p;by_cases g:50<l.length
 ·unfold z4t z9g;exact ⟨0,by rw [Yn (by omega),Al g];rfl⟩
 ·refine v1l l ?_;have h:smQ l=true:=h;unfold smQ at h;rwa [Az g,BL] at h
def fSkq :List AVal→Option (AVal×Bool)
 | [a0]=>match asL Pa a0 with
  | some (L0,g0,n0)=>some (.int .i64 (u9p L0),isT Pa n0 g0&&(z7f L0))
  | _=>none
 | _=>none
theorem j3x {S:Specs} (hS:Zv prog S):Zv prog (S.with x1h fSkq):=by
 refine Qe hS (by kernel_rfl) fun args v h=> ?_;unfold fSkq at h;split at h
 ·rename_i a0;split at h
  ·rename_i L0 g0 n0 e0;simp only [Ae,Ad,Ac] at h;obtain ⟨rfl,ho0,hw⟩:=h;obtain ⟨N,hN⟩:=u9o L0 hw;exact ⟨_,_,(.cons (Yc e0 ho0) .nil),rfl,w2s L0 N _ hN,3,rfl⟩
  ·cases h
 ·cases h
def Vo3 :Specs:=(Vo2.with v4i fClo).with x1h fSkq
theorem z4p :Zv prog Vo3:=j3x (j5k Vo2_ok)
inductive scoS where
 | h0 (v72:Int) (bF:List Pa)
def scoC (l0:List Pa) (x1:Int) (x2:Int):scoS→Cfg
 | .h0 v72 bF=>⟨⟨91,0,true⟩,none,(Zc prog 10 [1,1,1,1,1,1,1,1,1,0,1,0,0] 0),none,(Zy prog 10),⟨Yj [(1,(ii x1)),(11,(.dat (z2i .e (cvT (Wg (cvT (rd l0 (tn x1)).s) (wr ((1:Int)*2 ^ (min (tn x2) 64))))) (cvT ([(R6.mk (rd l0 (tn x1)).a (rd l0 (tn x1)).b (rd l0 (tn x1)).c (rd l0 (tn x1)).d (rd l0 (tn x1)).e (rd l0 (tn x1)).f)]:List R6))).length (Zz (z2i .e (cvT (Wg (cvT (rd l0 (tn x1)).s) (wr ((1:Int)*2 ^ (min (tn x2) 64))))) (cvT ([(R6.mk (rd l0 (tn x1)).a (rd l0 (tn x1)).b (rd l0 (tn x1)).c (rd l0 (tn x1)).d (rd l0 (tn x1)).e (rd l0 (tn x1)).f)]:List R6)))))),(12,(.sla 0 7 0 l0.length (.un 7))),(70,(.sla 0 7 0 l0.length (.un 7))),(71,(ii (l0.length:Int))),(72,(ii v72))],Wn [⟨Yk bF.length (Zz bF),59,some ⟨7,bF.length,(Zz bF)⟩⟩] 0,1,[],true⟩,[],.leaf⟩
def scoN0 :List (Option (List Nat)):=[some [1,11,12,70,71,72]]
def scoM0 :List (Option (List Nat)):=[]
def z3t (l0:List Pa) (x1:Int) (x2:Int):scoS→Xx scoS
 | .h0 v72 bF=>(bif (decide (v72<(l0.length:Int))) then (bif (z8q (cvT (rd bF (0+v72.toNat)).s)) then (bif ((decide (0≤v72∧v72<(l0.length:Int)))&&true) then (bif (decide ((0+v72.toNat)<bF.length)) then (.to (.h0 (wrap .i64 (v72+1)) (bF.set (0+v72.toNat) (Pa.mk (rd bF (0+v72.toNat)).a (rd bF (0+v72.toNat)).b (rd bF (0+v72.toNat)).c (rd bF (0+v72.toNat)).d (rd bF (0+v72.toNat)).e (rd bF (0+v72.toNat)).f (v7a (cvT (rd bF (0+v72.toNat)).s)))))) else .stuck) else .stuck) else .stuck) else (bif ((decide (0≤x1∧x1<(l0.length:Int)))&&true) then (bif (decide ((0+x1.toNat)<bF.length)) then (.ret [(z1o 7 7 0 l0.length bF.length (Yt (Zz bF) (0+x1.toNat) 6 [(.dat (z2i .e (cvT (Wg (cvT (rd l0 x1.toNat).s) (wrap .i64 ((1:Int)*2 ^ (min x2.toNat 64))))) (cvT ([(R6.mk (rd l0 x1.toNat).a (rd l0 x1.toNat).b (rd l0 x1.toNat).c (rd l0 x1.toNat).d (rd l0 x1.toNat).e (rd l0 x1.toNat).f)]:List R6))).length (Zz (z2i .e (cvT (Wg (cvT (rd l0 x1.toNat).s) (wrap .i64 ((1:Int)*2 ^ (min x2.toNat 64))))) (cvT ([(R6.mk (rd l0 x1.toNat).a (rd l0 x1.toNat).b (rd l0 x1.toNat).c (rd l0 x1.toNat).d (rd l0 x1.toNat).e (rd l0 x1.toNat).f)]:List R6)))))])),(.int .i64 0)]) else .stuck) else .stuck))
def y2c (l0:List Pa) (x1:Int) (x2:Int):Xx scoS:=(bif (z7f (cvT l0)) then (bif ((u9p (cvT l0)) != 0) then (.ret [.nils,(.int .i64 (u9p (cvT l0)))]) else (bif (decide (x1<0)) then (.ret [.nils,(.int .i64 2)]) else (bif (decide (x1≥(l0.length:Int))) then (.ret [.nils,(.int .i64 2)]) else (bif (decide (x2<0)) then (.ret [.nils,(.int .i64 2)]) else (bif (decide (x2>9)) then (.ret [.nils,(.int .i64 2)]) else (bif ((decide (0≤x1∧x1<(l0.length:Int)))&&true) then (bif (!decide (x2<0)) then (bif (y4t (cvT (rd l0 x1.toNat).s) (wrap .i64 ((1:Int)*2 ^ (min x2.toNat 64)))) then (bif ((Uo (cvT (rd l0 x1.toNat).s) (wrap .i64 ((1:Int)*2 ^ (min x2.toNat 64)))) != 0) then (.ret [.nils,(.int .i64 (Uo (cvT (rd l0 x1.toNat).s) (wrap .i64 ((1:Int)*2 ^ (min x2.toNat 64)))))]) else (bif (z4s .e (cvT (Wg (cvT (rd l0 x1.toNat).s) (wrap .i64 ((1:Int)*2 ^ (min x2.toNat 64))))) (cvT ([(R6.mk (rd l0 x1.toNat).a (rd l0 x1.toNat).b (rd l0 x1.toNat).c (rd l0 x1.toNat).d (rd l0 x1.toNat).e (rd l0 x1.toNat).f)]:List R6))) then (bif ((z3r .e (cvT (Wg (cvT (rd l0 x1.toNat).s) (wrap .i64 ((1:Int)*2 ^ (min x2.toNat 64))))) (cvT ([(R6.mk (rd l0 x1.toNat).a (rd l0 x1.toNat).b (rd l0 x1.toNat).c (rd l0 x1.toNat).d (rd l0 x1.toNat).e (rd l0 x1.toNat).f)]:List R6))) != 0) then (.ret [.nils,(.int .i64 (z3r .e (cvT (Wg (cvT (rd l0 x1.toNat).s) (wrap .i64 ((1:Int)*2 ^ (min x2.toNat 64))))) (cvT ([(R6.mk (rd l0 x1.toNat).a (rd l0 x1.toNat).b (rd l0 x1.toNat).c (rd l0 x1.toNat).d (rd l0 x1.toNat).e (rd l0 x1.toNat).f)]:List R6))))]) else (bif ((decide (0≤(l0.length:Int)))&&(decide ((l0.length:Int)≤(l0.length:Int)))&&(decide ((l0.length:Int)*72≤1099511627776))&&(decide ((l0.length:Int)≤1099511627776))) then (bif (decide (0+l0.length≤l0.length)) then (.to (.h0 0 l0)) else .stuck) else .stuck)) else .stuck)) else .stuck) else .stuck) else .stuck)))))) else .stuck)
theorem w6f (l0:List Pa) (x1:Int) (x2:Int): ∀s,Xy prog (Zy prog 10) (scoC l0 x1 x2) (scoC l0 x1 x2 s) (z3t l0 x1 x2 s)
 | .h0 v72 bF=>(lb (fun k0=>(lo fun o0=>(lo fun o1=>(lo fun o2=>(sl z4p 34 [] ⟨[0],[],scoN0,scoM0⟩ ⟨[],[.rowed 7 (bF.set (0+(tn v72)) (Pa.mk (rd bF (0+(tn v72))).a (rd bF (0+(tn v72))).b (rd bF (0+(tn v72))).c (rd bF (0+(tn v72))).d (rd bF (0+(tn v72))).e (rd bF (0+(tn v72))).f (v7a (cvT (rd bF (0+(tn v72))).s)))).length (Zz (bF.set (0+(tn v72)) (Pa.mk (rd bF (0+(tn v72))).a (rd bF (0+(tn v72))).b (rd bF (0+(tn v72))).c (rd bF (0+(tn v72))).d (rd bF (0+(tn v72))).e (rd bF (0+(tn v72))).f (v7a (cvT (rd bF (0+(tn v72))).s)))))],[]⟩ [true] (pp (xL bF.length (bF.set (0+(tn v72)) (Pa.mk (rd bF (0+(tn v72))).a (rd bF (0+(tn v72))).b (rd bF (0+(tn v72))).c (rd bF (0+(tn v72))).d (rd bF (0+(tn v72))).e (rd bF (0+(tn v72))).f (v7a (cvT (rd bF (0+(tn v72))).s)))).length) (pp (xS bF.length (Yt (Zz bF) (0+(tn v72)) 6 [(.dat (v7a (cvT (rd bF (0+(tn v72))).s)).length (Zz (v7a (cvT (rd bF (0+(tn v72))).s))))]) (Zz (bF.set (0+(tn v72)) (Pa.mk (rd bF (0+(tn v72))).a (rd bF (0+(tn v72))).b (rd bF (0+(tn v72))).c (rd bF (0+(tn v72))).d (rd bF (0+(tn v72))).e (rd bF (0+(tn v72))).f (v7a (cvT (rd bF (0+(tn v72))).s)))))) (pp (pp (xF (Yt (Zz bF) (0+(tn v72)) 6 [(.dat (v7a (cvT (rd bF (0+(tn v72))).s)).length (Zz (v7a (cvT (rd bF (0+(tn v72))).s))))])) nn) (ww o2 (ww o1 (pp (pp (xI R6 (rd bF (0+(tn v72))).s.length (Zz (rd bF (0+(tn v72))).s)) (xw o0)) (ww o2 (ww o1 (tt k0 nn)))))))))))))) (fun k0=>(lo fun o0=>(lo fun o1=>(lr 91 3 [1,1,1,1,0] 1 10 [(6,(z1o 7 7 0 l0.length bF.length (Yt (Zz bF) (0+(tn x1)) 6 [(.dat (z2i .e (cvT (Wg (cvT (rd l0 (tn x1)).s) (wr ((1:Int)*2 ^ (min (tn x2) 64))))) (cvT ([(R6.mk (rd l0 (tn x1)).a (rd l0 (tn x1)).b (rd l0 (tn x1)).c (rd l0 (tn x1)).d (rd l0 (tn x1)).e (rd l0 (tn x1)).f)]:List R6))).length (Zz (z2i .e (cvT (Wg (cvT (rd l0 (tn x1)).s) (wr ((1:Int)*2 ^ (min (tn x2) 64))))) (cvT ([(R6.mk (rd l0 (tn x1)).a (rd l0 (tn x1)).b (rd l0 (tn x1)).c (rd l0 (tn x1)).d (rd l0 (tn x1)).e (rd l0 (tn x1)).f)]:List R6)))))]))),(7,(ii 0))] (sl z4p 22 [] ⟨[],[0],[some [6,7]],[]⟩ ⟨[],[],[]⟩ [false] (pp (pp (xF (Yt (Zz bF) (0+(tn x1)) 6 [(.dat (z2i .e (cvT (Wg (cvT (rd l0 (tn x1)).s) (wr ((1:Int)*2 ^ (min (tn x2) 64))))) (cvT ([(R6.mk (rd l0 (tn x1)).a (rd l0 (tn x1)).b (rd l0 (tn x1)).c (rd l0 (tn x1)).d (rd l0 (tn x1)).e (rd l0 (tn x1)).f)]:List R6))).length (Zz (z2i .e (cvT (Wg (cvT (rd l0 (tn x1)).s) (wr ((1:Int)*2 ^ (min (tn x2) 64))))) (cvT ([(R6.mk (rd l0 (tn x1)).a (rd l0 (tn x1)).b (rd l0 (tn x1)).c (rd l0 (tn x1)).d (rd l0 (tn x1)).e (rd l0 (tn x1)).f)]:List R6)))))])) nn) (ww o1 (ww o0 (tt k0 nn))))))))))
theorem x6z (l0:List Pa) (x1:Int) (x2:Int):Xy prog (Zy prog 10) (scoC l0 x1 x2) (Zg prog 10 [(.dat l0.length (Zz l0)),(.int .i64 x1),(.int .i64 x2)] true []) (y2c l0 x1 x2):=(lo fun bH=>(lb (fun k0=>(lr 91 10 [1,0,1,1,0,0] 1 10 [(6,.nils),(7,(ii (u9p (cvT l0))))] (sl z4p 24 [] ⟨[],[],[some [6,7]],[]⟩ ⟨[],[],[]⟩ [true] (tt k0 (pp (pp (xr l0) (xw bH)) nn))))) (fun k0=>(lb (fun k1=>(lr 91 10 [1,1,0,1,0,0] 1 10 [(6,.nils),(7,(ii 2))] (sl z4p 45 [] ⟨[],[],[some [6,7]],[]⟩ ⟨[],[],[]⟩ [false,true,true,true,true,true,true,true,true,true] (tt k1 (tt k0 (pp (pp (xr l0) (xw bH)) nn)))))) (fun k1=>(lb (fun k2=>(lr 91 10 [1,1,0,1,0,0] 1 10 [(6,.nils),(7,(ii 2))] (sl z4p 45 [] ⟨[],[],[some [6,7]],[]⟩ ⟨[],[],[]⟩ [false,false,false,false,false,true,true,true,true,true] (tt k2 (tt k1 (tt k0 (pp (pp (xr l0) (xw bH)) nn))))))) (fun k2=>(lb (fun k3=>(lr 91 10 [1,1,0,1,0,0] 1 10 [(6,.nils),(7,(ii 2))] (sl z4p 45 [] ⟨[],[],[some [6,7]],[]⟩ ⟨[],[],[]⟩ [false,false,false,false,false,false,false,true,true,true] (tt k3 (tt k2 (tt k1 (tt k0 (pp (pp (xr l0) (xw bH)) nn)))))))) (fun k3=>(lb (fun k4=>(lr 91 10 [1,1,0,1,0,0] 1 10 [(6,.nils),(7,(ii 2))] (sl z4p 45 [] ⟨[],[],[some [6,7]],[]⟩ ⟨[],[],[]⟩ [false,false,false,false,false,false,false,false,false,true] (tt k4 (tt k3 (tt k2 (tt k1 (tt k0 (pp (pp (xr l0) (xw bH)) nn))))))))) (fun k4=>(lo fun cN=>(lo fun dA=>(lo fun dE=>(lb (fun k5=>(lr 91 10 [1,1,1,1,0,1,0,0] 1 10 [(6,.nils),(7,(ii (Uo (cvT (rd l0 (tn x1)).s) (wr ((1:Int)*2 ^ (min (tn x2) 64))))))] (sl z4p 56 [] ⟨[],[],[some [6,7]],[]⟩ ⟨[],[],[]⟩ [false,false,false,false,false,false,false,false,false,false,true] (tt k5 (pp (pp (xI R6 (rd l0 (tn x1)).s.length (Zz (rd l0 (tn x1)).s)) (xw dE)) (ww dA (ww cN (tt k4 (tt k3 (tt k2 (tt k1 (tt k0 (pp (pp (xr l0) (xw bH)) nn))))))))))))) (fun k5=>(Wy (sl z4p (C':=⟨⟨91,0,true⟩,(Vk prog 10 [1,1,1,1,1,0] 7),(Zc prog 10 [1,1,1,1,1,0] 1),none,(Zy prog 10),⟨Yj [(0,(.dat l0.length (Zz l0))),(1,(ii x1)),(51,(.dat (Wg (cvT (rd l0 (tn x1)).s) (wr ((1:Int)*2 ^ (min (tn x2) 64)))).length (Zz (Wg (cvT (rd l0 (tn x1)).s) (wr ((1:Int)*2 ^ (min (tn x2) 64))))))),(57,(.dat ([(R6.mk (rd l0 (tn x1)).a (rd l0 (tn x1)).b (rd l0 (tn x1)).c (rd l0 (tn x1)).d (rd l0 (tn x1)).e (rd l0 (tn x1)).f)]:List R6).length (Zz ([(R6.mk (rd l0 (tn x1)).a (rd l0 (tn x1)).b (rd l0 (tn x1)).c (rd l0 (tn x1)).d (rd l0 (tn x1)).e (rd l0 (tn x1)).f)]:List R6))))],Wn [] 0,0,[],true⟩,[],.leaf⟩) 60 [] ⟨[],[0],[some [0,1,51,57]],[]⟩ ⟨[(57,.frz 1 ([(R6.mk (rd l0 (tn x1)).a (rd l0 (tn x1)).b (rd l0 (tn x1)).c (rd l0 (tn x1)).d (rd l0 (tn x1)).e (rd l0 (tn x1)).f)]:List R6).length (z5m [(ii (rd l0 (tn x1)).a),(ii (rd l0 (tn x1)).b),(ii (rd l0 (tn x1)).c),(ii (rd l0 (tn x1)).d),(ii (rd l0 (tn x1)).e),(ii (rd l0 (tn x1)).f)] 0 6) (Zz ([(R6.mk (rd l0 (tn x1)).a (rd l0 (tn x1)).b (rd l0 (tn x1)).c (rd l0 (tn x1)).d (rd l0 (tn x1)).e (rd l0 (tn x1)).f)]:List R6)))],[],[]⟩ [false,false,false,false,false,false,false,false,false,false,false] (pp (xZ (.dat 1 (z5m [(ii (rd l0 (tn x1)).a),(ii (rd l0 (tn x1)).b),(ii (rd l0 (tn x1)).c),(ii (rd l0 (tn x1)).d),(ii (rd l0 (tn x1)).e),(ii (rd l0 (tn x1)).f)] 0 6)) 1 (z5m [(ii (rd l0 (tn x1)).a),(ii (rd l0 (tn x1)).b),(ii (rd l0 (tn x1)).c),(ii (rd l0 (tn x1)).d),(ii (rd l0 (tn x1)).e),(ii (rd l0 (tn x1)).f)] 0 6)) (pp (xL 1 ([(R6.mk (rd l0 (tn x1)).a (rd l0 (tn x1)).b (rd l0 (tn x1)).c (rd l0 (tn x1)).d (rd l0 (tn x1)).e (rd l0 (tn x1)).f)]:List R6).length) (pp (xS 1 (z5m [(ii (rd l0 (tn x1)).a),(ii (rd l0 (tn x1)).b),(ii (rd l0 (tn x1)).c),(ii (rd l0 (tn x1)).d),(ii (rd l0 (tn x1)).e),(ii (rd l0 (tn x1)).f)] 0 6) (Zz ([(R6.mk (rd l0 (tn x1)).a (rd l0 (tn x1)).b (rd l0 (tn x1)).c (rd l0 (tn x1)).d (rd l0 (tn x1)).e (rd l0 (tn x1)).f)]:List R6))) (ww cN (tt k5 (pp (pp (xI R6 (rd l0 (tn x1)).s.length (Zz (rd l0 (tn x1)).s)) (xw dE)) (ww dA (ww cN (tt k4 (tt k3 (tt k2 (tt k1 (tt k0 (pp (pp (xr l0) (xw bH)) nn))))))))))))))) (lo fun cX=>(lb (fun k6=>(lr 91 10 [1,1,1,1,1,1,0,1,0,0] 1 10 [(6,.nils),(7,(ii (z3r .e (cvT (Wg (cvT (rd l0 (tn x1)).s) (wr ((1:Int)*2 ^ (min (tn x2) 64))))) (cvT ([(R6.mk (rd l0 (tn x1)).a (rd l0 (tn x1)).b (rd l0 (tn x1)).c (rd l0 (tn x1)).d (rd l0 (tn x1)).e (rd l0 (tn x1)).f)]:List R6)))))] (sl z4p 20 [] ⟨[],[],[some [6,7]],[]⟩ ⟨[],[],[]⟩ [true] (tt k6 (pp (pp (xI R6 (Wg (cvT (rd l0 (tn x1)).s) (wr ((1:Int)*2 ^ (min (tn x2) 64)))).length (Zz (Wg (cvT (rd l0 (tn x1)).s) (wr ((1:Int)*2 ^ (min (tn x2) 64)))))) (pp (xI R6 ([(R6.mk (rd l0 (tn x1)).a (rd l0 (tn x1)).b (rd l0 (tn x1)).c (rd l0 (tn x1)).d (rd l0 (tn x1)).e (rd l0 (tn x1)).f)]:List R6).length (Zz ([(R6.mk (rd l0 (tn x1)).a (rd l0 (tn x1)).b (rd l0 (tn x1)).c (rd l0 (tn x1)).d (rd l0 (tn x1)).e (rd l0 (tn x1)).f)]:List R6))) (xw cX))) nn))))) (fun k6=>(lo fun o0=>(lo fun o1=>(sl z4p 37 [] ⟨[0],[],scoN0,scoM0⟩ ⟨[],[.rowed 7 l0.length (Zz l0)],[]⟩ [false,false] (pp (xL l0.length l0.length) (pp (xS l0.length (Vg (fun _=>[(ii 0),(ii 0),(ii 0),(ii 0),(ii 0),(ii 0),.nils]) 0 (Nat.min l0.length l0.length) (Zz l0)) (Zz l0)) (pp (pp (xF (Vg (fun _=>[(ii 0),(ii 0),(ii 0),(ii 0),(ii 0),(ii 0),.nils]) 0 (Nat.min l0.length l0.length) (Zz l0))) nn) (pp (pp (xG (Nat.beq 7 7)) (pp (xG (Nat.beq 7 7)) (pp (xw o1) (xG (y6b 7 l0.length (Zz l0)))))) (ww o0 (tt k6 (pp (pp (xI R6 (Wg (cvT (rd l0 (tn x1)).s) (wr ((1:Int)*2 ^ (min (tn x2) 64)))).length (Zz (Wg (cvT (rd l0 (tn x1)).s) (wr ((1:Int)*2 ^ (min (tn x2) 64)))))) (pp (xI R6 ([(R6.mk (rd l0 (tn x1)).a (rd l0 (tn x1)).b (rd l0 (tn x1)).c (rd l0 (tn x1)).d (rd l0 (tn x1)).e (rd l0 (tn x1)).f)]:List R6).length (Zz ([(R6.mk (rd l0 (tn x1)).a (rd l0 (tn x1)).b (rd l0 (tn x1)).c (rd l0 (tn x1)).d (rd l0 (tn x1)).e (rd l0 (tn x1)).f)]:List R6))) (xw cX))) nn))))))))))))))))))))))))))))))
theorem v8c (l0:List Pa) (x1:Int) (x2:Int) (n:Nat) (vs:List AVal) (h:Zr (z3t l0 x1 x2) n (y2c l0 x1 x2)=.ret vs):Uz prog (Zy prog 10) (Zg prog 10 [(.dat l0.length (Zz l0)),(.int .i64 x1),(.int .i64 x2)] true []) vs:=by have:=Zd (w6f l0 x1 x2) n _ (x6z l0 x1 x2);rwa [h] at this
def x1e (k:Int):Int:=wrap .i64 ((1:Int)*2 ^ (min k.toNat 64))
def coO (l:List Pa) (i k:Int):List R6:=Wg (rd l i.toNat).s (x1e k)
def coS (l:List Pa) (i k:Int):List R6:=z2i .e (coO l i k) [bxP (rd l i.toNat)]
def Wp (l:List Pa) (i k:Int):Int:=bif z9g l != 0 then z9g l else bif decide (i<0)||(decide (i≥(l.length:Int))||(decide (k<0)||decide (k>9))) then 2 else bif Uo (rd l i.toNat).s (x1e k) != 0 then Uo (rd l i.toNat).s (x1e k) else z3r .e (coO l i k) [bxP (rd l i.toNat)]
def paS (x:Pa) (s:List R6):Pa:=⟨x.a,x.b,x.c,x.d,x.e,x.f,s⟩
def Vx (l:List Pa) (i k:Int):List Pa:=bif Wp l i k != 0 then [] else l.set i.toNat (paS (rd l i.toNat) (coS l i k))
def z7g (l:List Pa) (i k:Int):Bool:=smQ l
theorem set_rd (l:List Pa) (i:Nat):l.set i (Pa.mk (rd l i).a (rd l i).b (rd l i).c (rd l i).d (rd l i).e (rd l i).f (v7a (rd l i).s))=l:=by
 by_cases h:i<l.length
 ·rw [Xz h];exact List.set_getElem_self h
 ·exact List.set_eq_of_length_le (by omega)
def coR (l:List Pa) (i k:Int):List AVal:=[z1o 7 7 0 l.length l.length (Yt (Zz l) (0+i.toNat) 6 [.dat (coS l i k).length (Zz (coS l i k))]),.int .i64 0]
theorem coR_le {l:List Pa} {i k:Int} (h0:Wp l i k=0) (ρ:Rho) (u:Value) (hu:Zt ρ (Un (coR l i k)) u):Zt ρ (.tup [.dat (Vx l i k).length (Zz (Vx l i k)),.int .i64 (Wp l i k)]) u:=by
 unfold coR at hu;rw [w0i] at hu;unfold Vx;rw [h0];show Zt ρ (.tup [.dat (l.set i.toNat (paS (rd l i.toNat) (coS l i k))).length (Zz (l.set i.toNat (paS (rd l i.toNat) (coS l i k)))),.int .i64 0]) u;rw [BF];have q:Je l.length (Yt (Zz l) i.toNat 6 [.dat (coS l i k).length (Zz (coS l i k))]) (Zz (l.set i.toNat (paS (rd l i.toNat) (coS l i k))))=true:=by refine x0r (y2f _ _) rfl rfl
 rw [Af] at hu;exact z3g (.cons (.dat _ _ _ (Ut q)) (RLe.refl _)) ρ u hu
theorem u4i {l:List Pa} {x1 x2:Int} (hs:smP l=true) (h1:0≤x1∧x1<(l.length:Int)): ∀(k i:Nat),i+k=l.length→ ∃n,Zr (z3t l x1 x2) n (.to (.h0 (i:Int) l))=.ret (coR l x1 x2)
 | 0,i,h=>by refine ⟨1,?_⟩;rw [Zw];simp (disch:=omega) only [z3t,Zb,Yb,Zn,Ah,Ab,Aa];rw [Al (show 0+x1.toNat<l.length by omega),Ab,Zq];rfl
 | k+1,i,h=>by
  have hi:i<l.length:=by omega
  have hl:=z6d hs;have hc:z8q (rd l i).s =true:=Al (by have:=w2m hs hi;unfold room;omega);obtain ⟨n,hn⟩:=u4i (x1:=x1) (x2:=x2) hs h1 k (i+1) (by omega);refine ⟨n+1,?_⟩;rw [Zw];simp (disch:=omega) only [z3t,Zb,Zk,Af,hc,Zs,Zn,Zj,Zx,Ah,Ab];rw [Al hi,Ab,set_rd];exact hn
theorem j0a (l:List Pa) (x1 x2:Int) (h:z7g l x1 x2=true): ∃N vs,Zr (z3t l x1 x2) N (y2c l x1 x2)=.ret vs∧(∀(ρ:Rho) (u:Value),Zt ρ (Un vs) u→Zt ρ (.tup [.dat (Vx l x1 x2).length (Zz (Vx l x1 x2)),.int .i64 (Wp l x1 x2)]) u)∧pf 3 (Un vs)=true:=by
 have hq:smQ l=true:=h;have er: ∀e:Int,e≠0→Wp l x1 x2=e→ ∀(ρ:Rho) (u:Value),Zt ρ (.tup [.nils,.int .i64 e]) u→Zt ρ (.tup [.dat (Vx l x1 x2).length (Zz (Vx l x1 x2)),.int .i64 (Wp l x1 x2)]) u:=fun e he h1 ρ u hu=>by unfold Vx;rw [h1,show (e != 0)=true from BN.2 he,Ab];exact z3g (.cons (Qd Pa) (RLe.refl _)) ρ u hu
 unfold y2c;simp only [Zb,show z7f l=true from hq,show u9p l=z9g l from rfl,Ab];rcases Yy (z9g l != 0) with a | a
 ·refine ⟨0,[.nils,.int .i64 _],by rw [a];rfl,er _ (BN.1 a) (by unfold Wp;rw [a];rfl),rfl⟩
 have hs:smP l=true:=by
  unfold smQ at hq;by_cases g:50<l.length
  ·unfold z9g at a;rw [Al g] at a;cases a
  ·rwa [Az g,BL] at hq
 have hl:=z6d hs;rw [a,Aa];rcases Yy (decide (x1<0)) with b | b
 ·refine ⟨0,[.nils,.int .i64 _],by rw [b];rfl,er 2 (by decide) (by unfold Wp;rw [a,b];rfl),rfl⟩
 rw [b,Aa];rcases Yy (decide (x1≥(l.length:Int))) with c | c
 ·refine ⟨0,[.nils,.int .i64 _],by rw [c];rfl,er 2 (by decide) (by unfold Wp;rw [a,b,c];rfl),rfl⟩
 rw [c,Aa];rcases Yy (decide (x2<0)) with d | d
 ·refine ⟨0,[.nils,.int .i64 _],by rw [d];rfl,er 2 (by decide) (by unfold Wp;rw [a,b,c,d];rfl),rfl⟩
 rw [d,Aa];rcases Yy (decide (x2>9)) with e | e
 ·refine ⟨0,[.nils,.int .i64 _],by rw [e];rfl,er 2 (by decide) (by unfold Wp;rw [a,b,c,d,e];rfl),rfl⟩
 rw [e,Aa];have h1:0≤x1∧x1<(l.length:Int):=by have:=AX b;have:=AX c;omega
 rw [Al h1];simp only [Ay,Ah,Ab,show∀L n,y4t L n=true from fun _ _=>rfl];have ev:Wp l x1 x2=bif Uo (rd l x1.toNat).s (x1e x2) != 0 then Uo (rd l x1.toNat).s (x1e x2) else z3r .e (coO l x1 x2) [bxP (rd l x1.toNat)]:=by unfold Wp;rw [a,b,c,d,e];rfl
 show∃N vs,Zr (z3t l x1 x2) N (bif Uo (rd l x1.toNat).s (x1e x2) != 0 then _ else _)=.ret vs∧_;rcases Yy (Uo (rd l x1.toNat).s (x1e x2) != 0) with f | f
 ·refine ⟨0,[.nils,.int .i64 _],by rw [f];rfl,er _ (BN.1 f) (by rw [ev,f];rfl),rfl⟩
 rw [f,Aa] at ev ⊢;simp only [show∀q a b,z4s q a b=true from fun _ _ _=>rfl,Ab];show∃N vs,Zr (z3t l x1 x2) N (bif z3r .e (coO l x1 x2) [bxP (rd l x1.toNat)] != 0 then _ else _)=.ret vs∧_;rcases Yy (z3r .e (coO l x1 x2) [bxP (rd l x1.toNat)] != 0) with g | g
 ·refine ⟨0,[.nils,.int .i64 _],by rw [g];rfl,er _ (BN.1 g) ev,rfl⟩
 rw [g,Aa];have h0:Wp l x1 x2=0:=by rw [ev];exact Decidable.not_not.1 (bne_eq_false_iff_eq.1 g |> fun z=>not_not_intro z)
 obtain ⟨n,hn⟩:=u4i (l:=l) (x1:=x1) (x2:=x2) hs h1 l.length 0 (Af _);refine ⟨n,coR l x1 x2,?_,coR_le h0,by unfold coR;rw [w0i];rfl⟩;rw [Al (show (0:Int)≤(l.length:Int) by omega),Al (show (l.length:Int)≤(l.length:Int) by omega),Al (show (l.length:Int)*72≤1099511627776 by omega),Al (show (l.length:Int)≤1099511627776 by omega),Al (show 0+l.length≤l.length by omega)];exact hn
def fSco :List AVal→Option (AVal×Bool)
 | [a0,.int .i64 x1,.int .i64 x2]=>match asL Pa a0 with
  | some (L0,g0,n0)=>some (.tup [.dat (Vx L0 x1 x2).length (Zz (Vx L0 x1 x2)),.int .i64 (Wp L0 x1 x2)],isT Pa n0 g0&&(z7g L0 x1 x2))
  | _=>none
 | _=>none
theorem j4a {S:Specs} (hS:Zv prog S):Zv prog (S.with w4g fSco):=by
 refine x6d hS (by kernel_rfl) fun args v h=> ?_;unfold fSco at h;split at h
 ·rename_i a0 x1 x2;split at h
  ·rename_i L0 g0 n0 e0;simp only [Ae,Ad,Ac] at h;obtain ⟨rfl,ho0,hw⟩:=h;obtain ⟨N,vs,hN,hle,hp⟩:=j0a L0 x1 x2 hw;exact ⟨_,vs,(.cons (Yc e0 ho0) (.cons (.refl _) (.cons (.refl _) .nil))),hle,v8c L0 x1 x2 N _ hN,3,hp⟩
  ·cases h
 ·cases h
def dbl :Nat→Int→Int
 | 0,n=>n
 | k+1,n=>dbl k (wrap .i64 (2*n))
theorem u4z {L:List R6} {x:Int} (hx:x≤9): ∀(k:Nat) (i n:Int),0≤i→i+k=x→ ∃N,Zr (z9h L x) N (.to (.h0 n i))=.ret [.dat (Qn L (dbl k n)).length (Zz (Qn L (dbl k n))),.int .i64 (z5q L (dbl k n))]
 | 0,i,n,hi,h=>by refine ⟨1,?_⟩;rw [Zw];simp (disch:=omega) only [z9h,Yb,Zb,show∀l n,y4l l n=true from fun _ _=>rfl,Ab,Aa,Zq,dbl]
 | k+1,i,n,hi,h=>by obtain ⟨N,hN⟩:=u4z (L:=L) hx k (i+1) (wrap .i64 (2*n)) (by omega) (by omega);have hw:wrap .i64 (i+1)=i+1:=Zj (by omega);refine ⟨N+1,?_⟩;rw [Zw];simp (disch:=omega) only [z9h,Zs,hw,Ab];exact hN
def j0u (L:List R6) (k:Int):Bool:=(Xm L == 0)&&(!decide (k<0)&& !decide (k>9))
def Xn (L:List R6) (k:Int):List R6:=bif j0u L k then Qn L (dbl k.toNat 1) else []
def z3i (L:List R6) (k:Int):Int:=bif Xm L != 0 then Xm L else bif decide (k<0)||decide (k>9) then 2 else z5q L (dbl k.toNat 1)
def y4k (L:List R6) (k:Int):Bool:=true
def rpkW (L:List R6) (k:Int):List AVal:=bif j0u L k then [.dat (Xn L k).length (Zz (Xn L k)),.int .i64 (z3i L k)] else [.nils,.int .i64 (z3i L k)]
theorem j0s (L:List R6) (k:Int): ∃N,Zr (z9h L k) N (y2l L k)=.ret (rpkW L k):=by
 have hk:(Xm L != 0)= !(Xm L == 0):=rfl;unfold y2l rpkW Xn z3i j0u;simp only [Zb,show∀l,Vs l=true from fun _=>rfl,Ab,hk];rcases Yy (Xm L == 0) with a | a
 ·rcases Yy (decide (k<0)) with b | b
  ·refine ⟨0,?_⟩;rw [a,b];rfl
  ·rcases Yy (decide (k>9)) with c | c
   ·refine ⟨0,?_⟩;rw [a,b,c];rfl
   ·have hb:=AX b;have hc:=AX c;obtain ⟨N,hN⟩:=u4z (L:=L) (x:=k) (by omega) k.toNat 0 1 (by omega) (by omega);refine ⟨N,?_⟩;rw [a,b,c];exact hN
 ·refine ⟨0,?_⟩;rw [a];rfl
def fRpk :List AVal→Option (AVal×Bool)
 | [a0,.int .i64 x1]=>match asL R6 a0 with
  | some (L0,g0,n0)=>some (.tup [.dat (Xn L0 x1).length (Zz (Xn L0 x1)),.int .i64 (z3i L0 x1)],isT R6 n0 g0&&y4k L0 x1)
  | _=>none
 | _=>none
theorem j4f {S:Specs} (hS:Zv prog S):Zv prog (S.with w4a fRpk):=by
 refine x6d hS (by kernel_rfl) fun args v h=> ?_;unfold fRpk at h;split at h
 ·rename_i a0 x1;split at h
  ·rename_i L0 g0 n0 e0;simp only [Ae,Ad,Ac] at h;obtain ⟨rfl,ho0,hw⟩:=h;obtain ⟨N,hN⟩:=j0s L0 x1;refine ⟨_,rpkW L0 x1,(.cons (Yc e0 ho0) (.cons (.refl _) .nil)),?_,v8u L0 x1 N _ hN,3,?_⟩
   ·unfold rpkW;rcases Yy (j0u L0 x1) with q | q
    ·rw [q];exact fun ρ u hu=>hu
    ·rw [q];unfold Xn;rw [q];exact fun ρ u hu=>z3g (.cons (Qd R6) (RLe.refl _)) ρ u hu
   ·unfold rpkW;cases j0u L0 x1 <;> rfl
  ·cases h
 ·cases h
def j1e (l:List Pa):Int:=y6y l
def z7o (l:List Pa):Bool:=smQ l
theorem j1d (l:List Pa) (h:z7o l=true): ∃n,Zr (Ws l) n (z4x l)=.ret [.int .i64 (j1e l)]:=by
 unfold j1e;by_cases g:50<l.length
 ·unfold z4x y6y;exact ⟨0,by rw [Yn (by omega),Al g];rfl⟩
 ·refine v2m l ?_;have h:smQ l=true:=h;unfold smQ at h;rwa [Az g,BL] at h
def fRlk :List AVal→Option (AVal×Bool)
 | [a0]=>match asL Pa a0 with
  | some (L0,g0,n0)=>some (.int .i64 (j1e L0),isT Pa n0 g0&&(z7o L0))
  | _=>none
 | _=>none
theorem j4m {S:Specs} (hS:Zv prog S):Zv prog (S.with nRlc fRlk):=by
 refine Qe hS (by kernel_rfl) fun args v h=> ?_;unfold fRlk at h;split at h
 ·rename_i a0;split at h
  ·rename_i L0 g0 n0 e0;simp only [Ae,Ad,Ac] at h;obtain ⟨rfl,ho0,hw⟩:=h;obtain ⟨N,hN⟩:=j1d L0 hw;exact ⟨_,_,(.cons (Yc e0 ho0) .nil),rfl,w3b L0 N _ hN,3,rfl⟩
  ·cases h
 ·cases h
def X2 :Specs:=(X1.with w4a fRpk).with nRlc fRlk
theorem y6u :Zv prog X2:=j4m (j4f w2f)
inductive rloS where
 | h0 (v3:List Pa) (v4:Int)
def rloC (l0:List Pa) (x1:Int) (x2:Int):rloS→Cfg
 | .h0 v3 v4=>⟨⟨27,0,true⟩,none,(Zc prog 13 [1,1,0,1,0,0] 0),none,(Zy prog 9),⟨Yj [(0,(.dat l0.length (Zz l0))),(3,(.sla 0 7 0 v3.length (.un 7))),(4,(ii v4))],Wn [⟨Yk v3.length (Zz v3),59,some ⟨7,v3.length,(Zz v3)⟩⟩] 0,1,[],true⟩,[⟨⟨68,0,true⟩,(Vk prog 11 [1,1,1,1,1,1,1,0] 1),(Zc prog 11 [1,1,1,1,1,1,1,0] 1),none,(Zy prog 10),Yj [(1,(ii x1)),(10,(.dat (Wm 1 (cvT (Xn (cvT (rd l0 (tn x1)).s) x2)) (cvT ([(R6.mk (rd l0 (tn x1)).a (rd l0 (tn x1)).b (rd l0 (tn x1)).c (rd l0 (tn x1)).d (rd l0 (tn x1)).e (rd l0 (tn x1)).f)]:List R6))).length (Zz (Wm 1 (cvT (Xn (cvT (rd l0 (tn x1)).s) x2)) (cvT ([(R6.mk (rd l0 (tn x1)).a (rd l0 (tn x1)).b (rd l0 (tn x1)).c (rd l0 (tn x1)).d (rd l0 (tn x1)).e (rd l0 (tn x1)).f)]:List R6)))))),(60,(.dat l0.length (Zz l0)))]⟩],.leaf⟩
def rloN0 :List (Option (List Nat)):=[some [0,3,4],some [1,10,60]]
def rloM0 :List (Option (List Nat)):=[]
def z6m (l0:List Pa) (x1:Int) (x2:Int):rloS→Xx rloS
 | .h0 v3 v4=>(bif (decide (v4<(l0.length:Int))) then (bif ((decide (0≤v4∧v4<(l0.length:Int)))&&true) then (bif (z7b (cvT (rd l0 v4.toNat).s)) then (bif (Nat.beq 7 7&&((decide (0+v3.length=v3.length))&&decide ((v3.length+1+1)*(72+1)≤room))) then (.to (.h0 (v3++[(Pa.mk (rd l0 v4.toNat).a (rd l0 v4.toNat).b (rd l0 v4.toNat).c (rd l0 v4.toNat).d (rd l0 v4.toNat).e (rd l0 v4.toNat).f (x6b (cvT (rd l0 v4.toNat).s)))]) (wrap .i64 (v4+1)))) else .stuck) else .stuck) else .stuck) else (bif ((decide (0≤x1∧x1<(v3.length:Int)))&&true) then (bif (decide ((0+x1.toNat)<v3.length)) then (.ret [(.dat (v3.set (0+x1.toNat) (Pa.mk (rd v3 (0+x1.toNat)).a (rd v3 (0+x1.toNat)).b (rd v3 (0+x1.toNat)).c (rd v3 (0+x1.toNat)).d (rd v3 (0+x1.toNat)).e (rd v3 (0+x1.toNat)).f (Wm 1 (cvT (Xn (cvT (rd l0 x1.toNat).s) x2)) (cvT ([(R6.mk (rd l0 x1.toNat).a (rd l0 x1.toNat).b (rd l0 x1.toNat).c (rd l0 x1.toNat).d (rd l0 x1.toNat).e (rd l0 x1.toNat).f)]:List R6))))).length (Zz (v3.set (0+x1.toNat) (Pa.mk (rd v3 (0+x1.toNat)).a (rd v3 (0+x1.toNat)).b (rd v3 (0+x1.toNat)).c (rd v3 (0+x1.toNat)).d (rd v3 (0+x1.toNat)).e (rd v3 (0+x1.toNat)).f (Wm 1 (cvT (Xn (cvT (rd l0 x1.toNat).s) x2)) (cvT ([(R6.mk (rd l0 x1.toNat).a (rd l0 x1.toNat).b (rd l0 x1.toNat).c (rd l0 x1.toNat).d (rd l0 x1.toNat).e (rd l0 x1.toNat).f)]:List R6))))))),(.int .i64 0)]) else .stuck) else .stuck))
def y2s (l0:List Pa) (x1:Int) (x2:Int):Xx rloS:=(bif (z7o (cvT l0)) then (bif ((j1e (cvT l0)) != 0) then (.ret [.nils,(.int .i64 (j1e (cvT l0)))]) else (bif (decide (x1<0)) then (.ret [.nils,(.int .i64 2)]) else (bif (decide (x1≥(l0.length:Int))) then (.ret [.nils,(.int .i64 2)]) else (bif (decide (x2<0)) then (.ret [.nils,(.int .i64 2)]) else (bif (decide (x2>9)) then (.ret [.nils,(.int .i64 2)]) else (bif ((decide (0≤x1∧x1<(l0.length:Int)))&&true) then (bif (y4k (cvT (rd l0 x1.toNat).s) x2) then (bif ((z3i (cvT (rd l0 x1.toNat).s) x2) != 0) then (.ret [.nils,(.int .i64 (z3i (cvT (rd l0 x1.toNat).s) x2))]) else (bif (z0m 1 (cvT (Xn (cvT (rd l0 x1.toNat).s) x2)) (cvT ([(R6.mk (rd l0 x1.toNat).a (rd l0 x1.toNat).b (rd l0 x1.toNat).c (rd l0 x1.toNat).d (rd l0 x1.toNat).e (rd l0 x1.toNat).f)]:List R6))) then (bif ((Uw 1 (cvT (Xn (cvT (rd l0 x1.toNat).s) x2)) (cvT ([(R6.mk (rd l0 x1.toNat).a (rd l0 x1.toNat).b (rd l0 x1.toNat).c (rd l0 x1.toNat).d (rd l0 x1.toNat).e (rd l0 x1.toNat).f)]:List R6))) != 0) then (.ret [.nils,(.int .i64 (Uw 1 (cvT (Xn (cvT (rd l0 x1.toNat).s) x2)) (cvT ([(R6.mk (rd l0 x1.toNat).a (rd l0 x1.toNat).b (rd l0 x1.toNat).c (rd l0 x1.toNat).d (rd l0 x1.toNat).e (rd l0 x1.toNat).f)]:List R6))))]) else (.to (.h0 ([]:List Pa) 0))) else .stuck)) else .stuck) else .stuck)))))) else .stuck)
theorem w6y (l0:List Pa) (x1:Int) (x2:Int): ∀s,Xy prog (Zy prog 11) (rloC l0 x1 x2) (rloC l0 x1 x2 s) (z6m l0 x1 x2 s)
 | .h0 v3 v4=>(lb (fun k0=>(lo fun o0=>(lo fun o1=>(lo fun o2=>(sl y6u 20 [] ⟨[2],[],rloN0,rloM0⟩ ⟨[(3,.len (v3++[(Pa.mk (rd l0 (tn v4)).a (rd l0 (tn v4)).b (rd l0 (tn v4)).c (rd l0 (tn v4)).d (rd l0 (tn v4)).e (rd l0 (tn v4)).f (x6b (cvT (rd l0 (tn v4)).s)))]).length)],[.rowed 7 (v3++[(Pa.mk (rd l0 (tn v4)).a (rd l0 (tn v4)).b (rd l0 (tn v4)).c (rd l0 (tn v4)).d (rd l0 (tn v4)).e (rd l0 (tn v4)).f (x6b (cvT (rd l0 (tn v4)).s)))]).length (Zz (v3++[(Pa.mk (rd l0 (tn v4)).a (rd l0 (tn v4)).b (rd l0 (tn v4)).c (rd l0 (tn v4)).d (rd l0 (tn v4)).e (rd l0 (tn v4)).f (x6b (cvT (rd l0 (tn v4)).s)))]))],[]⟩ [true] (pp (xL (v3.length+1) (v3++[(Pa.mk (rd l0 (tn v4)).a (rd l0 (tn v4)).b (rd l0 (tn v4)).c (rd l0 (tn v4)).d (rd l0 (tn v4)).e (rd l0 (tn v4)).f (x6b (cvT (rd l0 (tn v4)).s)))]).length) (pp (xL (v3.length+1) (v3++[(Pa.mk (rd l0 (tn v4)).a (rd l0 (tn v4)).b (rd l0 (tn v4)).c (rd l0 (tn v4)).d (rd l0 (tn v4)).e (rd l0 (tn v4)).f (x6b (cvT (rd l0 (tn v4)).s)))]).length) (pp (xS (v3.length+1) (Zh (Zz v3) 0 v3.length 7 [(ii (rd l0 (tn v4)).a),(ii (rd l0 (tn v4)).b),(ii (rd l0 (tn v4)).c),(ii (rd l0 (tn v4)).d),(ii (rd l0 (tn v4)).e),(ii (rd l0 (tn v4)).f),(.dat (x6b (cvT (rd l0 (tn v4)).s)).length (Zz (x6b (cvT (rd l0 (tn v4)).s))))]) (Zz (v3++[(Pa.mk (rd l0 (tn v4)).a (rd l0 (tn v4)).b (rd l0 (tn v4)).c (rd l0 (tn v4)).d (rd l0 (tn v4)).e (rd l0 (tn v4)).f (x6b (cvT (rd l0 (tn v4)).s)))]))) (pp (pp (xF (Zh (Zz v3) 0 v3.length 7 [(ii (rd l0 (tn v4)).a),(ii (rd l0 (tn v4)).b),(ii (rd l0 (tn v4)).c),(ii (rd l0 (tn v4)).d),(ii (rd l0 (tn v4)).e),(ii (rd l0 (tn v4)).f),(.dat (x6b (cvT (rd l0 (tn v4)).s)).length (Zz (x6b (cvT (rd l0 (tn v4)).s))))])) nn) (ww o2 (pp (pp (xI R6 (rd l0 (tn v4)).s.length (Zz (rd l0 (tn v4)).s)) (xw o1)) (ww o0 (ww o0 (tt k0 nn)))))))))))))) (fun k0=>(lo fun o0=>(lo fun o1=>(lr 68 3 [1,1,1,1,0] 1 10 [(6,(.dat (v3.set (0+(tn x1)) (Pa.mk (rd v3 (0+(tn x1))).a (rd v3 (0+(tn x1))).b (rd v3 (0+(tn x1))).c (rd v3 (0+(tn x1))).d (rd v3 (0+(tn x1))).e (rd v3 (0+(tn x1))).f (Wm 1 (cvT (Xn (cvT (rd l0 (tn x1)).s) x2)) (cvT ([(R6.mk (rd l0 (tn x1)).a (rd l0 (tn x1)).b (rd l0 (tn x1)).c (rd l0 (tn x1)).d (rd l0 (tn x1)).e (rd l0 (tn x1)).f)]:List R6))))).length (Zz (v3.set (0+(tn x1)) (Pa.mk (rd v3 (0+(tn x1))).a (rd v3 (0+(tn x1))).b (rd v3 (0+(tn x1))).c (rd v3 (0+(tn x1))).d (rd v3 (0+(tn x1))).e (rd v3 (0+(tn x1))).f (Wm 1 (cvT (Xn (cvT (rd l0 (tn x1)).s) x2)) (cvT ([(R6.mk (rd l0 (tn x1)).a (rd l0 (tn x1)).b (rd l0 (tn x1)).c (rd l0 (tn x1)).d (rd l0 (tn x1)).e (rd l0 (tn x1)).f)]:List R6)))))))),(7,(ii 0))] (sl y6u 33 [] ⟨[],[0],[some [6,7]],[]⟩ ⟨[(6,.frz v3.length (v3.set (0+(tn x1)) (Pa.mk (rd v3 (0+(tn x1))).a (rd v3 (0+(tn x1))).b (rd v3 (0+(tn x1))).c (rd v3 (0+(tn x1))).d (rd v3 (0+(tn x1))).e (rd v3 (0+(tn x1))).f (Wm 1 (cvT (Xn (cvT (rd l0 (tn x1)).s) x2)) (cvT ([(R6.mk (rd l0 (tn x1)).a (rd l0 (tn x1)).b (rd l0 (tn x1)).c (rd l0 (tn x1)).d (rd l0 (tn x1)).e (rd l0 (tn x1)).f)]:List R6))))).length (Yt (Zz v3) (0+(tn x1)) 6 [(.dat (Wm 1 (cvT (Xn (cvT (rd l0 (tn x1)).s) x2)) (cvT ([(R6.mk (rd l0 (tn x1)).a (rd l0 (tn x1)).b (rd l0 (tn x1)).c (rd l0 (tn x1)).d (rd l0 (tn x1)).e (rd l0 (tn x1)).f)]:List R6))).length (Zz (Wm 1 (cvT (Xn (cvT (rd l0 (tn x1)).s) x2)) (cvT ([(R6.mk (rd l0 (tn x1)).a (rd l0 (tn x1)).b (rd l0 (tn x1)).c (rd l0 (tn x1)).d (rd l0 (tn x1)).e (rd l0 (tn x1)).f)]:List R6)))))]) (Zz (v3.set (0+(tn x1)) (Pa.mk (rd v3 (0+(tn x1))).a (rd v3 (0+(tn x1))).b (rd v3 (0+(tn x1))).c (rd v3 (0+(tn x1))).d (rd v3 (0+(tn x1))).e (rd v3 (0+(tn x1))).f (Wm 1 (cvT (Xn (cvT (rd l0 (tn x1)).s) x2)) (cvT ([(R6.mk (rd l0 (tn x1)).a (rd l0 (tn x1)).b (rd l0 (tn x1)).c (rd l0 (tn x1)).d (rd l0 (tn x1)).e (rd l0 (tn x1)).f)]:List R6)))))))],[],[]⟩ [false] (pp (xZ (z1o 7 7 0 v3.length v3.length (Yt (Zz v3) (0+(tn x1)) 6 [(.dat (Wm 1 (cvT (Xn (cvT (rd l0 (tn x1)).s) x2)) (cvT ([(R6.mk (rd l0 (tn x1)).a (rd l0 (tn x1)).b (rd l0 (tn x1)).c (rd l0 (tn x1)).d (rd l0 (tn x1)).e (rd l0 (tn x1)).f)]:List R6))).length (Zz (Wm 1 (cvT (Xn (cvT (rd l0 (tn x1)).s) x2)) (cvT ([(R6.mk (rd l0 (tn x1)).a (rd l0 (tn x1)).b (rd l0 (tn x1)).c (rd l0 (tn x1)).d (rd l0 (tn x1)).e (rd l0 (tn x1)).f)]:List R6)))))])) v3.length (Yt (Zz v3) (0+(tn x1)) 6 [(.dat (Wm 1 (cvT (Xn (cvT (rd l0 (tn x1)).s) x2)) (cvT ([(R6.mk (rd l0 (tn x1)).a (rd l0 (tn x1)).b (rd l0 (tn x1)).c (rd l0 (tn x1)).d (rd l0 (tn x1)).e (rd l0 (tn x1)).f)]:List R6))).length (Zz (Wm 1 (cvT (Xn (cvT (rd l0 (tn x1)).s) x2)) (cvT ([(R6.mk (rd l0 (tn x1)).a (rd l0 (tn x1)).b (rd l0 (tn x1)).c (rd l0 (tn x1)).d (rd l0 (tn x1)).e (rd l0 (tn x1)).f)]:List R6)))))])) (pp (xL v3.length (v3.set (0+(tn x1)) (Pa.mk (rd v3 (0+(tn x1))).a (rd v3 (0+(tn x1))).b (rd v3 (0+(tn x1))).c (rd v3 (0+(tn x1))).d (rd v3 (0+(tn x1))).e (rd v3 (0+(tn x1))).f (Wm 1 (cvT (Xn (cvT (rd l0 (tn x1)).s) x2)) (cvT ([(R6.mk (rd l0 (tn x1)).a (rd l0 (tn x1)).b (rd l0 (tn x1)).c (rd l0 (tn x1)).d (rd l0 (tn x1)).e (rd l0 (tn x1)).f)]:List R6))))).length) (pp (xS v3.length (Yt (Zz v3) (0+(tn x1)) 6 [(.dat (Wm 1 (cvT (Xn (cvT (rd l0 (tn x1)).s) x2)) (cvT ([(R6.mk (rd l0 (tn x1)).a (rd l0 (tn x1)).b (rd l0 (tn x1)).c (rd l0 (tn x1)).d (rd l0 (tn x1)).e (rd l0 (tn x1)).f)]:List R6))).length (Zz (Wm 1 (cvT (Xn (cvT (rd l0 (tn x1)).s) x2)) (cvT ([(R6.mk (rd l0 (tn x1)).a (rd l0 (tn x1)).b (rd l0 (tn x1)).c (rd l0 (tn x1)).d (rd l0 (tn x1)).e (rd l0 (tn x1)).f)]:List R6)))))]) (Zz (v3.set (0+(tn x1)) (Pa.mk (rd v3 (0+(tn x1))).a (rd v3 (0+(tn x1))).b (rd v3 (0+(tn x1))).c (rd v3 (0+(tn x1))).d (rd v3 (0+(tn x1))).e (rd v3 (0+(tn x1))).f (Wm 1 (cvT (Xn (cvT (rd l0 (tn x1)).s) x2)) (cvT ([(R6.mk (rd l0 (tn x1)).a (rd l0 (tn x1)).b (rd l0 (tn x1)).c (rd l0 (tn x1)).d (rd l0 (tn x1)).e (rd l0 (tn x1)).f)]:List R6))))))) (pp (pp (xF (Yt (Zz v3) (0+(tn x1)) 6 [(.dat (Wm 1 (cvT (Xn (cvT (rd l0 (tn x1)).s) x2)) (cvT ([(R6.mk (rd l0 (tn x1)).a (rd l0 (tn x1)).b (rd l0 (tn x1)).c (rd l0 (tn x1)).d (rd l0 (tn x1)).e (rd l0 (tn x1)).f)]:List R6))).length (Zz (Wm 1 (cvT (Xn (cvT (rd l0 (tn x1)).s) x2)) (cvT ([(R6.mk (rd l0 (tn x1)).a (rd l0 (tn x1)).b (rd l0 (tn x1)).c (rd l0 (tn x1)).d (rd l0 (tn x1)).e (rd l0 (tn x1)).f)]:List R6)))))])) nn) (ww o1 (ww o0 (tt k0 nn)))))))))))))
theorem x7s (l0:List Pa) (x1:Int) (x2:Int):Xy prog (Zy prog 11) (rloC l0 x1 x2) (Zg prog 11 [(.dat l0.length (Zz l0)),(.int .i64 x1),(.int .i64 x2)] true []) (y2s l0 x1 x2):=(lo fun bH=>(lb (fun k0=>(lr 68 11 [1,0,1,0,0] 1 10 [(6,.nils),(7,(ii (j1e (cvT l0))))] (sl y6u 20 [] ⟨[],[],[some [6,7]],[]⟩ ⟨[],[],[]⟩ [true] (pp (pp (xr l0) (xw bH)) (tt k0 (pp (pp (xr l0) (xw bH)) nn)))))) (fun k0=>(lb (fun k1=>(lr 68 11 [1,1,0,1,0,0] 1 10 [(6,.nils),(7,(ii 2))] (sl y6u 40 [] ⟨[],[],[some [6,7]],[]⟩ ⟨[],[],[]⟩ [false,true,true,true,true,true,true,true,true,true] (tt k1 (tt k0 (pp (pp (xr l0) (xw bH)) nn)))))) (fun k1=>(lb (fun k2=>(lr 68 11 [1,1,0,1,0,0] 1 10 [(6,.nils),(7,(ii 2))] (sl y6u 40 [] ⟨[],[],[some [6,7]],[]⟩ ⟨[],[],[]⟩ [false,false,false,false,false,true,true,true,true,true] (tt k2 (tt k1 (tt k0 (pp (pp (xr l0) (xw bH)) nn))))))) (fun k2=>(lb (fun k3=>(lr 68 11 [1,1,0,1,0,0] 1 10 [(6,.nils),(7,(ii 2))] (sl y6u 40 [] ⟨[],[],[some [6,7]],[]⟩ ⟨[],[],[]⟩ [false,false,false,false,false,false,false,true,true,true] (tt k3 (tt k2 (tt k1 (tt k0 (pp (pp (xr l0) (xw bH)) nn)))))))) (fun k3=>(lb (fun k4=>(lr 68 11 [1,1,0,1,0,0] 1 10 [(6,.nils),(7,(ii 2))] (sl y6u 40 [] ⟨[],[],[some [6,7]],[]⟩ ⟨[],[],[]⟩ [false,false,false,false,false,false,false,false,false,true] (tt k4 (tt k3 (tt k2 (tt k1 (tt k0 (pp (pp (xr l0) (xw bH)) nn))))))))) (fun k4=>(lo fun cN=>(lo fun dA=>(lb (fun k5=>(lr 68 11 [1,1,1,1,0,1,0,0] 1 10 [(6,.nils),(7,(ii (z3i (cvT (rd l0 (tn x1)).s) x2)))] (sl y6u 64 [] ⟨[],[],[some [6,7]],[]⟩ ⟨[],[],[]⟩ [false,false,false,false,false,false,false,false,false,false,true] (tt k5 (pp (pp (xI R6 (rd l0 (tn x1)).s.length (Zz (rd l0 (tn x1)).s)) (xw dA)) (ww cN (tt k4 (tt k3 (tt k2 (tt k1 (tt k0 (pp (pp (xr l0) (xw bH)) nn)))))))))))) (fun k5=>(Wy (sl y6u (C':=⟨⟨68,0,true⟩,(Vk prog 11 [1,1,1,1,1,0] 7),(Zc prog 11 [1,1,1,1,1,0] 1),none,(Zy prog 10),⟨Yj [(0,(.dat l0.length (Zz l0))),(1,(ii x1)),(47,(.dat (Xn (cvT (rd l0 (tn x1)).s) x2).length (Zz (Xn (cvT (rd l0 (tn x1)).s) x2)))),(53,(.dat ([(R6.mk (rd l0 (tn x1)).a (rd l0 (tn x1)).b (rd l0 (tn x1)).c (rd l0 (tn x1)).d (rd l0 (tn x1)).e (rd l0 (tn x1)).f)]:List R6).length (Zz ([(R6.mk (rd l0 (tn x1)).a (rd l0 (tn x1)).b (rd l0 (tn x1)).c (rd l0 (tn x1)).d (rd l0 (tn x1)).e (rd l0 (tn x1)).f)]:List R6))))],Wn [] 0,0,[],true⟩,[],.leaf⟩) 68 [] ⟨[],[0],[some [0,1,47,53]],[]⟩ ⟨[(53,.frz 1 ([(R6.mk (rd l0 (tn x1)).a (rd l0 (tn x1)).b (rd l0 (tn x1)).c (rd l0 (tn x1)).d (rd l0 (tn x1)).e (rd l0 (tn x1)).f)]:List R6).length (z5m [(ii (rd l0 (tn x1)).a),(ii (rd l0 (tn x1)).b),(ii (rd l0 (tn x1)).c),(ii (rd l0 (tn x1)).d),(ii (rd l0 (tn x1)).e),(ii (rd l0 (tn x1)).f)] 0 6) (Zz ([(R6.mk (rd l0 (tn x1)).a (rd l0 (tn x1)).b (rd l0 (tn x1)).c (rd l0 (tn x1)).d (rd l0 (tn x1)).e (rd l0 (tn x1)).f)]:List R6)))],[],[]⟩ [false,false,false,false,false,false,false,false,false,false,false] (pp (xZ (.dat 1 (z5m [(ii (rd l0 (tn x1)).a),(ii (rd l0 (tn x1)).b),(ii (rd l0 (tn x1)).c),(ii (rd l0 (tn x1)).d),(ii (rd l0 (tn x1)).e),(ii (rd l0 (tn x1)).f)] 0 6)) 1 (z5m [(ii (rd l0 (tn x1)).a),(ii (rd l0 (tn x1)).b),(ii (rd l0 (tn x1)).c),(ii (rd l0 (tn x1)).d),(ii (rd l0 (tn x1)).e),(ii (rd l0 (tn x1)).f)] 0 6)) (pp (xL 1 ([(R6.mk (rd l0 (tn x1)).a (rd l0 (tn x1)).b (rd l0 (tn x1)).c (rd l0 (tn x1)).d (rd l0 (tn x1)).e (rd l0 (tn x1)).f)]:List R6).length) (pp (xS 1 (z5m [(ii (rd l0 (tn x1)).a),(ii (rd l0 (tn x1)).b),(ii (rd l0 (tn x1)).c),(ii (rd l0 (tn x1)).d),(ii (rd l0 (tn x1)).e),(ii (rd l0 (tn x1)).f)] 0 6) (Zz ([(R6.mk (rd l0 (tn x1)).a (rd l0 (tn x1)).b (rd l0 (tn x1)).c (rd l0 (tn x1)).d (rd l0 (tn x1)).e (rd l0 (tn x1)).f)]:List R6))) (ww cN (tt k5 (pp (pp (xI R6 (rd l0 (tn x1)).s.length (Zz (rd l0 (tn x1)).s)) (xw dA)) (ww cN (tt k4 (tt k3 (tt k2 (tt k1 (tt k0 (pp (pp (xr l0) (xw bH)) nn)))))))))))))) (lo fun cX=>(lb (fun k6=>(lr 68 11 [1,1,1,1,1,1,0,1,0,0] 1 10 [(6,.nils),(7,(ii (Uw 1 (cvT (Xn (cvT (rd l0 (tn x1)).s) x2)) (cvT ([(R6.mk (rd l0 (tn x1)).a (rd l0 (tn x1)).b (rd l0 (tn x1)).c (rd l0 (tn x1)).d (rd l0 (tn x1)).e (rd l0 (tn x1)).f)]:List R6)))))] (sl y6u 20 [] ⟨[],[],[some [6,7]],[]⟩ ⟨[],[],[]⟩ [true] (tt k6 (pp (pp (xI R6 (Xn (cvT (rd l0 (tn x1)).s) x2).length (Zz (Xn (cvT (rd l0 (tn x1)).s) x2))) (pp (xI R6 ([(R6.mk (rd l0 (tn x1)).a (rd l0 (tn x1)).b (rd l0 (tn x1)).c (rd l0 (tn x1)).d (rd l0 (tn x1)).e (rd l0 (tn x1)).f)]:List R6).length (Zz ([(R6.mk (rd l0 (tn x1)).a (rd l0 (tn x1)).b (rd l0 (tn x1)).c (rd l0 (tn x1)).d (rd l0 (tn x1)).e (rd l0 (tn x1)).f)]:List R6))) (xw cX))) nn))))) (fun k6=>(sl y6u 34 [(59,7,Zz ([]:List Pa))] ⟨[0],[],rloN0,rloM0⟩ ⟨[(3,.grow 0 7)],[],[]⟩ [false] (pp (fl ([]:List Pa) nn) (tt k6 (pp (pp (xI R6 (Xn (cvT (rd l0 (tn x1)).s) x2).length (Zz (Xn (cvT (rd l0 (tn x1)).s) x2))) (pp (xI R6 ([(R6.mk (rd l0 (tn x1)).a (rd l0 (tn x1)).b (rd l0 (tn x1)).c (rd l0 (tn x1)).d (rd l0 (tn x1)).e (rd l0 (tn x1)).f)]:List R6).length (Zz ([(R6.mk (rd l0 (tn x1)).a (rd l0 (tn x1)).b (rd l0 (tn x1)).c (rd l0 (tn x1)).d (rd l0 (tn x1)).e (rd l0 (tn x1)).f)]:List R6))) (xw cX))) nn)))))))))))))))))))))))
theorem v9f (l0:List Pa) (x1:Int) (x2:Int) (n:Nat) (vs:List AVal) (h:Zr (z6m l0 x1 x2) n (y2s l0 x1 x2)=.ret vs):Uz prog (Zy prog 11) (Zg prog 11 [(.dat l0.length (Zz l0)),(.int .i64 x1),(.int .i64 x2)] true []) vs:=by have:=Zd (w6y l0 x1 x2) n _ (x7s l0 x1 x2);rwa [h] at this
def rcO (l:List Pa) (i k:Int):List R6:=Xn (rd l i.toNat).s k
def Kk (l:List Pa) (i k:Int):Int:=bif y6y l != 0 then y6y l else bif decide (i<0)||(decide (i≥(l.length:Int))||(decide (k<0)||decide (k>9))) then 2 else bif z3i (rd l i.toNat).s k != 0 then z3i (rd l i.toNat).s k else Uw 1 (rcO l i k) [bxP (rd l i.toNat)]
def rloL (l:List Pa) (i k:Int):List Pa:=l.set i.toNat (paS (rd l i.toNat) (Wm 1 (rcO l i k) [bxP (rd l i.toNat)]))
def z3k (l:List Pa) (i k:Int):List Pa:=y7f (Kk l i k) (rloL l i k)
def z3y (l:List Pa) (i k:Int):Bool:=smQ l&&z0m 1 (rcO l i k) [bxP (rd l i.toNat)]
theorem u5k {l:List Pa} {x1 x2:Int} (hs:smP l=true) (h1:0≤x1∧x1<(l.length:Int)): ∀(k i:Nat),i+k=l.length→ ∃n,Zr (z6m l x1 x2) n (.to (.h0 (l.take i) (i:Int)))=.ret [.dat (rloL l x1 x2).length (Zz (rloL l x1 x2)),.int .i64 0]
 | 0,i,h=>by refine ⟨1,?_⟩;rw [Zw,AU (by omega)];simp (disch:=omega) only [z6m,Zb,Yb,Zn,Ah,Ab,Aa,Af];rw [Al (show x1.toNat<l.length by omega),Ab,Zq];rfl
 | k+1,i,h=>by
  have hi:i<l.length:=by omega
  have hl:=z6d hs;have hc:z7b (rd l i).s =true:=Al (w2m hs hi);obtain ⟨n,hn⟩:=u5k (x1:=x1) (x2:=x2) hs h1 k (i+1) (by omega);refine ⟨n+1,?_⟩;have e:l.take i++[Pa.mk (rd l i).a (rd l i).b (rd l i).c (rd l i).d (rd l i).e (rd l i).f (x6b (rd l i).s)]=l.take (i+1):=by show l.take i++[rd l i]=_;rw [Xz hi,List.take_append_getElem hi]
  have rm:((l.take i).length +1+1)*(72+1)≤room:=by rw [BB];unfold room;omega
  rw [Zw];simp (disch:=omega) only [z6m,Zb,Zk,hc,Zs,Zn,Zj,Zx,Ah,Ab,Af];rw [Al rm,e];simp only [Ao,Ah,Nat.beq_refl,Ab];exact hn
theorem j1a (l:List Pa) (x1 x2:Int) (h:z3y l x1 x2=true): ∃N,Zr (z6m l x1 x2) N (y2s l x1 x2)=.ret (z8y (Kk l x1 x2) (rloL l x1 x2)):=by
 obtain ⟨hq,ho⟩:=Ba.1 h;unfold y2s Kk;simp only [Zb,show z7o l=true from hq,show j1e l=y6y l from rfl,Ab];rcases Yy (y6y l != 0) with a | a
 ·exact ⟨0,by rw [a,Ab,Ab,Vv _ a];rfl⟩
 have hs:smP l=true:=by
  unfold smQ at hq;by_cases g:50<l.length
  ·unfold y6y at a;rw [Al g] at a;cases a
  ·rwa [Az g,BL] at hq
 rw [a,Aa,Aa];rcases Yy (decide (x1<0)) with b | b
 ·exact ⟨0,by rw [b];rfl⟩
 rcases Yy (decide (x1≥(l.length:Int))) with c | c
 ·exact ⟨0,by rw [b,c];rfl⟩
 rcases Yy (decide (x2<0)) with d | d
 ·exact ⟨0,by rw [b,c,d];rfl⟩
 rcases Yy (decide (x2>9)) with e | e
 ·exact ⟨0,by rw [b,c,d,e];rfl⟩
 rw [b,c,d,e];have h1:0≤x1∧x1<(l.length:Int):=by have:=AX b;have:=AX c;omega
 rw [Al h1];simp only [BW,Ah,Ab,Aa,show∀L n,y4k L n=true from fun _ _=>rfl];rcases Yy (z3i (rd l x1.toNat).s x2 != 0) with f | f
 ·exact ⟨0,by rw [f,Ab,Ab,Vv _ f];rfl⟩
 rw [f,Aa,Aa];show∃N,Zr (z6m l x1 x2) N (bif z0m 1 (rcO l x1 x2) [bxP (rd l x1.toNat)] then (bif Uw 1 (rcO l x1 x2) [bxP (rd l x1.toNat)] != 0 then .ret [.nils,.int .i64 (Uw 1 (rcO l x1 x2) [bxP (rd l x1.toNat)])] else .to (.h0 [] 0)) else .stuck)=_;rw [ho,Ab];rcases Yy (Uw 1 (rcO l x1 x2) [bxP (rd l x1.toNat)] != 0) with g | g
 ·exact ⟨0,by rw [g,Ab,Vv _ g];rfl⟩
 obtain ⟨n,hn⟩:=u5k (l:=l) (x1:=x1) (x2:=x2) hs h1 l.length 0 (Af _);refine ⟨n,?_⟩;rw [g,Aa];unfold z8y;rw [g];exact hn
def fRlo :List AVal→Option (AVal×Bool)
 | [a0,.int .i64 x1,.int .i64 x2]=>match asL Pa a0 with
  | some (L0,g0,n0)=>some (.tup [.dat (z3k L0 x1 x2).length (Zz (z3k L0 x1 x2)),.int .i64 (Kk L0 x1 x2)],isT Pa n0 g0&&(z3y L0 x1 x2))
  | _=>none
 | _=>none
theorem j4j {S:Specs} (hS:Zv prog S):Zv prog (S.with nRlo fRlo):=by
 refine x6d hS (by kernel_rfl) fun args v h=> ?_;unfold fRlo at h;split at h
 ·rename_i a0 x1 x2;split at h
  ·rename_i L0 g0 n0 e0;simp only [Ae,Ad,Ac] at h;obtain ⟨rfl,ho0,hw⟩:=h;obtain ⟨N,hN⟩:=j1a L0 x1 x2 hw;exact ⟨_,_,(.cons (Yc e0 ho0) (.cons (.refl _) (.cons (.refl _) .nil))),Qt _ _,v9f L0 x1 x2 N _ hN,3,z2n _ _⟩
  ·cases h
 ·cases h
inductive rlqS where
 | h0 (v7:List R7) (v8:Int)
 | h1 (v7:List R7) (v8:Int) (v9:Int) (v12:List Int) (v13:List Int) (v14:List Int) (v15:Int)
 | h2 (v7:List R7) (v8:Int) (v9:Int) (v12:List Int) (v13:List Int) (v14:List Int) (v15:Int) (v16:Int) (v17:Int) (v18:List R4) (v19:Int)
 | h3 (v7:List R7) (v8:Int) (v9:Int) (v12:List Int) (v13:List Int) (v14:List Int) (v15:Int) (v16:Int) (v17:Int) (v18:List R4) (v19:Int) (v20:Int)
 | h4 (v7:List R7) (v8:Int) (v9:Int) (v12:List Int) (v13:List Int) (v14:List Int) (v15:Int) (v23:List R4) (v24:Int)
abbrev y8i (v7:List R7) (v8:Int) (v9:Int) (v12:List Int) (v15:Int) (v23:List R4) (v24:Int):=(v7++[(R7.mk (wrap IntKind.u8 v8) (Uy v9 (rd v12 (tn v15)) (rd v23 (tn v24)).a (rd v23 (tn v24)).b).a (Uy v9 (rd v12 (tn v15)) (rd v23 (tn v24)).a (rd v23 (tn v24)).b).b (Uy v9 (rd v12 (tn v15)) (rd v23 (tn v24)).a (rd v23 (tn v24)).b).c (Uy v9 (rd v12 (tn v15)) (rd v23 (tn v24)).c (rd v23 (tn v24)).d).a (Uy v9 (rd v12 (tn v15)) (rd v23 (tn v24)).c (rd v23 (tn v24)).d).b (Uy v9 (rd v12 (tn v15)) (rd v23 (tn v24)).c (rd v23 (tn v24)).d).c)])
abbrev z3j (v18:List R4) (v19:Int) (v20:Int):=(v18++[(R4.mk v19 v20 (wr (v19+1)) (wr (v20+1)))])
abbrev w3a (v18:List R4) (v19:Int) (v20:Int):=(Zh (Zz v18) 0 v18.length 4 [(ii v19),(ii v20),(ii (wr (v19+1))),(ii (wr (v20+1)))])
abbrev y8h (v9:Int) (v12:List Int) (v15:Int) (v23:List R4) (v24:Int):=(Uy v9 (rd v12 (tn v15)) (rd v23 (tn v24)).a (rd v23 (tn v24)).b)
abbrev y8g (v9:Int) (v12:List Int) (v15:Int) (v23:List R4) (v24:Int):=(Uy v9 (rd v12 (tn v15)) (rd v23 (tn v24)).c (rd v23 (tn v24)).d)
def rlqC (l0:List R6) (l1:List R6) (bX:Int) (bY:Int) (bZ:Int) (cA:Int) (cB:Int) (cC:Int):rlqS→Cfg
 | .h0 v7 v8=>⟨⟨184,0,true⟩,none,(Zc prog 49 [1,1,0,1,0,0] 0),none,(Zy prog 3),⟨Yj [(0,(.dat l0.length (Zz l0))),(1,(.dat l1.length (Zz l1))),(5,(.ptr 0 0)),(7,(.sla 1 7 0 v7.length (.un 7))),(8,(ii v8))],Wn [⟨[(ii bX),(ii bY),(ii bZ),(ii cA),(ii cB),(ii cC)],57,none⟩,⟨Yk v7.length (Zz v7),96,some ⟨7,v7.length,(Zz v7)⟩⟩] 0,2,[],true⟩,[],.leaf⟩
 | .h1 v7 v8 v9 v12 v13 v14 v15=>⟨⟨184,0,true⟩,none,(Zc prog 49 [1,1,0,1,0,0,1,0,0,1,1,1,1,1,0,0] 0),none,(Zy prog 3),⟨Yj [(0,(.dat l0.length (Zz l0))),(1,(.dat l1.length (Zz l1))),(5,(.ptr 0 0)),(7,(.sla 1 7 0 v7.length (.un 7))),(8,(ii v8)),(9,(ii v9)),(12,(.dat v12.length (Zz v12))),(13,(.dat v13.length (Zz v13))),(14,(.dat v14.length (Zz v14))),(15,(ii v15))],Wn [⟨[(ii bX),(ii bY),(ii bZ),(ii cA),(ii cB),(ii cC)],57,none⟩,⟨Yk v7.length (Zz v7),96,some ⟨7,v7.length,(Zz v7)⟩⟩] 0,2,[],true⟩,[],.leaf⟩
 | .h2 v7 v8 v9 v12 v13 v14 v15 v16 v17 v18 v19=>⟨⟨184,0,true⟩,none,(Zc prog 49 [1,1,0,1,0,0,1,0,0,1,1,1,1,1,0,0,1,0,0,1,1,1,0,1,0,0] 0),none,(Zy prog 3),⟨Yj [(0,(.dat l0.length (Zz l0))),(1,(.dat l1.length (Zz l1))),(5,(.ptr 0 0)),(7,(.sla 2 7 0 v7.length (.un 7))),(8,(ii v8)),(9,(ii v9)),(12,(.dat v12.length (Zz v12))),(13,(.dat v13.length (Zz v13))),(14,(.dat v14.length (Zz v14))),(15,(ii v15)),(16,(ii v16)),(17,(ii v17)),(18,(.sla 1 4 0 v18.length (.un 4))),(19,(ii v19))],Wn [⟨[(ii bX),(ii bY),(ii bZ),(ii cA),(ii cB),(ii cC)],57,none⟩,⟨Yk v18.length (Zz v18),116,some ⟨4,v18.length,(Zz v18)⟩⟩,⟨Yk v7.length (Zz v7),96,some ⟨7,v7.length,(Zz v7)⟩⟩] 0,3,[],true⟩,[],.leaf⟩
 | .h3 v7 v8 v9 v12 v13 v14 v15 v16 v17 v18 v19 v20=>⟨⟨184,0,true⟩,none,(Zc prog 49 [1,1,0,1,0,0,1,0,0,1,1,1,1,1,0,0,1,0,0,1,1,1,0,1,0,0,1,0,0,1,0,0] 0),none,(Zy prog 3),⟨Yj [(0,(.dat l0.length (Zz l0))),(1,(.dat l1.length (Zz l1))),(5,(.ptr 0 0)),(7,(.sla 2 7 0 v7.length (.un 7))),(8,(ii v8)),(9,(ii v9)),(12,(.dat v12.length (Zz v12))),(13,(.dat v13.length (Zz v13))),(14,(.dat v14.length (Zz v14))),(15,(ii v15)),(16,(ii v16)),(17,(ii v17)),(18,(.sla 1 4 0 v18.length (.un 4))),(19,(ii v19)),(20,(ii v20))],Wn [⟨[(ii bX),(ii bY),(ii bZ),(ii cA),(ii cB),(ii cC)],57,none⟩,⟨Yk v18.length (Zz v18),116,some ⟨4,v18.length,(Zz v18)⟩⟩,⟨Yk v7.length (Zz v7),96,some ⟨7,v7.length,(Zz v7)⟩⟩] 0,3,[],true⟩,[],.leaf⟩
 | .h4 v7 v8 v9 v12 v13 v14 v15 v23 v24=>⟨⟨184,0,true⟩,none,(Zc prog 49 [1,1,0,1,0,0,1,0,0,1,1,1,1,1,0,0,1,0,0,1,1,1,1,1,1,0,0] 0),none,(Zy prog 3),⟨Yj [(0,(.dat l0.length (Zz l0))),(1,(.dat l1.length (Zz l1))),(5,(.ptr 0 0)),(7,(.sla 1 7 0 v7.length (.un 7))),(8,(ii v8)),(9,(ii v9)),(12,(.dat v12.length (Zz v12))),(13,(.dat v13.length (Zz v13))),(14,(.dat v14.length (Zz v14))),(15,(ii v15)),(23,(.dat v23.length (Zz v23))),(24,(ii v24))],Wn [⟨[(ii bX),(ii bY),(ii bZ),(ii cA),(ii cB),(ii cC)],57,none⟩,⟨Yk v7.length (Zz v7),96,some ⟨7,v7.length,(Zz v7)⟩⟩] 0,2,[],true⟩,[],.leaf⟩
def rlqN0 :List (Option (List Nat)):=[some [0,1,5,7,8]]
def rlqM0 :List (Option (List Nat)):=[]
def v9d :List (Option (List Nat)):=[some [0,1,5,7,8,9,12,13,14,15]]
def v9e :List (Option (List Nat)):=[]
def j0y :List (Option (List Nat)):=[some [0,1,5,7,8,9,12,13,14,15,16,17,18,19]]
def j0z :List (Option (List Nat)):=[]
def x3m :List (Option (List Nat)):=[some [0,1,5,7,8,9,12,13,14,15,16,17,18,19,20]]
def x3n :List (Option (List Nat)):=[]
def rlqN4 :List (Option (List Nat)):=[some [0,1,5,7,8,9,12,13,14,15,23,24]]
def rlqM4 :List (Option (List Nat)):=[]
def Xh (l0:List R6) (l1:List R6) (bX:Int) (bY:Int) (bZ:Int) (cA:Int) (cB:Int) (cC:Int):rlqS→Xx rlqS
 | .h0 v7 v8=>(bif (decide (v8<6)) then (bif ((wrap .i64 (Int.tdiv v8 2)) == 0) then (bif (Uk (cvT l0) (wrap .i64 (Int.tdiv v8 2))) then (bif (Uk (cvT l0) 1) then (bif (Uk (cvT l0) 2) then (.to (.h1 v7 v8 (wrap .i64 (Int.tdiv v8 2)) (Kh (cvT l0) (wrap .i64 (Int.tdiv v8 2))) (Kh (cvT l0) 1) (Kh (cvT l0) 2) 0)) else .stuck) else .stuck) else .stuck) else (bif ((wrap .i64 (Int.tdiv v8 2)) == 1) then (bif (Uk (cvT l0) (wrap .i64 (Int.tdiv v8 2))) then (bif (Uk (cvT l0) 0) then (bif (Uk (cvT l0) 2) then (.to (.h1 v7 v8 (wrap .i64 (Int.tdiv v8 2)) (Kh (cvT l0) (wrap .i64 (Int.tdiv v8 2))) (Kh (cvT l0) 0) (Kh (cvT l0) 2) 0)) else .stuck) else .stuck) else .stuck) else (bif (Uk (cvT l0) (wrap .i64 (Int.tdiv v8 2))) then (bif (Uk (cvT l0) 0) then (bif (Uk (cvT l0) 1) then (.to (.h1 v7 v8 (wrap .i64 (Int.tdiv v8 2)) (Kh (cvT l0) (wrap .i64 (Int.tdiv v8 2))) (Kh (cvT l0) 0) (Kh (cvT l0) 1) 0)) else .stuck) else .stuck) else .stuck))) else (.ret [(.dat v7.length (Zz v7))]))
 | .h1 v7 v8 v9 v12 v13 v14 v15=>(bif (decide (v15<(v12.length:Int))) then (bif ((decide (0≤v15∧v15<(v12.length:Int)))&&true) then (bif ((Int.tmod v8 2) == 1) then (bif ((decide ((0:Int)≤0∧0<(v13.length:Int)))&&true) then (.to (.h2 v7 v8 v9 v12 v13 v14 v15 (rd v12 v15.toNat) (wrap .i64 ((rd v12 v15.toNat) - 1)) ([]:List R4) (rd v13 0))) else .stuck) else (bif ((decide ((0:Int)≤0∧0<(v13.length:Int)))&&true) then (.to (.h2 v7 v8 v9 v12 v13 v14 v15 (wrap .i64 ((rd v12 v15.toNat) - 1)) (rd v12 v15.toNat) ([]:List R4) (rd v13 0))) else .stuck)) else .stuck) else (.to (.h0 v7 (wrap .i64 (v8+1)))))
 | .h2 v7 v8 v9 v12 v13 v14 v15 v16 v17 v18 v19=>(bif ((decide (0≤(wrap .i64 ((v13.length:Int) - 1))∧(wrap .i64 ((v13.length:Int) - 1))<(v13.length:Int)))&&true) then (bif (decide (v19<(rd v13 (Int.toNat (wrap .i64 ((v13.length:Int) - 1)))))) then (bif ((decide ((0:Int)≤0∧0<(v14.length:Int)))&&true) then (.to (.h3 v7 v8 v9 v12 v13 v14 v15 v16 v17 v18 v19 (rd v14 0))) else .stuck) else (bif (Qj 2 (cvT v18) ([]:List R4)) then (.to (.h4 v7 v8 v9 v12 v13 v14 v15 (joV 2 (cvT v18) ([]:List R4)) 0)) else .stuck)) else .stuck)
 | .h3 v7 v8 v9 v12 v13 v14 v15 v16 v17 v18 v19 v20=>(bif ((decide (0≤(wrap .i64 ((v14.length:Int) - 1))∧(wrap .i64 ((v14.length:Int) - 1))<(v14.length:Int)))&&true) then (bif (decide (v20<(rd v14 (Int.toNat (wrap .i64 ((v14.length:Int) - 1)))))) then (bif (((bX == 0)&&((bY == 0)&&((bZ == 0)&&true)))&&(((cA == 0)&&((cB == 0)&&((cC == 0)&&true)))&&true)) then (bif (Qm (cvT l0) (Uy v9 v16 v19 v20).a (Uy v9 v16 v19 v20).b (Uy v9 v16 v19 v20).c) then (bif (rh6V (cvT l0) (Uy v9 v16 v19 v20).a (Uy v9 v16 v19 v20).b (Uy v9 v16 v19 v20).c) then (bif (Qm (cvT l1) (Uy v9 v17 v19 v20).a (Uy v9 v17 v19 v20).b (Uy v9 v17 v19 v20).c) then (bif (!(rh6V (cvT l1) (Uy v9 v17 v19 v20).a (Uy v9 v17 v19 v20).b (Uy v9 v17 v19 v20).c)) then (bif (Nat.beq 4 4&&((decide (0+v18.length=v18.length))&&decide ((v18.length+1+1)*(32+1)≤room))) then (.to (.h3 v7 v8 v9 v12 v13 v14 v15 v16 v17 (v18++[(R4.mk v19 v20 (wrap .i64 (v19+1)) (wrap .i64 (v20+1)))]) v19 (wrap .i64 (v20+1)))) else .stuck) else (.to (.h3 v7 v8 v9 v12 v13 v14 v15 v16 v17 v18 v19 (wrap .i64 (v20+1))))) else .stuck) else (.to (.h3 v7 v8 v9 v12 v13 v14 v15 v16 v17 v18 v19 (wrap .i64 (v20+1))))) else .stuck) else (bif (ribV bX bY bZ cA cB cC (Uy v9 v17 v19 v20).a (Uy v9 v17 v19 v20).b (Uy v9 v17 v19 v20).c) then (bif (Qm (cvT l0) (Uy v9 v16 v19 v20).a (Uy v9 v16 v19 v20).b (Uy v9 v16 v19 v20).c) then (bif (rh6V (cvT l0) (Uy v9 v16 v19 v20).a (Uy v9 v16 v19 v20).b (Uy v9 v16 v19 v20).c) then (bif (Qm (cvT l1) (Uy v9 v17 v19 v20).a (Uy v9 v17 v19 v20).b (Uy v9 v17 v19 v20).c) then (bif (!(rh6V (cvT l1) (Uy v9 v17 v19 v20).a (Uy v9 v17 v19 v20).b (Uy v9 v17 v19 v20).c)) then (bif (Nat.beq 4 4&&((decide (0+v18.length=v18.length))&&decide ((v18.length+1+1)*(32+1)≤room))) then (.to (.h3 v7 v8 v9 v12 v13 v14 v15 v16 v17 (v18++[(R4.mk v19 v20 (wrap .i64 (v19+1)) (wrap .i64 (v20+1)))]) v19 (wrap .i64 (v20+1)))) else .stuck) else (.to (.h3 v7 v8 v9 v12 v13 v14 v15 v16 v17 v18 v19 (wrap .i64 (v20+1))))) else .stuck) else (.to (.h3 v7 v8 v9 v12 v13 v14 v15 v16 v17 v18 v19 (wrap .i64 (v20+1))))) else .stuck) else (.to (.h3 v7 v8 v9 v12 v13 v14 v15 v16 v17 v18 v19 (wrap .i64 (v20+1)))))) else (.to (.h2 v7 v8 v9 v12 v13 v14 v15 v16 v17 v18 (wrap .i64 (v19+1))))) else .stuck)
 | .h4 v7 v8 v9 v12 v13 v14 v15 v23 v24=>(bif (decide (v24<(v23.length:Int))) then (bif ((decide (0≤v15∧v15<(v12.length:Int)))&&true) then (bif ((decide (0≤v24∧v24<(v23.length:Int)))&&true) then (bif (Nat.beq 7 7&&((decide (0+v7.length=v7.length))&&decide ((v7.length+1+1)*(56+1)≤room))) then (.to (.h4 (v7++[(R7.mk (wrap IntKind.u8 v8) (Uy v9 (rd v12 v15.toNat) (rd v23 v24.toNat).a (rd v23 v24.toNat).b).a (Uy v9 (rd v12 v15.toNat) (rd v23 v24.toNat).a (rd v23 v24.toNat).b).b (Uy v9 (rd v12 v15.toNat) (rd v23 v24.toNat).a (rd v23 v24.toNat).b).c (Uy v9 (rd v12 v15.toNat) (rd v23 v24.toNat).c (rd v23 v24.toNat).d).a (Uy v9 (rd v12 v15.toNat) (rd v23 v24.toNat).c (rd v23 v24.toNat).d).b (Uy v9 (rd v12 v15.toNat) (rd v23 v24.toNat).c (rd v23 v24.toNat).d).c)]) v8 v9 v12 v13 v14 v15 v23 (wrap .i64 (v24+1)))) else .stuck) else .stuck) else .stuck) else (.to (.h1 v7 v8 v9 v12 v13 v14 (wrap .i64 (v15+1)))))
def y2r (l0:List R6) (l1:List R6) (bX:Int) (bY:Int) (bZ:Int) (cA:Int) (cB:Int) (cC:Int):Xx rlqS:=(.to (.h0 ([]:List R7) 0))
theorem w6x (l0:List R6) (l1:List R6) (bX:Int) (bY:Int) (bZ:Int) (cA:Int) (cB:Int) (cC:Int): ∀s,Xy prog (Zy prog 49) (rlqC l0 l1 bX bY bZ cA cB cC) (rlqC l0 l1 bX bY bZ cA cB cC s) (Xh l0 l1 bX bY bZ cA cB cC s)
 | .h0 v7 v8=>(lb (fun k0=>(lb (fun k1=>(lo fun o0=>(lo fun o1=>(lo fun o2=>(sl Wt 68 [] ⟨[0,1],[],v9d,v9e⟩ ⟨[],[],[]⟩ (bl 2 3) (pp (fl v7 nn) (pp (pp (xr l0) (xw o2)) (pp (pp (xr l0) (xw o1)) (pp (pp (xr l0) (xw o0)) (tt k1 (tt k0 nn))))))))))) (fun k1=>(lb (fun k2=>(lo fun o0=>(lo fun o1=>(lo fun o2=>(sl Wt 76 [] ⟨[0,1],[],v9d,v9e⟩ ⟨[],[],[]⟩ (bl 3 5) (pp (fl v7 nn) (pp (pp (xr l0) (xw o2)) (pp (pp (xr l0) (xw o1)) (pp (pp (xr l0) (xw o0)) (tt k2 (tt k1 (tt k0 nn)))))))))))) (fun k2=>(lo fun o0=>(lo fun o1=>(lo fun o2=>(sl Wt 77 [] ⟨[0,1],[],v9d,v9e⟩ ⟨[],[],[]⟩ (bl 3 1) (pp (fl v7 nn) (pp (pp (xr l0) (xw o2)) (pp (pp (xr l0) (xw o1)) (pp (pp (xr l0) (xw o0)) (tt k2 (tt k1 (tt k0 nn)))))))))))))))) (fun k0=>(lr 184 3 [1,1,1,1,0] 1 3 [(6,(.dat v7.length (Zz v7)))] (sl Wt 13 [] ⟨[],[1],[some [6]],[]⟩ ⟨[(6,.frz v7.length v7.length (Zz v7) (Zz v7))],[],[]⟩ [false] (pp (xZ (z1o 7 7 0 v7.length v7.length (Zz v7)) v7.length (Zz v7)) (pp (xL v7.length v7.length) (pp (xS v7.length (Zz v7) (Zz v7)) (pp (fl v7 nn) (tt k0 nn)))))))))
 | .h1 v7 v8 v9 v12 v13 v14 v15=>(lb (fun k0=>(lo fun aI=>(lb (fun k1=>(lo fun o0=>(sl Wt 37 [(116,4,Zz ([]:List R4))] ⟨[0,2,1],[],j0y,j0z⟩ ⟨[(18,.grow 1 4)],[],[]⟩ (bl 2 3) (pp (fl ([]:List R4) (fl v7 nn)) (ww o0 (ww aI (ww aI (tt k1 (ww aI (ww aI (tt k0 nn))))))))))) (fun k1=>(lo fun o0=>(sl Wt 37 [(116,4,Zz ([]:List R4))] ⟨[0,2,1],[],j0y,j0z⟩ ⟨[(18,.grow 1 4)],[],[]⟩ (bl 2 1) (pp (fl ([]:List R4) (fl v7 nn)) (ww o0 (tt k1 (ww aI (ww aI (tt k0 nn)))))))))))) (fun k0=>(sl Wt 17 [] ⟨[0,1],[],rlqN0,rlqM0⟩ ⟨[],[],[]⟩ [false] (pp (fl v7 nn) (tt k0 nn)))))
 | .h2 v7 v8 v9 v12 v13 v14 v15 v16 v17 v18 v19=>(lo fun bH=>(lb (fun k0=>(lo fun o0=>(sl Wt 25 [] ⟨[0,1,2],[],x3m,x3n⟩ ⟨[],[],[]⟩ [true] (pp (fl v18 (fl v7 nn)) (ww o0 (tt k0 (ww bH nn))))))) (fun k0=>(Wy (sl Wt (C':=⟨⟨184,0,true⟩,(Vk prog 49 [1,1,0,1,0,0,1,0,0,1,1,1,1,1,0,0,1,0,0,1,1,1,1,0] 1),(Zc prog 49 [1,1,0,1,0,0,1,0,0,1,1,1,1,1,0,0,1,0,0,1,1,1,1,0] 1),none,(Zy prog 3),⟨Yj [(0,(.dat l0.length (Zz l0))),(1,(.dat l1.length (Zz l1))),(5,(.ptr 0 0)),(7,(.sla 1 7 0 v7.length (.un 7))),(8,(ii v8)),(9,(ii v9)),(12,(.dat v12.length (Zz v12))),(13,(.dat v13.length (Zz v13))),(14,(.dat v14.length (Zz v14))),(15,(ii v15)),(137,(.dat v18.length (Zz v18)))],Wn [⟨[(ii bX),(ii bY),(ii bZ),(ii cA),(ii cB),(ii cC)],57,none⟩,⟨Yk v7.length (Zz v7),96,some ⟨7,v7.length,(Zz v7)⟩⟩] 0,2,[],true⟩,[],.leaf⟩) 17 [] ⟨[0,2],[1],[some [0,1,5,7,8,9,12,13,14,15,137]],[]⟩ ⟨[(137,.frz v18.length v18.length (Zz v18) (Zz v18))],[],[]⟩ [false] (pp (xZ (z1o 4 4 0 v18.length v18.length (Zz v18)) v18.length (Zz v18)) (pp (xL v18.length v18.length) (pp (xS v18.length (Zz v18) (Zz v18)) (pp (fl v7 nn) (pp (fl v18 nn) (tt k0 (ww bH nn)))))))) (lo fun o0=>(sl Wt 9 [] ⟨[0,1],[],rlqN4,rlqM4⟩ ⟨[],[],[]⟩ [] (pp (fl v7 nn) (pp (pp (xr v18) (pp (xI R4 0 (fun _=>[])) (xw o0))) nn))))))))
 | .h3 v7 v8 v9 v12 v13 v14 v15 v16 v17 v18 v19 v20=>(lo fun bH=>(lb (fun k0=>(lb (fun k1=>(lo fun bS=>(lb (fun k2=>(lo fun cE=>(lb (fun k3=>(lo fun o0=>(sl Wt 78 [] ⟨[0,5,2],[],x3m,x3n⟩ ⟨[(18,.len (z3j v18 v19 v20).length)],[.keep,.rowed 4 (z3j v18 v19 v20).length (Zz (z3j v18 v19 v20)),.keep],[]⟩ (trs 16 []) (pp (xL (v18.length+1) (z3j v18 v19 v20).length) (pp (xL (v18.length+1) (z3j v18 v19 v20).length) (pp (xS (v18.length+1) (w3a v18 v19 v20) (Zz (z3j v18 v19 v20))) (pp (pp (xF (w3a v18 v19 v20)) (fl v7 nn)) (ww o0 (tt k3 (pp (pp (xr l1) (xw cE)) (tt k2 (pp (pp (xr l0) (xw bS)) (tt k1 (tt k0 (ww bH nn))))))))))))))) (fun k3=>(sl Wt 66 [] ⟨[0,1,2],[],x3m,x3n⟩ ⟨[],[],[]⟩ (trs 15 [false]) (pp (fl v18 (fl v7 nn)) (tt k3 (pp (pp (xr l1) (xw cE)) (tt k2 (pp (pp (xr l0) (xw bS)) (tt k1 (tt k0 (ww bH nn))))))))))))) (fun k2=>(sl Wt 66 [] ⟨[0,1,2],[],x3m,x3n⟩ ⟨[],[],[]⟩ (trs 11 (bl 5 0)) (pp (fl v18 (fl v7 nn)) (tt k2 (pp (pp (xr l0) (xw bS)) (tt k1 (tt k0 (ww bH nn))))))))))) (fun k1=>(lb (fun k2=>(lo fun cE=>(lb (fun k3=>(lo fun bU=>(lb (fun k4=>(lo fun o0=>(sl Wt 78 [] ⟨[0,5,2],[],x3m,x3n⟩ ⟨[(18,.len (z3j v18 v19 v20).length)],[.keep,.rowed 4 (z3j v18 v19 v20).length (Zz (z3j v18 v19 v20)),.keep],[]⟩ (bl 16 65521) (pp (xL (v18.length+1) (z3j v18 v19 v20).length) (pp (xL (v18.length+1) (z3j v18 v19 v20).length) (pp (xS (v18.length+1) (w3a v18 v19 v20) (Zz (z3j v18 v19 v20))) (pp (pp (xF (w3a v18 v19 v20)) (fl v7 nn)) (ww o0 (tt k4 (pp (pp (xr l1) (xw bU)) (tt k3 (pp (pp (xr l0) (xw cE)) (tt k2 (tt k1 (tt k0 (ww bH nn)))))))))))))))) (fun k4=>(sl Wt 66 [] ⟨[0,1,2],[],x3m,x3n⟩ ⟨[],[],[]⟩ (bl 16 32753) (pp (fl v18 (fl v7 nn)) (tt k4 (pp (pp (xr l1) (xw bU)) (tt k3 (pp (pp (xr l0) (xw cE)) (tt k2 (tt k1 (tt k0 (ww bH nn)))))))))))))) (fun k3=>(sl Wt 66 [] ⟨[0,1,2],[],x3m,x3n⟩ ⟨[],[],[]⟩ (bl 16 2033) (pp (fl v18 (fl v7 nn)) (tt k3 (pp (pp (xr l0) (xw cE)) (tt k2 (tt k1 (tt k0 (ww bH nn)))))))))))) (fun k2=>(sl Wt 66 [] ⟨[0,1,2],[],x3m,x3n⟩ ⟨[],[],[]⟩ (bl 16 1) (pp (fl v18 (fl v7 nn)) (tt k2 (tt k1 (tt k0 (ww bH nn))))))))))) (fun k0=>(sl Wt 21 [] ⟨[0,1,2],[],j0y,j0z⟩ ⟨[],[],[]⟩ [false] (pp (fl v18 (fl v7 nn)) (tt k0 (ww bH nn)))))))
 | .h4 v7 v8 v9 v12 v13 v14 v15 v23 v24=>(lb (fun k0=>(lo fun o0=>(lo fun o1=>(lo fun o2=>(sl Wt 20 [] ⟨[0,3],[],rlqN4,rlqM4⟩ ⟨[(7,.len (y8i v7 v8 v9 v12 v15 v23 v24).length)],[.keep,.rowed 7 (y8i v7 v8 v9 v12 v15 v23 v24).length (Zz (y8i v7 v8 v9 v12 v15 v23 v24))],[]⟩ [true] (pp (xL (v7.length+1) (y8i v7 v8 v9 v12 v15 v23 v24).length) (pp (xL (v7.length+1) (y8i v7 v8 v9 v12 v15 v23 v24).length) (pp (xS (v7.length+1) (Zh (Zz v7) 0 v7.length 7 [(.int .u8 (wrap IntKind.u8 v8)),(ii (y8h v9 v12 v15 v23 v24).a),(ii (y8h v9 v12 v15 v23 v24).b),(ii (y8h v9 v12 v15 v23 v24).c),(ii (y8g v9 v12 v15 v23 v24).a),(ii (y8g v9 v12 v15 v23 v24).b),(ii (y8g v9 v12 v15 v23 v24).c)]) (Zz (y8i v7 v8 v9 v12 v15 v23 v24))) (pp (pp (xF (Zh (Zz v7) 0 v7.length 7 [(.int .u8 (wrap IntKind.u8 v8)),(ii (y8h v9 v12 v15 v23 v24).a),(ii (y8h v9 v12 v15 v23 v24).b),(ii (y8h v9 v12 v15 v23 v24).c),(ii (y8g v9 v12 v15 v23 v24).a),(ii (y8g v9 v12 v15 v23 v24).b),(ii (y8g v9 v12 v15 v23 v24).c)])) nn) (ww o2 (ww o1 (ww o1 (ww o0 (ww o1 (ww o1 (ww o0 (tt k0 nn))))))))))))))))) (fun k0=>(sl Wt 17 [] ⟨[0,1],[],v9d,v9e⟩ ⟨[],[],[]⟩ [false] (pp (fl v7 nn) (tt k0 nn)))))
theorem x7r (l0:List R6) (l1:List R6) (bX:Int) (bY:Int) (bZ:Int) (cA:Int) (cB:Int) (cC:Int):Xy prog (Zy prog 49) (rlqC l0 l1 bX bY bZ cA cB cC) (Zg prog 49 [(.dat l0.length (Zz l0)),(.dat l1.length (Zz l1)),(.agg [(.int .i64 bX),(.int .i64 bY),(.int .i64 bZ),(.int .i64 cA),(.int .i64 cB),(.int .i64 cC)])] true []) (y2r l0 l1 bX bY bZ cA cB cC):=(sl Wt 16 [(96,7,Zz ([]:List R7))] ⟨[0,1],[],rlqN0,rlqM0⟩ ⟨[(7,.grow 1 7)],[],[]⟩ [] (pp (fl ([]:List R7) nn) nn))
theorem v9b (l0:List R6) (l1:List R6) (bX:Int) (bY:Int) (bZ:Int) (cA:Int) (cB:Int) (cC:Int) (n:Nat) (vs:List AVal) (h:Zr (Xh l0 l1 bX bY bZ cA cB cC) n (y2r l0 l1 bX bY bZ cA cB cC)=.ret vs):Uz prog (Zy prog 49) (Zg prog 49 [(.dat l0.length (Zz l0)),(.dat l1.length (Zz l1)),(.agg [(.int .i64 bX),(.int .i64 bY),(.int .i64 bZ),(.int .i64 cA),(.int .i64 cB),(.int .i64 cC)])] true []) vs:=by have:=Zd (w6x l0 l1 bX bY bZ cA cB cC) n _ (x7r l0 l1 bX bY bZ cA cB cC);rwa [h] at this
theorem x4f : ∀(l S:List Int),l.Pairwise (· ≠ ·)→(∀x∈l,x∈S)→l.length≤S.length
 | [],S,_,_=>AA _
 | x::l,S,h,hs=>by
  obtain ⟨h1,h2⟩:=A1.1 h;have hx:=hs x (by simp);have:=x4f l (S.erase x) h2 fun y hy=>(List.mem_erase_of_ne (fun e=>h1 y hy e.symm)).2 (hs y (by simp [hy]))
  grind
open Go.Proofs.Tryz
open Go.Proofs Go.Sort Go.Shelf Go.RowKit Go.Lib
def v8x (P:Int→Int→Bool) (x:Int):Nat→Int→List R4
 | 0,_=>[]
 | k+1,y=>(bif P x y then [⟨x,y,x+1,y+1⟩] else [])++v8x P x k (y+1)
def w0e (P:Int→Int→Bool) (m:Nat) (y:Int):Nat→Int→List R4
 | 0,_=>[]
 | k+1,x=>v8x P x m y++w0e P m y k (x+1)
theorem y2o (P:Int→Int→Bool) (x:Int): ∀k y,(v8x P x k y).length ≤k
 | 0,_=>AA _
 | k+1,y=>by
  have h:=y2o P x k (y+1);unfold v8x;rw [AO];cases P x y
  ·rw [Aa,Bx];omega
  ·rw [Ab,List.length_singleton];omega
theorem x4x (P:Int→Int→Bool) (m:Nat) (y:Int): ∀k x,(w0e P m y k x).length ≤k*m
 | 0,_=>AA _
 | k+1,x=>by have h:=x4x P m y k (x+1);have h2:=y2o P x m y;unfold w0e;rw [AO,Nat.succ_mul];omega
def uX (L:List R6) (i:Int):List Int:=bif i == 0 then Kh L 1 else Kh L 0
def uY (L:List R6) (i:Int):List Int:=bif i == 0 then Kh L 2 else bif i == 1 then Kh L 2 else Kh L 1
def z9r (xs:List Int):Int:=rd xs (xs.length - 1)
def z7d (xs:List Int):Nat:=(z9r xs - rd xs 0).toNat
def wantQ (m:R6) (a p x y:Int):Bool:=bif eqB m o6 then true else ribV m.a m.b m.c m.d m.e m.f (Uy a p x y).a (Uy a p x y).b (Uy a p x y).c
def y0b (S N:List R6) (m:R6) (a own oth x y:Int):Bool:=wantQ m a oth x y&&(rh6V S (Uy a own x y).a (Uy a own x y).b (Uy a own x y).c && !rh6V N (Uy a oth x y).a (Uy a oth x y).b (Uy a oth x y).c)
def x5c (S N:List R6) (m:R6) (d p:Int):List R4:=joV 2 (w0e (y0b S N m (dhA d) (ownP d p) (othP d p)) (z7d (uY S (dhA d))) (rd (uY S (dhA d)) 0) (z7d (uX S (dhA d))) (rd (uX S (dhA d)) 0)) []
def qdR (d p:Int) (t:R4):R7:=⟨wrap .u8 d,(Uy (dhA d) p t.a t.b).a,(Uy (dhA d) p t.a t.b).b,(Uy (dhA d) p t.a t.b).c,(Uy (dhA d) p t.c t.d).a,(Uy (dhA d) p t.c t.d).b,(Uy (dhA d) p t.c t.d).c⟩
def v9c (S N:List R6) (m:R6) (d:Int) (ps:List Int):List R7:=ps.flatMap fun p=>(x5c S N m d p).map (qdR d p)
def rlqD (S N:List R6) (m:R6):Nat→Nat→List R7
 | 0,_=>[]
 | k+1,d=>v9c S N m (d:Int) (Kh S (dhA (d:Int)))++rlqD S N m k (d+1)
def rlqV (S N:List R6) (a b c d e f:Int):List R7:=rlqD S N ⟨a,b,c,d,e,f⟩ 6 0
def w7v (S:List R6):Bool:=decide (S.length≤6)&&S.all fun r=>decide (-12≤r.a∧r.a≤12)&&(decide (-12≤r.b∧r.b≤12)&&(decide (-12≤r.c∧r.c≤12)&&(decide (-12≤r.d∧r.d≤12)&&(decide (-12≤r.e∧r.e≤12)&&decide (-12≤r.f∧r.f≤12)))))
def x3l (S N:List R6) (_ _ _ _ _ _:Int):Bool:=w7v S&&decide (N.length≤1000)
theorem u8y (l:List Int):(z0y l).length ≤l.length:=by have h:=Xd l;exact x4f _ _ (h.1.imp fun {a b} k=>by omega) fun x hx=>(h.2 x).1 hx
theorem z8o {S:List R6} (h:w7v S=true) (i:Int):(Kh S i).length ≤12∧(∀x∈Kh S i,-12≤x∧x≤12)∧(Kh S i).Pairwise (· < ·)∧(S≠ []→0<(Kh S i).length):=by
 obtain ⟨h1,h2⟩:=Ba.1 h;have h1:=Av h1;have hl:=u8y (j5r S i);have he:=z6w S i;refine ⟨by unfold Kh;omega,fun x hx=> ?_,(Xd _).1,fun hn=> ?_⟩
 ·obtain ⟨r,hr,k⟩:=AD.1 (((Xd _).2 x).1 hx)
  grind [y0a]
 ·cases S with
  | nil=>grind
  | cons r S=>
   have:y0a r.a r.b r.c i∈Kh (r::S) i:=((Xd _).2 _).2 (AD.2 ⟨r,by simp,by simp⟩)
   grind
theorem y5n (kind:Int) (l m:List R4): ∀(k i:Nat) (out:List R4) (last:List R2) (first:Nat),(jF kind l m k i out last first).length ≤out.length+k*(ysV l m).length
 | 0,i,out,last,first=>by show out.length≤_;omega
 | k+1,i,out,last,first=>by
  have hs:=y6e (ysV l m) ((ysV l m).map (w9g kind l m (rd (xsV l m) i)));unfold jF;cases decide (0<i)&&Kf (y1i kind l m (rd (xsV l m) i)) last
  ·refine AE (y5n kind l m k (i+1) _ _ _) ?_;unfold u6p y1i;rw [AO,Bg,Nat.succ_mul];omega
  ·refine AE (y5n kind l m k (i+1) _ _ _) ?_;unfold v5p;rw [AO,Bg,BB,BT,Nat.succ_mul];omega
theorem w8j (l:List R4) (h:l.length≤1600):(joV 2 l []).length ≤10240000:=by have h1:=Jo l [];have h2:=z9b l [];have h3:=y5n 2 l [] ((xsV l []).length - 1) 0 [] [] 0;simp only [Bx] at h1 h2 h3;have h4:((xsV l []).length - 1)*(ysV l []).length ≤3200*3200:=BQ (by omega) (by omega);unfold joV;omega
def j2p (xs:List Int):Prop:=xs.length≤12∧(∀x∈xs,-12≤x∧x≤12)∧xs.Pairwise (· < ·)∧0<xs.length
theorem z6p {xs:List Int} (h:j2p xs) {i:Nat} (hi:i<xs.length): -12≤rd xs i∧rd xs i≤12:=h.2.1 _ (by grind [Xz])
theorem uX_12 {S:List R6} (h:w7v S=true) (hn:S≠ []) (i:Int):j2p (uX S i):=by
 unfold uX;cases i == 0
 ·obtain ⟨a,b,c,d⟩:=z8o h 0;exact ⟨a,b,c,d hn⟩
 ·obtain ⟨a,b,c,d⟩:=z8o h 1;exact ⟨a,b,c,d hn⟩
theorem uY_12 {S:List R6} (h:w7v S=true) (hn:S≠ []) (i:Int):j2p (uY S i):=by
 unfold uY;cases i == 0
 ·cases i == 1
  ·obtain ⟨a,b,c,d⟩:=z8o h 1;exact ⟨a,b,c,d hn⟩
  ·obtain ⟨a,b,c,d⟩:=z8o h 2;exact ⟨a,b,c,d hn⟩
 ·obtain ⟨a,b,c,d⟩:=z8o h 2;exact ⟨a,b,c,d hn⟩
section
variable (S N:List R6) (m:R6) (hS:w7v S=true) (hN:N.length≤1000)
include hS hN
theorem u5g (out:List R7) (d a own oth x:Int) (zs xs ys:List Int) (v15:Int) (hy:j2p ys) (hx: -12≤x∧x≤12): ∀(k:Nat) (y:Int) (acc:List R4),y+(k:Int)=z9r ys→ -12≤y→acc.length+k≤2000→
  ∃n,∀M,Zr (Xh S N m.a m.b m.c m.d m.e m.f) (M+n) (.to (.h3 out d a zs xs ys v15 own oth acc x y))=Zr (Xh S N m.a m.b m.c m.d m.e m.f) M (.to (.h2 out d a zs xs ys v15 own oth (acc++v8x (y0b S N m a own oth) x k y) (x+1)))
 | 0,y,acc,h,_,_=>by
  have _u:=hS;have _v:=hN;have h0:=hy.2.2.2;have hl:=hy.1;refine ⟨1,fun M=> ?_⟩;rw [Zw,show v8x (y0b S N m a own oth) x 0 y=[] from rfl,AB]
  grind [Zj,z9r,Xh]
 | k +1,y,acc,h,hy0,ha=>by
  have h0:=hy.2.2.2;have hl:=hy.1;have hz:=z6p hy (show ys.length - 1<ys.length by omega);have fD:z9r ys=rd ys (ys.length - 1):=rfl;have e1:wrap .i64 ((ys.length:Int) - 1)=((ys.length - 1:Nat):Int):=by rw [Zj (by omega)];omega
  have oS: ∀u v w,Qm S u v w=true:=fun _ _ _=>Al (by have:=Av (Ba.1 hS).1;omega);have oN: ∀u v w,Qm N u v w=true:=fun _ _ _=>Al (by omega);have hq:=y2o (y0b S N m a own oth) x k (y+1);obtain ⟨n,hn⟩:=u5g out d a own oth x zs xs ys v15 hy hx k (y+1) (acc++(bif y0b S N m a own oth x y then [⟨x,y,x+1,y+1⟩] else [])) (by omega) (by omega) (by
   grind)
  refine ⟨n+1,fun M=> ?_⟩;have eR:v8x (y0b S N m a own oth) x (k+1) y=(bif y0b S N m a own oth x y then [⟨x,y,x+1,y+1⟩] else [])++v8x (y0b S N m a own oth) x k (y+1):=rfl;rw [eR,←AI,←hn M,←AG,Zw]
  congr 1
  have m1:decide (0+acc.length=acc.length)=true:=Al (by omega);have b4:Nat.beq 4 4=true:=rfl;have ez:((m.a == 0&&(m.b == 0&&m.c == 0))&&(m.d == 0&&(m.e == 0&&m.f == 0)))=eqB m o6:=by simp only [eqB,o6,Ah]
  unfold y0b wantQ;cases q0:eqB m o6 with
  | true=>
   cases q1:rh6V S (Uy a own x y).a (Uy a own x y).b (Uy a own x y).c with
   | true=>
    cases q2:rh6V N (Uy a oth x y).a (Uy a oth x y).b (Uy a oth x y).c with
    | true=>grind [Xh,Zb,Zj]
    | false=>simp (disch:=omega) only [Xh,e1,←fD,ez,q0,q1,q2,oS,oN,Zb,Zk,Zn,Zs,Zj,Ze,m1,b4,Ah,Ai,Ay,Ab,Aa]
   | false=>grind [Xh,Zb,Zj]
  | false=>
   cases q3:ribV m.a m.b m.c m.d m.e m.f (Uy a oth x y).a (Uy a oth x y).b (Uy a oth x y).c with
   | false=>grind [Xh,Zj]
   | true=>
    cases q1:rh6V S (Uy a own x y).a (Uy a own x y).b (Uy a own x y).c with
    | true=>
     cases q2:rh6V N (Uy a oth x y).a (Uy a oth x y).b (Uy a oth x y).c with
     | true=>grind [Xh,Zb,Zj]
     | false=>simp (disch:=omega) only [Xh,e1,←fD,ez,q0,q1,q2,q3,oS,oN,Zb,Zk,Zn,Zs,Zj,Ze,m1,b4,Ah,Ai,Ay,Ab,Aa]
    | false=>grind [Xh,Zb,Zj]
theorem u5h (out:List R7) (d a own oth:Int) (zs xs ys:List Int) (v15:Int) (hxs:j2p xs) (hy:j2p ys): ∀(k:Nat) (x:Int) (acc:List R4),x+(k:Int)=z9r xs→ -12≤x→acc.length+24*k≤1000→
  ∃n,∀M,Zr (Xh S N m.a m.b m.c m.d m.e m.f) (M+n) (.to (.h2 out d a zs xs ys v15 own oth acc x))=Zr (Xh S N m.a m.b m.c m.d m.e m.f) M (.to (.h4 out d a zs xs ys v15 (joV 2 (acc++w0e (y0b S N m a own oth) (z7d ys) (rd ys 0) k x) []) 0))
 | 0,x,acc,h,_,ha=>by
  have _u:=hS;have _v:=hN;have h0:=hxs.2.2.2;have hl:=hxs.1;refine ⟨1,fun M=> ?_⟩;rw [Zw,show w0e (y0b S N m a own oth) (z7d ys) (rd ys 0) 0 x=[] from rfl,AB]
  grind [Zj,z9r,Qj,Xh,Zb]
 | k+1,x,acc,h,hx0,ha=>by
  have h0:=hxs.2.2.2;have hl:=hxs.1;have hy0:=hy.2.2.2;have hz:=z6p hxs (show xs.length - 1<xs.length by omega);have fD:z9r xs=rd xs (xs.length - 1):=rfl;have hyl:z9r ys=rd ys (ys.length - 1):=rfl;have hz1:=z6p hy (show ys.length - 1<ys.length by omega);have hz2:=z6p hy hy0;have hle:rd ys 0≤z9r ys:=by
   rw [hyl];rcases Nat.eq_zero_or_pos (ys.length - 1) with q | q
   ·grind
   ·exact BR (y5g hy.2.2.1 q (by omega))
  have hsp:rd ys 0+(z7d ys:Int)=z9r ys:=by unfold z7d;omega
  have hs24:z7d ys≤24:=by grind
  have e1:wrap .i64 ((xs.length:Int) - 1)=((xs.length - 1:Nat):Int):=by rw [Zj (by omega)];omega
  have hr:=y2o (y0b S N m a own oth) x (z7d ys) (rd ys 0);obtain ⟨n1,h1⟩:=u5g S N m hS hN out d a own oth x zs xs ys v15 hy (by omega) (z7d ys) (rd ys 0) acc hsp (by omega) (by omega);obtain ⟨n2,h2⟩:=u5h out d a own oth zs xs ys v15 hxs hy k (x+1) (acc++v8x (y0b S N m a own oth) x (z7d ys) (rd ys 0)) (by omega) (by omega) (by grind);refine ⟨n2+n1+1,fun M=> ?_⟩
  grind [w0e,Xh,Zw]
theorem u5f (d a:Int) (zs xs ys:List Int) (i:Nat) (hi:i<zs.length) (hz:zs.length≤12) (R:List R4) (hR:R.length≤10240000) (ha:a=dhA d): ∀(k j:Nat) (out:List R7),j+k=R.length→out.length≤1000000000+j→
  ∃n,∀M,Zr (Xh S N m.a m.b m.c m.d m.e m.f) (M+n) (.to (.h4 out d a zs xs ys (i:Int) R (j:Int)))=Zr (Xh S N m.a m.b m.c m.d m.e m.f) M (.to (.h1 (out++(R.drop j).map (qdR d (rd zs i))) d a zs xs ys ((i+1:Nat):Int)))
 | 0,j,out,h,_=>by
  have _u:=hS;have _v:=hN;refine ⟨1,fun M=> ?_⟩
  grind [Zw,Xh,Zj]
 | k+1,j,out,h,ho=>by
  have hj:j<R.length:=by omega
  obtain ⟨n,hn⟩:=u5f d a zs xs ys i hi hz R hR ha k (j+1) (out++[qdR d (rd zs i) (rd R j)]) (by omega) (by grind);refine ⟨n+1,fun M=> ?_⟩;rw [Yg hj,A2,←AG,Zw,show out++qdR d (rd zs i) (rd R j)::(R.drop (j+1)).map (qdR d (rd zs i))=(out++[qdR d (rd zs i) (rd R j)])++(R.drop (j+1)).map (qdR d (rd zs i)) by simp,←hn M]
  congr 1
  have m1:decide (0+out.length=out.length)=true:=Al (by omega);have b7:Nat.beq 7 7=true:=rfl;subst ha;simp (disch:=omega) only [Xh,qdR,Zs,Zn,Ze,Zj,Zx,Zk,m1,b7,Ah,Ai,Ab]
end
theorem y4z {xs:List Int} (h:j2p xs):z7d xs≤24∧rd xs 0+(z7d xs:Int)=z9r xs:=by
 have h0:=h.2.2.2;have h1:=z6p h (show xs.length - 1<xs.length by omega);have h2:=z6p h h0;have hl:z9r xs=rd xs (xs.length - 1):=rfl;have hle:rd xs 0≤z9r xs:=by
  rw [hl];rcases Nat.eq_zero_or_pos (xs.length - 1) with q | q
  ·grind
  ·exact BR (y5g h.2.2.1 q (by omega))
 unfold z7d;omega
theorem x5b {S:List R6} (hS:w7v S=true) (hn:S≠ []) (N:List R6) (m:R6) (d p:Int):(x5c S N m d p).length ≤10240000:=by have h1:=(y4z (uX_12 hS hn (dhA d))).1;have h2:=(y4z (uY_12 hS hn (dhA d))).1;refine w8j _ (AE (x4x _ _ _ _ _) ?_);exact AE (BQ h1 h2) (by decide)
section
variable (S N:List R6) (m:R6) (hS:w7v S=true) (hN:N.length≤1000)
include hS hN
theorem u5i (d:Nat) (hd:d<6): ∀(k i:Nat) (out:List R7),i+k=(Kh S (dhA (d:Int))).length →out.length+10240000*k≤900000000→
  ∃n,∀M,Zr (Xh S N m.a m.b m.c m.d m.e m.f) (M+n) (.to (.h1 out (d:Int) (dhA (d:Int)) (Kh S (dhA (d:Int))) (uX S (dhA (d:Int))) (uY S (dhA (d:Int))) (i:Int)))=Zr (Xh S N m.a m.b m.c m.d m.e m.f) M (.to (.h0 (out++v9c S N m (d:Int) ((Kh S (dhA (d:Int))).drop i)) ((d+1:Nat):Int)))
 | 0,i,out,h,_=>by
  have hl:=(z8o hS (dhA (d:Int))).1;refine ⟨1,fun M=> ?_⟩
  grind [Zw,v9c,Xh,Zj]
 | k+1,i,out,h,ho=>by
  have hl:=(z8o hS (dhA (d:Int))).1;have hi:i<(Kh S (dhA (d:Int))).length :=by omega
  have hn:S≠ []:=fun e=>by
   have:(Kh S (dhA (d:Int))).length =0:=by rw [e];rfl
   omega
  have hx:=uX_12 hS hn (dhA (d:Int));have hy:=uY_12 hS hn (dhA (d:Int));have hb:=(z8o hS (dhA (d:Int))).2.1 (rd (Kh S (dhA (d:Int))) i) (by grind [Xz]);obtain ⟨s1,s2⟩:=y4z hx;have h0x:=hx.2.2.2;have h0y:=hy.2.2.2;have hx0:=z6p hx h0x;have hf:=x5b hS hn N m (d:Int) (rd (Kh S (dhA (d:Int))) i);obtain ⟨n1,h1⟩:=u5h S N m hS hN out (d:Int) (dhA (d:Int)) (ownP (d:Int) (rd (Kh S (dhA (d:Int))) i)) (othP (d:Int) (rd (Kh S (dhA (d:Int))) i)) (Kh S (dhA (d:Int))) (uX S (dhA (d:Int))) (uY S (dhA (d:Int))) (i:Int) hx hy (z7d (uX S (dhA (d:Int)))) (rd (uX S (dhA (d:Int))) 0) [] s2 (by omega) (by grind);obtain ⟨n2,h2⟩:=u5f S N m hS hN (d:Int) (dhA (d:Int)) (Kh S (dhA (d:Int))) (uX S (dhA (d:Int))) (uY S (dhA (d:Int))) i hi hl (x5c S N m (d:Int) (rd (Kh S (dhA (d:Int))) i)) (by omega) rfl (x5c S N m (d:Int) (rd (Kh S (dhA (d:Int))) i)).length 0 out (Af _) (by omega);obtain ⟨n3,h3⟩:=u5i d hd k (i+1) (out++(x5c S N m (d:Int) (rd (Kh S (dhA (d:Int))) i)).map (qdR (d:Int) (rd (Kh S (dhA (d:Int))) i))) (by omega) (by grind);refine ⟨n3+n2+n1+1,fun M=> ?_⟩;rw [AT] at h2;have eP:v9c S N m (d:Int) (rd (Kh S (dhA (d:Int))) i::(Kh S (dhA (d:Int))).drop (i+1))=(x5c S N m (d:Int) (rd (Kh S (dhA (d:Int))) i)).map (qdR (d:Int) (rd (Kh S (dhA (d:Int))) i))++v9c S N m (d:Int) ((Kh S (dhA (d:Int))).drop (i+1)):=rfl;have eS:Xh S N m.a m.b m.c m.d m.e m.f (.h1 out (d:Int) (dhA (d:Int)) (Kh S (dhA (d:Int))) (uX S (dhA (d:Int))) (uY S (dhA (d:Int))) (i:Int))=.to (.h2 out (d:Int) (dhA (d:Int)) (Kh S (dhA (d:Int))) (uX S (dhA (d:Int))) (uY S (dhA (d:Int))) (i:Int) (ownP (d:Int) (rd (Kh S (dhA (d:Int))) i)) (othP (d:Int) (rd (Kh S (dhA (d:Int))) i)) [] (rd (uX S (dhA (d:Int))) 0)):=by have z0:decide ((0:Int)≤0∧0<((uX S (dhA (d:Int))).length :Int))=true:=Al (by omega);unfold ownP othP;cases q:(Int.tmod (d:Int) 2 == 1) <;> simp (disch:=omega) only [Xh,q,z0,Zk,Zn,Zs,Ah,Ab,Aa]
  rw [Yg hi,eP,←AI,←h3 M,←h2 (M+n3),show M+(n3+n2+n1+1)=M+n3+n2+n1+1 by omega,Zw,eS];have h1:=h1 (M+n3+n2);rw [A8] at h1;exact h1
theorem u5j : ∀(k d:Nat) (out:List R7),d+k=6→out.length≤122880000*d→
  ∃n,Zr (Xh S N m.a m.b m.c m.d m.e m.f) n (.to (.h0 out (d:Int)))=.ret [.dat (out++rlqD S N m k d).length (Zz (out++rlqD S N m k d))]
 | 0,d,out,h,_=>by
  have _u:=hS;have _v:=hN;refine ⟨1,?_⟩
  grind [Zw,rlqD,Xh,Zq]
 | k +1,d,out,h,ho=>by
  have hd:d<6:=by omega
  have hl:=(z8o hS (dhA (d:Int))).1;obtain ⟨n1,h1⟩:=u5i S N m hS hN d hd (Kh S (dhA (d:Int))).length 0 out (Af _) (by omega);have hP:(v9c S N m (d:Int) (Kh S (dhA (d:Int)))).length ≤10240000*(Kh S (dhA (d:Int))).length :=by
   have go: ∀ps:List Int,(∀p∈ps,(x5c S N m (d:Int) p).length ≤10240000)→(v9c S N m (d:Int) ps).length ≤10240000*ps.length:=fun ps=>by
    induction ps with
    | nil=>intro _;exact AA _
    | cons p ps ih=>
     grind [v9c]
   by_cases hn:S=[]
   ·subst hn;exact AA _
   grind [x5b]
  obtain ⟨n2,h2⟩:=u5j k (d+1) (out++v9c S N m (d:Int) (Kh S (dhA (d:Int)))) (by omega) (by grind);refine ⟨n2+n1+1,?_⟩;have hL:=Av (Ba.1 hS).1;have o9: ∀i,Uk S i=true:=fun i=>Al (by omega);have e0:Xh S N m.a m.b m.c m.d m.e m.f (.h0 out (d:Int))=.to (.h1 out (d:Int) (dhA (d:Int)) (Kh S (dhA (d:Int))) (uX S (dhA (d:Int))) (uY S (dhA (d:Int))) ((0:Nat):Int)):=by
   grind [dhA,uX,uY,Xh,Zb]
  grind [Zw,rlqD]
end
theorem j0x (S N:List R6) (a b c d e f:Int) (h:x3l S N a b c d e f=true): ∃n,Zr (Xh S N a b c d e f) n (y2r S N a b c d e f)=.ret [.dat (rlqV S N a b c d e f).length (Zz (rlqV S N a b c d e f))]:=by
 obtain ⟨h1,h2⟩:=Ba.1 h;obtain ⟨n,hn⟩:=u5j S N ⟨a,b,c,d,e,f⟩ h1 (Av h2) 6 0 [] rfl (AA _)
 grind [y2r,rlqV]
def fRlq :List AVal→Option (AVal×Bool)
 | [a0,a1,.agg [.int .i64 bX,.int .i64 bY,.int .i64 bZ,.int .i64 cA,.int .i64 cB,.int .i64 cC]]=>match asL R6 a0,asL R6 a1 with
  | some (L0,g0,n0),some (L1,g1,n1)=>some (.dat (rlqV L0 L1 bX bY bZ cA cB cC).length (Zz (rlqV L0 L1 bX bY bZ cA cB cC)),isT R6 n0 g0&&(isT R6 n1 g1&&(x3l L0 L1 bX bY bZ cA cB cC)))
  | _,_=>none
 | _=>none
theorem j4i {S:Specs} (hS:Zv prog S):Zv prog (S.with nRlq fRlq):=by
 refine Qe hS (by kernel_rfl) fun args v h=> ?_;unfold fRlq at h;split at h
 ·rename_i a0 a1 bX bY bZ cA cB cC;split at h
  ·rename_i L0 g0 n0 L1 g1 n1 e0 e1;simp only [Ae,Ad,Ac] at h;obtain ⟨rfl,ho0,ho1,hw⟩:=h;obtain ⟨N,hN⟩:=j0x L0 L1 bX bY bZ cA cB cC hw;exact ⟨_,_,(.cons (Yc e0 ho0) (.cons (Yc e1 ho1) (.cons (.refl _) .nil))),rfl,v9b L0 L1 bX bY bZ cA cB cC N _ hN,3,rfl⟩
  ·cases h
 ·cases h
def Vr3q :Specs:=(Vr3.with nRlq fRlq)
theorem j6q :Zv prog Vr3q:=(j4i z8v)
inductive rlwS where
 | h0 (v4:List R6) (v5:Int)
def rlwC (l0:List Pa):rlwS→Cfg
 | .h0 v4 v5=>⟨⟨34,0,true⟩,none,(Zc prog 15 [1,1,1,0,1,0,0] 0),none,(Zy prog 14),⟨Yj [(0,(.dat l0.length (Zz l0))),(4,(.dat v4.length (Zz v4))),(5,(ii v5))],Wn [] 0,0,[],true⟩,[],.leaf⟩
def rlwN0 :List (Option (List Nat)):=[some [0,4,5]]
def rlwM0 :List (Option (List Nat)):=[]
def z6l (l0:List Pa):rlwS→Xx rlwS
 | .h0 v4 v5=>(bif (decide (v5<(l0.length:Int))) then (bif ((decide (0≤v5∧v5<(l0.length:Int)))&&true) then (bif (z0m 2 (cvT v4) (cvT (rd l0 v5.toNat).s)) then (bif ((Uw 2 (cvT v4) (cvT (rd l0 v5.toNat).s)) != 0) then (.ret [.nils,(.int .i64 (Uw 2 (cvT v4) (cvT (rd l0 v5.toNat).s)))]) else (.to (.h0 (Wm 2 (cvT v4) (cvT (rd l0 v5.toNat).s)) (wrap .i64 (v5+1))))) else .stuck) else .stuck) else (.ret [(.dat v4.length (Zz v4)),(.int .i64 0)]))
def y2q (l0:List Pa):Xx rlwS:=(bif (z7p (cvT l0)) then (bif ((y6y (cvT l0)) != 0) then (.ret [.nils,(.int .i64 (y6y (cvT l0)))]) else (.to (.h0 ([]:List R6) 0))) else .stuck)
theorem w6w (l0:List Pa): ∀s,Xy prog (Zy prog 15) (rlwC l0) (rlwC l0 s) (z6l l0 s)
 | .h0 v4 v5=>(lb (fun k0=>(lo fun aI=>(lo fun bD=>(lb (fun k1=>(lr 34 15 [1,1,1,0,1,0,0,1,0,0,1,0,1,0,0] 1 14 [(2,.nils),(3,(ii (Uw 2 (cvT v4) (cvT (rd l0 (tn v5)).s))))] (sl z8v 40 [] ⟨[],[],[some [2,3]],[]⟩ ⟨[],[],[]⟩ (bl 2 3) (tt k1 (pp (pp (xr v4) (pp (xI R6 (rd l0 (tn v5)).s.length (Zz (rd l0 (tn v5)).s)) (xw bD))) (ww aI (tt k0 nn))))))) (fun k1=>(sl z8v 46 [] ⟨[],[],rlwN0,rlwM0⟩ ⟨[],[],[]⟩ (bl 2 1) (tt k1 (pp (pp (xr v4) (pp (xI R6 (rd l0 (tn v5)).s.length (Zz (rd l0 (tn v5)).s)) (xw bD))) (ww aI (tt k0 nn)))))))))) (fun k0=>(lr 34 3 [1,1,1,1,0] 1 14 [(2,(.dat v4.length (Zz v4))),(3,(ii 0))] (sl z8v 16 [] ⟨[],[],[some [2,3]],[]⟩ ⟨[],[],[]⟩ [false] (tt k0 nn)))))
theorem x7q (l0:List Pa):Xy prog (Zy prog 15) (rlwC l0) (Zg prog 15 [(.dat l0.length (Zz l0))] true []) (y2q l0):=(lo fun bH=>(lb (fun k0=>(lr 34 15 [1,0,1,0,0] 1 14 [(2,.nils),(3,(ii (y6y (cvT l0))))] (sl z8v 20 [] ⟨[],[],[some [2,3]],[]⟩ ⟨[],[],[]⟩ [true] (pp (pp (xr l0) (xw bH)) (tt k0 (pp (pp (xr l0) (xw bH)) nn)))))) (fun k0=>(sl z8v 25 [] ⟨[],[],rlwN0,rlwM0⟩ ⟨[(4,.list 0 (Zz ([]:List R6)))],[],[]⟩ [false] (tt k0 (pp (pp (xr l0) (xw bH)) nn))))))
theorem v9a (l0:List Pa) (n:Nat) (vs:List AVal) (h:Zr (z6l l0) n (y2q l0)=.ret vs):Uz prog (Zy prog 15) (Zg prog 15 [(.dat l0.length (Zz l0))] true []) vs:=by have:=Zd (w6w l0) n _ (x7q l0);rwa [h] at this
def rwE :List R6→List Pa→Int
 | _,[]=>0
 | acc,x::r=>bif Uw 2 acc x.s != 0 then Uw 2 acc x.s else rwE (Wm 2 acc x.s) r
def rwL :List R6→List Pa→List R6
 | acc,[]=>acc
 | acc,x::r=>rwL (Wm 2 acc x.s) r
def w2z (l:List Pa):Int:=bif y6y l != 0 then y6y l else rwE [] l
def u5e (l:List Pa):List R6:=y7f (w2z l) (rwL [] l)
def x3k (l:List Pa):Bool:=smP l
theorem w3c : ∀{l:List Pa},rkE l=0→ ∀x∈l,Xm x.s=0
 | [],_,x,hx=>by cases hx
 | y::l,h,x,hx=>by
  unfold rkE at h;rcases Yy (Xm y.s != 0) with q | q
  ·rw [q,Ab] at h;rw [h] at q;cases q
  ·rw [q,Aa] at h;rcases AM.1 hx with rfl | hx
   ·simpa using q
   ·exact w3c h x hx
theorem x0x {l:List Pa} (h:y6y l=0):l.length≤50∧rkE l=0∧rkG l l.length 0=0:=by
 unfold y6y at h
 grind
theorem j1f {l:List Pa} (h:y6y l=0) {i:Nat} (hi:i<l.length):Xm (rd l i).s =0∧(rd l i).s.length ≤400:=by
 grind [w3c,x0x,Xz,z4u,z0e]
theorem j1r (k:Int) (l m:List R6):(Wm k l m).length ≤400:=by
 unfold Wm y7f;rcases Yy (Uw k l m != 0) with q | q
 ·grind
 ·rw [q,Aa];rcases y9j k l m with h | h
  ·exact h
  ·have e:Uw k l m=0:=by simpa using q
   unfold Uw at e
   grind
theorem u5d (l:List Pa) (hl:y6y l=0): ∀(k i:Nat) (acc:List R6),i+k=l.length→acc.length≤400→ ∃n,Zr (z6l l) n (.to (.h0 acc (i:Int)))=.ret (z8y (rwE acc (l.drop i)) (rwL acc (l.drop i)))
 | 0,i,acc,h,_=>by have h5:=(x0x hl).1;rw [As (by omega)];refine ⟨1,?_⟩;rw [Zw];simp (disch:=omega) only [z6l,Yb,Aa,Zq];rfl
 | k+1,i,acc,h,ha=>by
  have h5:=(x0x hl).1;have hi:i<l.length:=by omega
  have hs:=(j1f hl hi).2;obtain ⟨n,hn⟩:=u5d l hl k (i+1) (Wm 2 acc (rd l i).s) (by omega) (j1r _ _ _);refine ⟨n+1,?_⟩;rw [Zw,Yg hi];have oJ:z0m 2 acc (rd l i).s =true:=Yi ⟨y9i (by omega),y9i (by omega)⟩;have e:z6l l (.h0 acc (i:Int))=bif Uw 2 acc (rd l i).s != 0 then .ret [.nils,.int .i64 (Uw 2 acc (rd l i).s)] else .to (.h0 (Wm 2 acc (rd l i).s) ((i+1:Nat):Int)):=by
   grind [z6l,Zb,Zj]
  rw [e];unfold rwE rwL;rcases Yy (Uw 2 acc (rd l i).s != 0) with q | q;all_goals grind [Zq,Vv]
theorem j0w (l:List Pa) (h:x3k l=true): ∃n,Zr (z6l l) n (y2q l)=.ret (z8y (w2z l) (rwL [] l)):=by
 have h:smP l=true:=h;unfold y2q w2z;simp only [Zb,show z7p l=true from h,Ab];rcases Yy (y6y l != 0) with q | q
 ·exact ⟨0,by rw [q,Ab,Ab,Vv _ q];rfl⟩
 ·obtain ⟨n,hn⟩:=u5d l (by simpa using q) l.length 0 [] (Af _) (AA _)
  grind
def fRlw :List AVal→Option (AVal×Bool)
 | [a0]=>match asL Pa a0 with
  | some (L0,g0,n0)=>some (.tup [.dat (u5e L0).length (Zz (u5e L0)),.int .i64 (w2z L0)],isT Pa n0 g0&&(x3k L0))
  | _=>none
 | _=>none
theorem j4h {S:Specs} (hS:Zv prog S):Zv prog (S.with nRlw fRlw):=by
 refine x6d hS (by kernel_rfl) fun args v h=> ?_;unfold fRlw at h;split at h
 ·rename_i a0;split at h
  ·rename_i L0 g0 n0 e0;simp only [Ae,Ad,Ac] at h;obtain ⟨rfl,ho0,hw⟩:=h;obtain ⟨N,hN⟩:=j0w L0 hw;exact ⟨_,_,(.cons (Yc e0 ho0) .nil),Qt _ _,v9a L0 N _ hN,3,z2n _ _⟩
  ·cases h
 ·cases h
def eqP (x y:Pa):Bool:=eqB (bxP x) (bxP y)&&Ke x.s y.s
def rlmF (l m:List Pa):Nat→Nat→Bool
 | 0,_=>true
 | k+1,i=>eqP (rd l i) (rd m i)&&rlmF l m k (i+1)
def rlmV (l m:List Pa):Bool:=bif ((l.length:Int) != (m.length:Int)) then false else rlmF l m l.length 0
def z4a (l _m:List Pa):Bool:=smP l&&l.all fun x=>decide (x.s.length≤1000000)
theorem u5m (l m:List Pa) (hs:smP l=true) (h6: ∀x∈l,x.s.length≤1000000) (hm:l.length=m.length): ∀(k i:Nat),i+k=l.length→ ∃n,Zr (z3z l m) n (.to (.h0 (i:Int)))=.ret [.bool (rlmF l m k i)]
 | 0,i,h=>by have hl:=z6d hs;refine ⟨1,?_⟩;rw [Zw];simp (disch:=omega) only [z3z,Yb,Aa,Zq];rfl
 | k+1,i,h=>by
  have hl:=z6d hs;have hi:i<l.length:=by omega
  obtain ⟨n,hn⟩:=u5m l m hs h6 hm k (i+1) (by omega);refine ⟨n+1,?_⟩;have o6': ∀y,Vn (rd l i).s y=true:=fun y=>Al (h6 _ (by grind [Xz]));have e:z3z l m (.h0 (i:Int))=bif eqP (rd l i) (rd m i) then .to (.h0 ((i+1:Nat):Int)) else .ret [.bool false]:=by
   unfold eqP;cases q:eqB (bxP (rd l i)) (bxP (rd m i)) with
   | false=>
    grind [eqB,bxP,z3z]
   | true=>
    simp only [eqB,bxP,Ah] at q
    grind [z3z,Zb,Zj]
  grind [Zw,rlmF,Zq]
theorem j1c (l m:List Pa) (h:z4a l m=true): ∃n,Zr (z3z l m) n (y2u l m)=.ret [.bool (rlmV l m)]:=by
 obtain ⟨hs,h6⟩:=Ba.1 h;unfold y2u rlmV;rcases Yy ((l.length:Int) != (m.length:Int)) with q | q
 ·exact ⟨0,by rw [q];rfl⟩
 ·obtain ⟨n,hn⟩:=u5m l m hs (fun x hx=>Av (Ar.1 h6 x hx)) (by grind) l.length 0 (Af _)
  grind
def fRlm :List AVal→Option (AVal×Bool)
 | [a0,a1]=>match asL Pa a0,asL Pa a1 with
  | some (L0,g0,n0),some (L1,g1,n1)=>some (.bool (rlmV L0 L1),isT Pa n0 g0&&(isT Pa n1 g1&&(z4a L0 L1)))
  | _,_=>none
 | _=>none
theorem j4l {S:Specs} (hS:Zv prog S):Zv prog (S.with nRlm fRlm):=by
 refine Qe hS (by kernel_rfl) fun args v h=> ?_;unfold fRlm at h;split at h
 ·rename_i a0 a1;split at h
  ·rename_i L0 g0 n0 L1 g1 n1 e0 e1;simp only [Ae,Ad,Ac] at h;obtain ⟨rfl,ho0,ho1,hw⟩:=h;obtain ⟨N,hN⟩:=j1c L0 L1 hw;exact ⟨_,_,(.cons (Yc e0 ho0) (.cons (Yc e1 ho1) .nil)),rfl,v9i L0 L1 N _ hN,3,rfl⟩
  ·cases h
 ·cases h
def nrX (x:Pa):Bool:= !decide ((x.s.length:Int)>6)&&(x9d x.s&&(x6c x.a x.b x.c (-2000000)&&x6c x.d x.e x.f (-2000000)))
def v0d (l:List Pa):Bool:=bif decide ((l.length:Int)>50) then decide ((l.length:Int)≤55) else l.all nrX&&decide ((l.length:Int)≤6)
def z7n (_l:List Pa):Bool:=true
theorem u5l (l:List Pa) (hl:l.length≤50): ∀(k i:Nat),i+k=l.length→ ∃n,Zr (z0l l) n (.to (.h0 (i:Int)))=.ret [.bool ((l.drop i).all nrX&&decide ((l.length:Int)≤6))]
 | 0,i,h=>by
  refine ⟨1,?_⟩
  grind [Zw,z0l,Zq]
 | k +1,i,h=>by
  have hi:i<l.length:=by omega
  obtain ⟨n,hn⟩:=u5l l hl k (i+1) (by omega);refine ⟨n+1,?_⟩;rw [Zw,Yg hi,List.all_cons];have e:z0l l (.h0 (i:Int))=bif nrX (rd l i) then .to (.h0 ((i+1:Nat):Int)) else .ret [.bool false]:=by
   unfold nrX;cases q1:decide (((rd l i).s.length :Int)>6) with
   | true=>grind [z0l]
   | false=>
    cases q2:x9d (rd l i).s with
    | false=>grind [z0l,Kr,Zb]
    | true=>
     cases q3:x6c (rd l i).a (rd l i).b (rd l i).c (-2000000) with
     | false=>grind [z0l,Kr]
     | true=>
      cases q4:x6c (rd l i).d (rd l i).e (rd l i).f (-2000000) with
      | false=>grind [z0l,Kr]
      | true=>grind [z0l,Kr,Zb,Zj]
  grind [Zq]
theorem j1b (l:List Pa) (h:z7n l=true): ∃n,Zr (z0l l) n (y2t l)=.ret [.bool (v0d l)]:=by
 unfold y2t v0d;by_cases g:(l.length:Int)>50
 ·exact ⟨0,by rw [Yn g];rfl⟩
 ·obtain ⟨n,hn⟩:=u5l l (by omega) l.length 0 (Af _)
  grind
def fRln :List AVal→Option (AVal×Bool)
 | [a0]=>match asL Pa a0 with
  | some (L0,g0,n0)=>some (.bool (v0d L0),isT Pa n0 g0&&(z7n L0))
  | _=>none
 | _=>none
theorem j4k {S:Specs} (hS:Zv prog S):Zv prog (S.with nRln fRln):=by
 refine Qe hS (by kernel_rfl) fun args v h=> ?_;unfold fRln at h;split at h
 ·rename_i a0;split at h
  ·rename_i L0 g0 n0 e0;simp only [Ae,Ad,Ac] at h;obtain ⟨rfl,ho0,hw⟩:=h;obtain ⟨N,hN⟩:=j1b L0 hw;exact ⟨_,_,(.cons (Yc e0 ho0) .nil),rfl,v9h L0 N _ hN,3,rfl⟩
  ·cases h
 ·cases h
def Vr4 :Specs:=(Vr3q.with nRlw fRlw)
theorem Vr4_ok :Zv prog Vr4:=(j4h j6q)
def X3 :Specs:=(((Vr4.with nRlm fRlm).with nRln fRln).with w4g fSco).with nRlo fRlo
theorem j6p :Zv prog X3:=j4j (j4a (j4k (j4l Vr4_ok)))
inductive llvS where
def llvC (l0:List Pa) (x1:Int) (x2:Int):llvS→Cfg
 :=nofun
def x9k (l0:List Pa) (x1:Int) (x2:Int):llvS→Xx llvS
 :=nofun
def y3g (l0:List Pa) (x1:Int) (x2:Int):Xx llvS:=(bif (z7n (cvT l0)) then (bif (!(v0d (cvT l0))) then (.ret [(.bool true)]) else (bif (z7g (cvT l0) x1 x2) then (bif (z3y (cvT l0) x1 x2) then (bif (z4a (cvT (Vx (cvT l0) x1 x2)) (cvT (z3k (cvT l0) x1 x2))) then (bif (rlmV (cvT (Vx (cvT l0) x1 x2)) (cvT (z3k (cvT l0) x1 x2))) then (.ret [(.bool ((Wp (cvT l0) x1 x2) == (Kk (cvT l0) x1 x2)))]) else (.ret [(.bool false)])) else .stuck) else .stuck) else .stuck)) else .stuck)
theorem w7z (l0:List Pa) (x1:Int) (x2:Int): ∀s,Xy prog (Zy prog 3) (llvC l0 x1 x2) (llvC l0 x1 x2 s) (x9k l0 x1 x2 s)
 :=nofun
theorem x9l (l0:List Pa) (x1:Int) (x2:Int):Xy prog (Zy prog 3) (llvC l0 x1 x2) (Zg prog 3 [(.dat l0.length (Zz l0)),(.int .i64 x1),(.int .i64 x2)] true []) (y3g l0 x1 x2):=(lo fun bH=>(lb (fun k0=>(lr 36 3 [1,0,1,0,0] 1 3 [(6,(.bool true))] (sl j6p 16 [] ⟨[],[],[some [6]],[]⟩ ⟨[],[],[]⟩ [true] (tt k0 (pp (pp (xr l0) (xw bH)) nn))))) (fun k0=>(lo fun aI=>(lo fun bD=>(lo fun cD=>(lb (fun k1=>(lr 36 3 [1,1,1,1,0] 1 3 [(6,(.bool ((Wp (cvT l0) x1 x2) == (Kk (cvT l0) x1 x2))))] (sl j6p 49 [] ⟨[],[],[some [6]],[]⟩ ⟨[],[],[]⟩ [false,true,true,true] (tt k1 (pp (pp (xI Pa (Vx (cvT l0) x1 x2).length (Zz (Vx (cvT l0) x1 x2))) (pp (xI Pa (z3k (cvT l0) x1 x2).length (Zz (z3k (cvT l0) x1 x2))) (xw cD))) (pp (pp (xr l0) (xw bD)) (pp (pp (xr l0) (xw aI)) (tt k0 (pp (pp (xr l0) (xw bH)) nn))))))))) (fun k1=>(lr 36 3 [1,1,1,1,0] 1 3 [(6,(.bool false))] (sl j6p 49 [] ⟨[],[],[some [6]],[]⟩ ⟨[],[],[]⟩ [false,false,false,false] (tt k1 (pp (pp (xI Pa (Vx (cvT l0) x1 x2).length (Zz (Vx (cvT l0) x1 x2))) (pp (xI Pa (z3k (cvT l0) x1 x2).length (Zz (z3k (cvT l0) x1 x2))) (xw cD))) (pp (pp (xr l0) (xw bD)) (pp (pp (xr l0) (xw aI)) (tt k0 (pp (pp (xr l0) (xw bH)) nn))))))))))))))))
theorem llv_ends (l0:List Pa) (x1:Int) (x2:Int) (n:Nat) (vs:List AVal) (h:Zr (x9k l0 x1 x2) n (y3g l0 x1 x2)=.ret vs):Uz prog (Zy prog 3) (Zg prog 3 [(.dat l0.length (Zz l0)),(.int .i64 x1),(.int .i64 x2)] true []) vs:=by have:=Zd (w7z l0 x1 x2) n _ (x9l l0 x1 x2);rwa [h] at this
def inS (X:List R6) (x y z:Int):Prop:= ∃r∈X,(r.a≤x∧x<r.d)∧(r.b≤y∧y<r.e)∧(r.c≤z∧z<r.f)
theorem Kt (X:List R6) (x y z:Int):inS X x y z↔ptL z0j.inB X (z,x,y):=by
 constructor
 ·rintro ⟨r,hr,h1,h2,h3⟩;exact ⟨r,hr,h3.1,h3.2,h1.1,h1.2,h2.1,h2.2⟩
 ·rintro ⟨r,hr,h1,h2,h3,h4,h5,h6⟩;exact ⟨r,hr,⟨h3,h4⟩,⟨h5,h6⟩,h1,h2⟩
theorem x5a (E:Int→Int) (cs:List Int): ∀(k i:Nat),y1l E cs k i=0→ ∀j,i≤j→j<i+k→E (rd cs j)=0
 | 0,i,_,j,h1,h2=>by omega
 | k+1,i,h,j,h1,h2=>by
  change (bif E (rd cs i) != 0 then E (rd cs i) else y1l E cs k (i+1))=0 at h;cases g:(E (rd cs i) != 0) with
  | true=>rw [g,Ab] at h;rw [h] at g;cases g
  | false=>
   rw [g,Aa] at h;rcases A3 h1 with e | e
   ·rw [←e];simpa using g
   ·exact x5a E cs k (i+1) h j e (by omega)
theorem Dim.goS_congr {α β:Type} (D:Dim α β) (f g:Int→List β) (cs:List Int): ∀(k i:Nat) (s:Sw α β),(∀j,i≤j→j<i+k→f (rd cs j)=g (rd cs j))→D.goS f cs k i s=D.goS g cs k i s
 | 0,i,s,_=>rfl
 | k+1,i,s,h=>by show D.goS f cs k (i+1) (D.oneS (f (rd cs i)) _ _ s)=D.goS g cs k (i+1) (D.oneS (g (rd cs i)) _ _ s);rw [h i (Aq _) (by omega)];exact goS_congr D f g cs k (i+1) _ fun j h1 h2=>h j (by omega) (by omega)
theorem w2q {q:Op} {a b:List R6} (h:slE q a b=0):Yx a=0∧Yx b=0∧y1l (slA q a b) (D6.cuts (a++b)) ((D6.cuts (a++b)).length - 1) 0=0:=by
 unfold slE at h;cases g1:(Yx a != 0) with
 | true=>rw [g1,Ab] at h;rw [h] at g1;cases g1
 | false=>
  cases g2:(Yx b != 0) with
  | true=>rw [g1,g2,Aa,Ab] at h;rw [h] at g2;cases g2
  | false=>
   rw [g1,g2,Aa,Aa] at h;unfold eJ at h;refine ⟨by simpa using g1,by simpa using g2,?_⟩;cases g3:(y1l (slA q a b) (D6.cuts (a++b)) ((D6.cuts (a++b)).length - 1) 0 != 0) with
   | true=>rw [g3,Ab] at h;rw [h] at g3;cases g3
   | false=>simpa using g3
theorem v2z {l:List R4} (h:y1j l=0): ∀r∈l,Jj r=true:=by
 unfold y1j at h;cases g1:decide (400<l.length) with
 | true=>rw [g1] at h;cases h
 | false=>
  cases g2:l.all Jj with
  | false=>rw [g1,g2] at h;cases h
  | true=>exact Ar.1 g2
theorem v2u {l:List R4} (h:Yo l=0):l.length≤400∧(∀r∈l,Jj r=true)∧Zm l=D4.out l:=by
 unfold Yo at h;cases g1:decide (400<l.length) with
 | true=>rw [g1] at h;cases h
 | false=>
  cases g2:l.all Jj with
  | false=>rw [g1,g2] at h;cases h
  | true=>
   rw [g1,g2,Aa,Ab] at h;have hl:l.length≤400:=by have:=AX g1;omega
   refine ⟨hl,Ar.1 g2,?_⟩;have h2:(D4.out l).length ≤400:=x2e h;exact (z5a (Ar.1 g2) hl h2).1
instance ptDec6 (l:List R6) (p:Int×Int×Int):Decidable (ptL z0j.inB l p):=Classical.propDecidable _
theorem v1k {q:Op} {a b:List R6} {x:Int} (h:slA q a b x=0):Ug.can (slS q a b x)∧ ∀p,ptL Ug.inB (slS q a b x) p↔opB q.k (decide (ptL z0j.inB a (x,p))) (decide (ptL z0j.inB b (x,p)))=true:=by
 obtain ⟨h1,h2,h3⟩:=x0l h;obtain ⟨c1,c2,_⟩:=w3i h3;obtain ⟨k1,k2,_⟩:=y4q q.k (v2z c1) (v2z c2);refine ⟨k1,fun p=> ?_⟩;have e: ∀l:List R6,Yo (D6.inn l x)=0→decide (ptL Ug.inB (Zm (D6.inn l x)) p)=decide (ptL z0j.inB l (x,p)):=fun l hl=>by
  obtain ⟨m1,m2,m3⟩:=v2u hl;have:ptL Ug.inB (Zm (D6.inn l x)) p↔ptL z0j.inB l (x,p):=by rw [m3,(Ko m2 m1).2 p];exact Dim.pt_inn (D:=D6) Ug.inB l x p
  exact decide_eq_decide.2 this
 rw [show ptL Ug.inB (slS q a b x) p↔_ from k2 p,e a h1,e b h2]
theorem w2p {q:Op} {a b:List R6} (h:y1l (slA q a b) (D6.cuts (a++b)) ((D6.cuts (a++b)).length - 1) 0=0):z0j.can (slJ q a b)∧ ∀p,ptL z0j.inB (slJ q a b) p↔opB q.k (decide (ptL z0j.inB a p)) (decide (ptL z0j.inB b p))=true:=by
 have hf:=x5a _ _ _ _ h;have hc:(D6.cuts (a++b)).Pairwise (· < ·):=by show (Kz (D6.ends (a++b))).Pairwise (· < ·);rw [Qf];exact (Xd _).1
 have eS:slJ q a b=(D6.goS (fun x=>bif slA q a b x != 0 then [] else slS q a b x) (D6.cuts (a++b)) ((D6.cuts (a++b)).length - 1) 0 ⟨[],[],0,0⟩).out :=by unfold slJ;rw [D6.goS_congr (slS q a b) (fun x=>bif slA q a b x != 0 then [] else slS q a b x)];intro j h1 h2;show _=bif slA q a b _ != 0 then _ else _;rw [hf j h1 h2];rfl
 have hs: ∀x,Ug.can (bif slA q a b x != 0 then [] else slS q a b x):=fun x=>by
  cases g:(slA q a b x != 0) with
  | true=>exact Ug.nil
  | false=>exact (v1k (by simpa using g)).1
 obtain ⟨h1,h2⟩:=Dim.goS_can z1n Kj Ug (cs:=D6.cuts (a++b)) hc hs;rw [eS];refine ⟨h1,fun ⟨x,p⟩=> ?_⟩;rw [show ptL z0j.inB _ (x,p)↔_ from h2 x p];have ia: ∀j,j+1<(D6.cuts (a++b)).length →rd (D6.cuts (a++b)) j≤x→x<rd (D6.cuts (a++b)) (j+1)→(ptL Ug.inB (bif slA q a b (rd (D6.cuts (a++b)) j) != 0 then [] else slS q a b (rd (D6.cuts (a++b)) j)) p↔opB q.k (decide (ptL z0j.inB a (x,p))) (decide (ptL z0j.inB b (x,p)))=true):=fun j j1 j2 j3=>by
  have z:=hf j (AA _) (by omega);have e: ∀l:List R6,(∀r∈l,r∈a++b)→decide (ptL z0j.inB l (rd (D6.cuts (a++b)) j,p))=decide (ptL z0j.inB l (x,p)):=fun l hl=>by
   have:ptL z0j.inB l (rd (D6.cuts (a++b)) j,p)↔ptL z0j.inB l (x,p):=by rw [show ptL z0j.inB l (rd (D6.cuts (a++b)) j,p)↔_ from (Dim.pt_inn (D:=D6) Ug.inB l _ p).symm,Dim.inn_slab (a++b) l hl j1 j2 j3];exact Dim.pt_inn (D:=D6) Ug.inB l x p
   exact decide_eq_decide.2 this
  rw [z,show ((0:Int) != 0)=false from rfl,Aa,(v1k z).2,e a fun r hr=>AH.2 (.inl hr),e b fun r hr=>AH.2 (.inr hr)]
 constructor
 ·rintro ⟨j,j1,j2,j3,j4⟩;exact (ia j j1 j2 j3).1 j4
 ·intro hp;refine Bt fun hn=> ?_;have hx: ∀j,j+1<(D6.cuts (a++b)).length → ¬(rd (D6.cuts (a++b)) j≤x∧x<rd (D6.cuts (a++b)) (j+1)):=fun j j1 j2=>hn ⟨j,j1,j2.1,j2.2,(ia j j1 j2.1 j2.2).2 hp⟩;have e: ∀l:List R6,(∀r∈l,r∈a++b)→decide (ptL z0j.inB l (x,p))=false:=fun l hl=>Az fun g=>by have g:=(Dim.pt_inn (D:=D6) Ug.inB l x p).2 g;rw [Dim.inn_out (a++b) l hl hx] at g;exact z9p _ _ g
  rw [e a fun r hr=>AH.2 (.inl hr),e b fun r hr=>AH.2 (.inr hr),u6s] at hp;cases hp
instance inSDec (l:List R6) (x y z:Int):Decidable (inS l x y z):=Classical.propDecidable _
theorem u9m {q:Op} {a b:List R6} (h:slE q a b=0):z0j.can (slJ q a b)∧ ∀p,ptL z0j.inB (slJ q a b) p↔opB q.k (decide (ptL z0j.inB a p)) (decide (ptL z0j.inB b p))=true:=w2p (w2q h).2.2
theorem Dim.goS_cg {α β:Type} (D:Dim α β) (f g:Int→List β) (cs:List Int): ∀(k i:Nat) (s:Sw α β),(∀j,i≤j→j<i+k→f (rd cs j)=g (rd cs j))→D.goS f cs k i s=D.goS g cs k i s
 | 0,i,s,_=>rfl
 | k+1,i,s,h=>by show D.goS f cs k (i+1) (D.oneS (f (rd cs i)) _ _ s)=D.goS g cs k (i+1) (D.oneS (g (rd cs i)) _ _ s);rw [h i (Aq _) (by omega)];exact goS_cg D f g cs k (i+1) _ fun j h1 h2=>h j (by omega) (by omega)
theorem y6d {n:Nat} (h:y7g n=0):n≤400:=by
 unfold y7g at h;by_cases q:(n:Int)>400
 ·rw [Al q] at h;cases h
 ·omega
theorem v2s {l:List R4} (h:Yo l=0):l.length≤400∧(∀r∈l,Jj r=true)∧Zm l=D4.out l:=by
 unfold Yo at h;cases g1:decide (400<l.length) with
 | true=>rw [g1] at h;cases h
 | false=>
  cases g2:l.all Jj with
  | false=>rw [g1,g2] at h;cases h
  | true=>
   rw [g1,g2,Aa,Ab] at h;have hl:l.length≤400:=by have:=AX g1;omega
   refine ⟨hl,Ar.1 g2,?_⟩;exact (z5a (Ar.1 g2) hl (y6d h)).1
theorem w3r {l:List R6}: ∀(k i:Nat),okF l k i=true→ ∀j,i≤j→j<i+k→Yo (D6.inn l (rd (D6.cuts l) j))=0
 | 0,i,h,j,h1,h2=>by omega
 | k+1,i,h,j,h1,h2=>by
  unfold okF at h;rcases Yy (v0g l (rd (D6.cuts l) i)) with q | q
  ·rw [q] at h;cases h
  ·rw [q,Aa] at h;rcases A3 h1 with e | e
   ·rw [←e];unfold v0g at q
    simpa using q
   ·exact w3r k (i+1) h j e (by omega)
theorem w2n {l:List R6} (h:Ku l=0):l.length≤400∧(∀r∈l,Kv r=true)∧okF l ((D6.cuts l).length - 1) 0=true∧(D6.out l).length ≤400:=by
 unfold Ku at h;cases g1:decide (400<l.length) with
 | true=>rw [g1] at h;cases h
 | false=>
  cases g2:l.all Kv with
  | false=>rw [g1,g2] at h;cases h
  | true=>
   rw [g1,g2,Aa,Ab] at h;cases g3:okF l ((D6.cuts l).length - 1) 0 with
   | false=>rw [g3,Aa] at h;have:=j5w _ _ g3;rw [h] at this;cases this
   | true=>rw [g3,Ab] at h;exact ⟨by have:=AX g1;omega,Ar.1 g2,rfl,y6d h⟩
theorem x6u {l:List R6} (h:Ku l=0):Qp l=D6.out l:=by unfold Qp y7f;rw [h];rfl
theorem v1c {l:List R6} (h:Ku l=0):z0j.can (Qp l)∧ ∀x y z,inS (Qp l) x y z↔inS l x y z:=by
 obtain ⟨hl,hv,hok,ho⟩:=w2n h;have hf:=w3r _ _ hok;rw [x6u h];have hc:(D6.cuts l).Pairwise (· < ·):=by show (Kz (D6.ends l)).Pairwise (· < ·);rw [Qf];exact (Xd _).1
 have eS:D6.out l=(D6.goS (fun x=>bif Yo (D6.inn l x) != 0 then [] else Zm (D6.inn l x)) (D6.cuts l) ((D6.cuts l).length - 1) 0 ⟨[],[],0,0⟩).out :=by unfold Dim.out;rw [D6.go_goS,D6.goS_cg (D6.sec l) (fun x=>bif Yo (D6.inn l x) != 0 then [] else Zm (D6.inn l x))];intro j h1 h2;show _=bif Yo (D6.inn l _) != 0 then _ else _;rw [hf j h1 h2];rfl
 have hs: ∀x,Ug.can (bif Yo (D6.inn l x) != 0 then [] else Zm (D6.inn l x)):=fun x=>by
  cases g:(Yo (D6.inn l x) != 0) with
  | true=>exact Ug.nil
  | false=>obtain ⟨m1,m2,m3⟩:=v2s (show Yo (D6.inn l x)=0 by simpa using g);rw [Aa,m3];exact (Ko m2 m1).1
 obtain ⟨h1,h2⟩:=Dim.goS_can z1n Kj Ug (cs:=D6.cuts l) hc hs;rw [eS];refine ⟨h1,fun x y z=> ?_⟩;rw [Kt,Kt,show ptL z0j.inB _ (z,x,y)↔_ from h2 z (x,y)];have ia: ∀j,j+1<(D6.cuts l).length →rd (D6.cuts l) j≤z→z<rd (D6.cuts l) (j+1)→(ptL Ug.inB (bif Yo (D6.inn l (rd (D6.cuts l) j)) != 0 then [] else Zm (D6.inn l (rd (D6.cuts l) j))) (x,y)↔ptL z0j.inB l (z,x,y)):=fun j j1 j2 j3=>by have q:=hf j (AA _) (by omega);obtain ⟨m1,m2,m3⟩:=v2s q;rw [q,show ((0:Int) != 0)=false from rfl,Aa,m3,(Ko m2 m1).2,Dim.inn_slab l l (fun r hr=>hr) j1 j2 j3];exact Dim.pt_inn (D:=D6) Ug.inB l z (x,y)
 constructor
 ·rintro ⟨j,j1,j2,j3,j4⟩;exact (ia j j1 j2 j3).1 j4
 ·intro hp;refine Bt fun hn=> ?_;have hx: ∀j,j+1<(D6.cuts l).length → ¬(rd (D6.cuts l) j≤z∧z<rd (D6.cuts l) (j+1)):=fun j j1 j2=>hn ⟨j,j1,j2.1,j2.2,(ia j j1 j2.1 j2.2).2 hp⟩;have g:=(Dim.pt_inn (D:=D6) Ug.inB l z (x,y)).2 hp;rw [Dim.inn_out l l (fun r hr=>hr) hx] at g;exact z9p _ _ g
theorem v7k {L:List R6} (h:Yx L=0):Ku L=0∧Qp L=L:=by
 have hs:=Vh h;have key:Ku L=0:=by
  unfold Yx at h;unfold Ku;cases g1:decide (400<L.length) with
  | true=>rw [g1] at h;cases h
  | false=>
   cases g2:L.all Kv with
   | false=>rw [g1,g2] at h;cases h
   | true=>
    rw [g1,g2,Aa,Ab] at h;cases g3:okF L ((D6.cuts L).length - 1) 0 with
    | false=>rw [g3] at h;cases h
    | true=>rw [Aa,Ab,Ab];unfold y7g;rw [←hs.2.2.1,Xi (by have:=hs.1;omega)];rfl
 exact ⟨key,(x6u key).trans hs.2.2.1.symm⟩
theorem j0c {L:List R6} (h:Yx L=0):z0j.can L:=by obtain ⟨h1,h2⟩:=v7k h;have:=(v1c h1).1;rwa [h2] at this
namespace Dim
variable {α β:Type} {D:Dim α β}
theorem j3i (hD:D.Fair) (s:List β) (a b x:Int):D.inn (s.map (D.put a b)) x=if a≤x∧x<b then s else []:=by
 unfold inn;have e:(s.map (D.put a b)).filter (fun r=>decide (D.lo r≤x)&&decide (x<D.hi r))=if a≤x∧x<b then s.map (D.put a b) else []:=by
  split
  ·rename_i h;refine List.filter_eq_self.2 fun r hr=> ?_;obtain ⟨c,_,rfl⟩:=AP.1 hr;rw [hD.lo_put,hD.hi_put,Al h.1,Al h.2];rfl
  ·rename_i h;refine List.filter_eq_nil_iff.2 fun r hr hq=>h ?_;obtain ⟨c,_,rfl⟩:=AP.1 hr;rw [hD.lo_put,hD.hi_put,Ac] at hq
   grind
 rw [e];split
 ·rw [List.map_map];exact (List.map_congr_left fun c _=>hD.pr_put a b c).trans (List.map_id _)
 ·rfl
theorem inn_can (hD:D.Fair) {γ:Type} (M:Sem β γ) (x:Int): ∀G:List (z1p β),z3m M G→M.can (D.inn (D.flat G) x)
 | [],_=>M.nil
 | g::r,h=>by
  rw [show D.flat (g::r)=g.s.map (D.put g.a g.b)++D.flat r from rfl,D.inn_append,j3i hD];split
  ·rename_i hx;have e:D.inn (D.flat r) x=[]:=by unfold inn;rw [List.map_eq_nil_iff,List.filter_eq_nil_iff];intro a ha hq;obtain ⟨k,hk,ha⟩:=AD.1 ha;obtain ⟨c,_,rfl⟩:=AP.1 ha;rw [hD.lo_put,Ac] at hq;have h1:=Av hq.1;have:=h.later k hk;omega
   rw [e,AB];exact h.head.2.1
  ·rw [A8];exact inn_can hD M x r h.tail
end Dim
theorem x0p {L:List R6} (hl:L.length≤400) (hv: ∀r∈L,Kv r=true) (hc:z0j.can L):Yx L=0:=by
 have hi: ∀z,D4.out (D6.inn L z)=D6.inn L z:=fun z=>by obtain ⟨h1,h2⟩:=Ko (z0r hv z) (AE (D6.inn_length L z) hl);obtain ⟨G,hG,e⟩:=hc;exact Ug.uniq _ _ h1 (by grind [Dim.inn_can,z1n]) h2
 have hs:Secs L:=fun z=>by rw [hi z];exact AE (D6.inn_length L z) hl
 obtain ⟨h1,h2⟩:=u9e hv hl hs;have e:=z0j.uniq _ _ h1 hc h2;have ok: ∀k i,okF L k i=true:=fun k=>by
  induction k with
  | zero=>intro i;rfl
  | succ k ih=>
   intro i;show (bif Yo (D6.inn L (rd (D6.cuts L) i)) != 0 then false else okF L k (i+1))=true;rw [(z5a (z0r hv _) (AE (D6.inn_length L _) hl) (hs _)).2]
   grind
 grind [Yx,Ke]
theorem v6l {L:List R6} (hc:z0j.can L) (hb: ∀x y z,inS L x y z→(-1000000≤x∧x<1000000)∧(-1000000≤y∧y<1000000)∧(-1000000≤z∧z<1000000)): ∀r∈L,Kv r=true:=fun r hr=>by
 have hp:r.a<r.d∧r.b<r.e∧r.c<r.f:=by obtain ⟨G,hG,e⟩:=hc;rw [e] at hr;obtain ⟨g,hg,hr⟩:=AD.1 hr;obtain ⟨b,hb,rfl⟩:=AP.1 hr;obtain ⟨h1,⟨H,hH,e2⟩,_⟩:=hG.all g hg;rw [e2] at hb;obtain ⟨k,hk,hb⟩:=AD.1 hb;obtain ⟨c,hc,rfl⟩:=AP.1 hb;obtain ⟨h2,h3,_⟩:=hH.all k hk;exact ⟨h2,Can.pos h3 c hc,h1⟩
 have h1:=hb r.a r.b r.c ⟨r,hr,by omega,by omega,by omega⟩;have h2:=hb (r.d - 1) (r.e - 1) (r.f - 1) ⟨r,hr,by omega,by omega,by omega⟩
 grind [y3w,x2y]
open Go.Proofs Go.Sort Go.Shelf Go.RowKit Go.Lib
theorem ptI4 (l:List R4) (u v:Int):ptL Ug.inB l (u,v)↔ ∃r∈l,(r.a≤u∧u<r.c)∧(r.b≤v∧v<r.d):=by
 constructor
 ·rintro ⟨r,hr,h1,h2,h3,h4⟩;exact ⟨r,hr,⟨h1,h2⟩,h3,h4⟩
 ·rintro ⟨r,hr,⟨h1,h2⟩,h3,h4⟩;exact ⟨r,hr,h1,h2,h3,h4⟩
theorem u2n {l:List R4} (hc:Ug.can l) (hb: ∀u v,ptL Ug.inB l (u,v)→(-1000000≤u∧u<1000000)∧(-1000000≤v∧v<1000000)): ∀r∈l,Jj r=true:=fun r hr=>by
 have hp:r.a<r.c∧r.b<r.d:=by obtain ⟨G,hG,e⟩:=hc;rw [e] at hr;obtain ⟨g,hg,hr⟩:=AD.1 hr;obtain ⟨b,hb,rfl⟩:=AP.1 hr;obtain ⟨h1,h2,_⟩:=hG.all g hg;exact ⟨h1,Can.pos h2 b hb⟩
 have h1:=hb r.a r.b ((ptI4 _ _ _).2 ⟨r,hr,by omega,by omega⟩);have h2:=hb (r.c - 1) (r.d - 1) ((ptI4 _ _ _).2 ⟨r,hr,by omega,by omega⟩)
 grind [Jj]
theorem v7e {l:List R4} (hv: ∀r∈l,Jj r=true) {u v:Int} (h:ptL Ug.inB l (u,v)):(-1000000≤u∧u<1000000)∧(-1000000≤v∧v<1000000):=by
 grind [ptI4,Jj]
structure Few (c l:List R4) (n:Nat):Prop where
 can:Ug.can l
 pts: ∀u v,ptL Ug.inB l (u,v)↔ptL Ug.inB c (u,v)
 val: ∀r∈l,Jj r=true
 len:l.length≤n*n
 sec: ∀x,(D4.inn l x).length ≤n
theorem x1f {l:List R4} (hv: ∀r∈l,Jj r=true) (hl:l.length≤400):(D4.out l).length ≤l.length*l.length:=by
 have h:=y4q 0 hv (fun r (h:r∈([]:List R4))=>by cases h);have e:rgJ 0 l []=D4.out l:=Ug.uniq _ _ h.1 (Ko hv hl).1 fun p=>by
  grind [Ko,z9p,opB]
 grind
theorem w4q {l:List R4} (hc:Ug.can l) (x:Int):y4i.can (D4.inn l x):=by
 obtain ⟨G,hG,e⟩:=hc
 grind [Dim.inn_can,y0n]
theorem j3p {c:List R4} (hv: ∀r∈c,Jj r=true) (hl:c.length≤20):Few c (D4.out c) c.length:=by
 obtain ⟨h1,h2⟩:=Ko hv (by omega);refine ⟨h1,fun u v=>h2 (u,v),u2n h1 fun u v h=>v7e hv ((h2 _).1 h),x1f hv (by omega),fun x=> ?_⟩;have h3:=z4r 0 (a:=D4.inn c x) (b:=[]) (Jd hv x) rfl;have h4:=x0h 0 (a:=D4.inn c x) (b:=[]) (Jd hv x) rfl;have e:spJ 0 (D4.inn c x) []=D4.inn (D4.out c) x:=y4i.uniq _ _ h4.1 (w4q h1 x) fun y=>by
  rw [h4.2];have a1:=x8y c x y;have a2:=x8y (D4.out c) x y;have: ¬pt [] y:=fun ⟨_,h,_⟩=>by cases h
  show _↔pt (D4.inn (D4.out c) x) y
  grind [opB]
 rw [←e];have:=D4.inn_length c x
 grind
theorem j3o {c:List R4} (hv: ∀r∈c,Jj r=true) (hl:c.length≤20):Zm c=D4.out c∧Yo c=0:=by refine z5a hv (by omega) (AE (x1f hv (by omega)) ?_);exact AE (BQ hl hl) (by decide)
theorem w3g {l:List R4} (hl:l.length≤400) (hv: ∀r∈l,Jj r=true) (hc:Ug.can l):y1j l=0:=by
 obtain ⟨h1,h2⟩:=Ko hv hl;have e:D4.out l=l:=Ug.uniq _ _ h1 hc h2
 grind [z1u,y7g,Wa,y7f,j2z,y1j,rgcF,Vw]
theorem w0q {E:Int→Int} {cs:List Int} (h: ∀x,E x=0): ∀k i,y1l E cs k i=0
 | 0,i=>rfl
 | k+1,i=>by show (bif E (rd cs i) != 0 then E (rd cs i) else y1l E cs k (i+1))=0;rw [h];exact w0q h k (i+1)
theorem j2b (o:Op) {a b:List R4} (la:a.length≤400) (lb:b.length≤400) (va: ∀r∈a,Jj r=true) (vb: ∀r∈b,Jj r=true) (ca:Ug.can a) (cb:Ug.can b)
  (sa: ∀x,(D4.inn a x).length +(D4.inn b x).length ≤400) (lj:(rgJ o.k a b).length ≤400):rgE o a b=0:=by
 have sc: ∀(l:List R4) (x:Int),l.length≤400→(∀r∈l,Jj r=true)→Ug.can l→y8f (D4.inn l x)=0:=fun l x hl hv hc=>
  (x0q _).2 ⟨AE (D4.inn_length l x) hl,Jd hv x,w4q hc x⟩
 have hz: ∀x,rgA o a b x=0:=fun x=>by
  unfold rgA spE;rw [sc a x la va ca,sc b x lb vb cb]
  grind [z4r,Jd,y7g]
 unfold rgE;rw [w3g la va ca,w3g lb vb cb,w0q hz];show y7g _=0
 grind [y7g]
theorem u3y {l:List R6} (hl:Yx l=0) (x:Int):(D6.inn l x).length ≤400∧(∀r∈D6.inn l x,Jj r=true)∧Ug.can (D6.inn l x)∧Yo (D6.inn l x)=0∧Zm (D6.inn l x)=D6.inn l x:=by
 obtain ⟨sl,sv,_⟩:=Vh hl;have v:=z0r sv x;have n:=AE (D6.inn_length l x) sl;have c:Ug.can (D6.inn l x):=by obtain ⟨G,hG,e⟩:=j0c hl;rw [e];exact Dim.inn_can z1n Ug x G hG
 obtain ⟨h1,h2⟩:=Ko v n;have e:D4.out (D6.inn l x)=D6.inn l x:=Ug.uniq _ _ h1 c h2;obtain ⟨r0,r1⟩:=z5a v n (by rw [e];exact n);exact ⟨n,v,c,r1,r0.trans e⟩
theorem u7w (x y:Int):x≤Kw x y∧y≤Kw x y∧(Kw x y=x∨Kw x y=y):=by unfold Kw;split <;> omega
theorem u7v (x y:Int):Kx x y≤x∧Kx x y≤y∧(Kx x y=x∨Kx x y=y):=by unfold Kx;split <;> omega
theorem w9m {a:Int} (h:(a != 0)=false):a=0:=by simpa using h
def Mult (n t:Int):Prop:= ∃k,t=k*n
theorem z0d {x n:Int} (hn:1≤n∧n≤1000) (hx: -2000000≤x∧x≤2000000):Mult n (Wo x n)∧Wo x n≤x∧x<Wo x n+n:=by
 have h1:n*Int.tdiv x n+Int.tmod x n=x:=Int.mul_tdiv_add_tmod x n;have h2:Int.tdiv x n*n=x - Int.tmod x n:=by rw [Int.mul_comm];omega
 have h3: -n<Int.tmod x n∧Int.tmod x n<n∧(0≤x→0≤Int.tmod x n)∧(x≤0→Int.tmod x n≤0):=by
  refine ⟨?_,Int.tmod_lt_of_pos x (by omega),fun h=>Int.tmod_nonneg n h,fun h=> ?_⟩
  ·have:=Int.lt_tmod_of_pos x (show 0<n by omega);omega
  ·have:=Int.tmod_nonneg n (show 0≤ -x by omega);rw [Int.neg_tmod] at this;omega
 have h4: -2000000≤Int.tdiv x n∧Int.tdiv x n≤2000000:=by
  generalize Int.tdiv x n=q at h2;generalize Int.tmod x n=m at h2 h3;rcases Int.lt_trichotomy q 0 with hq | hq | hq
  ·have:q*n≤q*1:=Int.mul_le_mul_of_nonpos_left (by omega) (by omega);omega
  ·omega
  ·have:q*1≤q*n:=Int.mul_le_mul_of_nonneg_left (by omega) (by omega);omega
 have h5:(Int.tdiv x n - 1)*n=x - Int.tmod x n - n:=by rw [Int.sub_mul,Int.one_mul,h2]
 unfold Wo;rw [Zj (n:=Int.tdiv x n) (by omega),Zj (n:=Int.tdiv x n*n) (by omega),Zj (n:=Int.tdiv x n - 1) (by omega),Zj (n:=(Int.tdiv x n - 1)*n) (by omega)];by_cases h:Int.tdiv x n*n>x
 ·rw [Yn h,Ab];exact ⟨⟨_,rfl⟩,by omega,by omega⟩
 ·rw [Xi h,Aa];exact ⟨⟨_,rfl⟩,by omega,by omega⟩
theorem z6a {x n:Int} (hn:1≤n∧n≤1000) (hx: -1900000≤x∧x≤1900000):Mult n (upV x n)∧x≤upV x n∧upV x n<x+n:=by unfold upV;rw [Zj (n:=0 - x) (by omega)];obtain ⟨⟨k,hk⟩,h1,h2⟩:=z0d (x:=0 - x) hn (by omega);rw [Zj (n:=0 - Wo (0 - x) n) (by omega)];exact ⟨⟨-k,by rw [Int.neg_mul,←hk];omega⟩,by omega,by omega⟩
theorem oB_val {n:Int} (hn:1≤n∧n≤1000) {r:R6} (h:Kv r=true) (ho:oOk n r=true):Kv (oB n r)=true:=by
 have v:=We h;obtain ⟨_,a1,a2⟩:=z0d (x:=r.a) hn (by omega);obtain ⟨_,b1,b2⟩:=z0d (x:=r.b) hn (by omega);obtain ⟨_,c1,c2⟩:=z0d (x:=r.c) hn (by omega);obtain ⟨_,d1,d2⟩:=z6a (x:=r.d) hn (by omega);obtain ⟨_,e1,e2⟩:=z6a (x:=r.e) hn (by omega);obtain ⟨_,f1,f2⟩:=z6a (x:=r.f) hn (by omega);simp only [oOk,Ac,Bf,A4] at ho;obtain ⟨o1,o2⟩:=ho;have i1:=u7v (Wo r.a n) (Wo r.b n);have i2:=u7v (Kx (Wo r.a n) (Wo r.b n)) (Wo r.c n);have i3:=u7w (upV r.d n) (upV r.e n);have i4:=u7w (Kw (upV r.d n) (upV r.e n)) (upV r.f n);rw [y3w];unfold oB x2y;dsimp only;simp only [Ac,At];have j1: -1000000≤Wo r.a n∧ -1000000≤Wo r.b n∧ -1000000≤Wo r.c n:=by omega
 have j2:upV r.d n≤1000000∧upV r.e n≤1000000∧upV r.f n≤1000000:=by omega
 (repeat' apply And.intro) <;> omega
theorem out_ok {L:List R6} {n:Int} (h:Uo L n=0):Yx L=0∧(1≤n∧n≤1000)∧Wg L n=Qp (L.map (oB n))∧Ku (L.map (oB n))=0:=by
 unfold Uo at h;rcases Yy (Yx L != 0) with a | a
 ·rw [a,Ab] at h;rw [h] at a;cases a
 rw [a,Aa] at h;rcases Yy (decide (n<1)) with b | b
 ·rw [b] at h;cases h
 rcases Yy (decide (n>1000)) with c | c
 ·rw [b,c] at h;cases h
 rw [b,c,BW,Aa] at h;rcases Yy (L.all (oOk n)) with d | d
 ·rw [d,Ab] at h;have hb:=AX b;have hc:=AX c;refine ⟨w9m a,by omega,?_,h⟩;unfold Wg j2n;rw [w9m a,b,c,d];rfl
 ·rw [d] at h;cases h
theorem all_oB {L:List R6} {n:Int} (hn:1≤n∧n≤1000) (hv: ∀r∈L,Kv r=true) (ho:L.all (oOk n)=true): ∀r∈L.map (oB n),Kv r=true:=fun r hr=>by obtain ⟨s,hs,rfl⟩:=AP.1 hr;exact oB_val hn (hv s hs) (Ar.1 ho s hs)
theorem v3r {L:List R6} {n:Int} (h:Uo L n=0):Yx (Wg L n)=0∧ ∀x y z,inS L x y z→inS (Wg L n) x y z:=by
 obtain ⟨h1,hn,h2,h3⟩:=out_ok h;obtain ⟨m1,m2,m3,m4⟩:=w2n h3;obtain ⟨c1,c2⟩:=v1c h3;have hv:=(Vh h1).2.1;rw [h2];refine ⟨x0p (by rw [x6u h3];exact m4) (v6l c1 fun x y z k=> ?_) c1,fun x y z hp=>(c2 x y z).2 ?_⟩
 ·obtain ⟨r,hr,q1,q2,q3⟩:=(c2 x y z).1 k;have:=We (m2 r hr);omega
 ·obtain ⟨r,hr,q1,q2,q3⟩:=hp;have v:=We (hv r hr);obtain ⟨_,a1,_⟩:=z0d (x:=r.a) hn (by omega);obtain ⟨_,b1,_⟩:=z0d (x:=r.b) hn (by omega);obtain ⟨_,c1,_⟩:=z0d (x:=r.c) hn (by omega);obtain ⟨_,d1,_⟩:=z6a (x:=r.d) hn (by omega);obtain ⟨_,e1,_⟩:=z6a (x:=r.e) hn (by omega);obtain ⟨_,f1,_⟩:=z6a (x:=r.f) hn (by omega);refine ⟨oB n r,List.mem_map_of_mem hr,?_⟩;unfold oB;dsimp only;omega
theorem at_nil (z:Int):atV ([]:List R6) z=[]:=rfl
namespace Dim
variable {α β:Type} (D:Dim α β)
theorem refS (hs: ∀a b,D.same a b=true↔a=b) (sec:Int→List β) (cs:List Int): ∀(k i:Nat) (s:Sw α β) (out:List α) (last:List β) (first:Nat),
  s.out=out→s.last=last→(last≠ []→s.first=first)→(last=[]→out.length≤first)→(0<i→s.fin=rd cs i)→(i=0→last=[])→
  (D.goS sec cs k i s).out =D.ref sec cs k i out last first
 | 0,i,s,out,last,first,h1,h2,h3,h4,h5,h6=>h1
 | k +1,i,s,out,last,first,h1,h2,h3,h4,h5,h6=>by
  subst h1 h2;have e1:D.goS sec cs (k+1) i s=D.goS sec cs k (i+1) (D.oneS (sec (rd cs i)) (rd cs i) (rd cs (i+1)) s):=rfl;rw [e1];unfold ref;rcases Yy (decide (0<(sec (rd cs i)).length)&&((s.fin == rd cs i)&&D.same s.last (sec (rd cs i)))) with q | q
  ·have e:D.oneS (sec (rd cs i)) (rd cs i) (rd cs (i+1)) s=⟨D.grow s.out s.first (rd cs (i+1)),s.last,s.first,rd cs (i+1)⟩:=by unfold oneS;rw [q];rfl
   simp only [Ac,At] at q;obtain ⟨q1,q2,q3⟩:=q;have q3:=(hs _ _).1 q3;have hne:s.last≠ []:=fun h=>by rw [h] at q3;rw [←q3] at q1;exact BV _ q1
   have hi:0<i:=Nat.pos_of_ne_zero fun h=>hne (h6 h);have e2:(decide (0<i)&&D.same (sec (rd cs i)) s.last)=true:=by rw [Al hi,Ai,hs,q3]
   rw [e2,Ab,e];refine refS hs sec cs k (i+1) _ _ _ _ ?_ rfl h3 (fun h=>absurd h hne) (fun _=>rfl) (fun h=>by omega);rw [h3 hne]
  ·have e:D.oneS (sec (rd cs i)) (rd cs i) (rd cs (i+1)) s=⟨s.out++(sec (rd cs i)).map (D.put (rd cs i) (rd cs (i+1))),sec (rd cs i),s.out.length,rd cs (i+1)⟩:=by unfold oneS;rw [q];rfl
   rcases Yy (decide (0<i)&&D.same (sec (rd cs i)) s.last) with q2 | q2
   ·rw [q2,Ab,e];simp only [Ac,At] at q2;obtain ⟨hi,q3⟩:=q2;have q3:=(hs _ _).1 q3;rw [(hs s.last (sec (rd cs i))).2 q3.symm,Ah,h5 hi] at q;have hz:sec (rd cs i)=[]:=by
     cases h:sec (rd cs i) with
     | nil=>rfl
     | cons a b=>rw [h] at q;simp at q
    have hl:s.last=[]:=(by rw [←q3,hz]);have hf:=h4 hl;rw [hz,By,AB];refine refS hs sec cs k (i+1) _ _ _ _ ?_ hl.symm (fun h=>absurd hl h) (fun _=> ?_) (fun _=>rfl) (fun h=>by omega)
    ·exact (D.grow_nil _ _ _ hf).symm
    ·rw [D.grow_length];exact hf
   ·rw [q2,Aa,e];exact refS hs sec cs k (i+1) _ _ _ _ rfl rfl (fun _=>rfl) (fun h=>by rw [h];simp) (fun _=>rfl) (fun h=>by omega)
theorem refS0 (hs: ∀a b,D.same a b=true↔a=b) (sec:Int→List β) (cs:List Int):D.ref sec cs (cs.length - 1) 0 [] [] 0=(D.goS sec cs (cs.length - 1) 0 ⟨[],[],0,0⟩).out :=
 (D.refS hs sec cs _ 0 _ [] [] 0 rfl rfl (fun _=>rfl) (fun _=>Aq _) (fun h=>absurd h (BV _)) (fun _=>rfl)).symm
end Dim
theorem u9w (l:List R4) (hv:l.all Jj=true) (x:Int):swV (D4.inn l x)=y1i 2 l [] x:=by
 have hin:=D4.inn_length l x;have hvi:(D4.inn l x).all z1i=true:=Ar.2 fun s hs=>by
  grind [z2w,Jj,z1i]
 obtain ⟨c1,c2⟩:=z9c _ hvi;obtain ⟨y1,y2⟩:=Xd (Qk l++Qk []);have e2:y1i 2 l [] x=y0d (ysV l []) ((ysV l []).map fun y=>z0v l x y):=by
  unfold y1i
  congr 1
  simp_all [v6b]
 obtain ⟨d1,d2⟩:=x2f (ysV l []) y1 (fun y=>z0v l x y) (D4.inn l x) (fun s hs=>by
  obtain ⟨r,hr,_,_,rfl⟩:=z2w hs;unfold ysV;exact ⟨(y2 _).2 (AH.2 (.inl (AD.2 ⟨r,hr,by simp⟩))),(y2 _).2 (AH.2 (.inl (AD.2 ⟨r,hr,by simp⟩)))⟩) (fun y=>by
  unfold z0v;rw [BU];constructor
  ·rintro ⟨r,hr,h⟩;simp only [in4,Ac,At] at h;exact ⟨_,x9f hr h.1 h.2.1,h.2.2.1,h.2.2.2⟩
  ·rintro ⟨s,hs,h1,h2⟩
   grind [z2w,in4])
 grind [w5e]
theorem u8v :swV []=[]:=by
 obtain ⟨h1,h2⟩:=z9c [] rfl;exact y8x y4i h1 fun q hq=>by obtain ⟨s,hs,_⟩:=(h2 q).1 hq;cases hs
theorem jo_sem {l:List R4} (hv: ∀r∈l,Jj r=true):Ug.can (joV 2 l [])∧ ∀p,ptL Ug.inB (joV 2 l []) p↔ptL Ug.inB l p:=by
 have e:joV 2 l []=(D4.goS (fun x=>swV (D4.inn l x)) (D4.cuts (l++[])) ((D4.cuts (l++[])).length - 1) 0 ⟨[],[],0,0⟩).out :=by rw [AB,joV,w4m,←w2h,←Dim.refS0 D4 z3w];simp_all [u9w]
 rw [e];have hs: ∀x,y4i.can (swV (D4.inn l x))∧ ∀y,ptL y4i.inB (swV (D4.inn l x)) y↔ptL y4i.inB (D4.inn l x) y:=fun x=>z9c _ (Jd hv x);obtain ⟨h1,h2⟩:=Dim.goJ_can y0n z3w y4i l [] (fun s _=>swV s) (fun x=>(hs x).1) u8v;refine ⟨h1,fun ⟨x,y⟩=> ?_⟩;rw [show ptL Ug.inB _ (x,y)↔_ from h2 x y,(hs x).2,Dim.pt_inn];rfl
def y7b (l:List R6):List R6:=D6.ref (z0z 2 l []) (D6.cuts l) ((D6.cuts l).length - 1) 0 [] [] 0
theorem u7s :joV 2 [] []=[]:=rfl
theorem x0k {l:List R6} (hv: ∀r∈l,Kv r=true):z0j.can (y7b l)∧ ∀x y z,inS (y7b l) x y z↔inS l x y z:=by
 have e:y7b l=(D6.goS (fun z=>joV 2 (D6.inn l z) []) (D6.cuts (l++[])) ((D6.cuts (l++[])).length - 1) 0 ⟨[],[],0,0⟩).out :=by rw [AB,←Dim.refS0 D6 Kj];rfl
 rw [e];have hq: ∀z,Ug.can (joV 2 (D6.inn l z) [])∧ ∀p,ptL Ug.inB (joV 2 (D6.inn l z) []) p↔ptL Ug.inB (D6.inn l z) p:=fun z=>jo_sem (z0r hv z);obtain ⟨h1,h2⟩:=Dim.goJ_can z1n Kj Ug l [] (fun s _=>joV 2 s []) (fun x=>(hq x).1) u7s;refine ⟨h1,fun x y z=> ?_⟩;rw [Kt,Kt,show ptL z0j.inB _ (z,x,y)↔_ from h2 z (x,y),(hq z).2,Dim.pt_inn];rfl
theorem v0j (a b:List R4):xsV a b=xsV (a++b) []:=by
 grind [xsV,z2g]
theorem ys_app (a b:List R4):ysV a b=ysV (a++b) []:=by
 grind [ysV,Qk]
theorem u9x (a b:List R4) (x:Int):y1i 2 a b x=y1i 2 (a++b) [] x:=by
 unfold y1i;rw [ys_app]
 congr 1
 simp_all [w9g,y0y,z0v]
theorem v4q (a b:List R4): ∀(k i:Nat) (out:List R4) (last:List R2) (first:Nat),jF 2 a b k i out last first=jF 2 (a++b) [] k i out last first
 | 0,_,_,_,_=>rfl
 | k+1,i,out,last,first=>by unfold jF;rw [v0j,u9x,v4q a b k,v4q a b k]
theorem jo_app (a b:List R4):joV 2 a b=joV 2 (a++b) []:=by unfold joV;rw [v0j,v4q]
theorem at_app (a b:List R6) (z:Int):atV (a++b) z=atV a z++atV b z:=by
 grind [atV]
theorem w2t (a b:List R6) (z:Int):z0z 2 a b z=z0z 2 (a++b) [] z:=by
 grind [z0z,jo_app,at_app,at_nil]
theorem x2a (a b:List R6):Vy a b=D6.cuts (a++b):=by
 grind [w2g,Vy,z2f]
def okJ (a b:List R6):Nat→Nat→Bool
 | 0,_=>true
 | k+1,i=>bif z3l 2 a b (rd (D6.cuts (a++b)) i) then false else okJ a b k (i+1)
theorem j3c (a b:List R6): ∀(k i:Nat) (out:List R6) (last:List R4) (first:Nat),jsF 2 a b k i out last first=bif okJ a b k i then some (D6.ref (z0z 2 (a++b) []) (D6.cuts (a++b)) k i out last first) else none
 | 0,_,_,_,_=>rfl
 | k+1,i,out,last,first=>by
  unfold jsF okJ Dim.ref;rw [x2a];rcases Yy (z3l 2 a b (rd (D6.cuts (a++b)) i)) with q | q
  ·rw [q];rfl
  ·rw [q,Aa,Aa,w2t,j3c a b k,j3c a b k];have e:D6.same (z0z 2 (a++b) [] (rd (D6.cuts (a++b)) i)) last=Vw (z0z 2 (a++b) [] (rd (D6.cuts (a++b)) i)) last:=rfl;rw [e];cases (decide (0<i)&&Vw (z0z 2 (a++b) [] (rd (D6.cuts (a++b)) i)) last) <;> rfl
theorem jsO_J (a b:List R6):jsO 2 a b=bif okJ a b ((D6.cuts (a++b)).length - 1) 0 then some (y7b (a++b)) else none:=by unfold jsO;rw [j3c,x2a];rfl
theorem x1r {a b:List R6} (h:z0p 2 a b=true):Jg 2 a b=y7b (a++b)∧(y7b (a++b)).length ≤400:=by
 unfold z0p at h;unfold Jg;rw [jsO_J] at h ⊢
 grind
theorem js_ok {a b:List R6} (hm: ∀z,z3l 2 a b z=false) (hl:(y7b (a++b)).length ≤400):z0p 2 a b=true:=by
 have ok: ∀k i,okJ a b k i=true:=fun k=>by
  induction k with
  | zero=>intro i;rfl
  | succ k ih=>grind [okJ]
 grind [z0p,jsO_J]
theorem w5d {X Y:List R6} (hX:z0j.can X) (hY:z0j.can Y) (h: ∀x y z,inS X x y z↔inS Y x y z):X=Y:=
 z0j.uniq X Y hX hY fun ⟨z,x,y⟩=>by simp_all [Kt]
theorem z6s (l:List R6) (x y z:Int):ptL Ug.inB (D6.inn l z) (x,y)↔inS l x y z:=by rw [Kt,Dim.pt_inn];rfl
open Go.Proofs Go.Sort Go.Shelf Go.RowKit Go.Lib
def in12 (x:Int):Prop:= -12≤x∧x<12
def nbS (L:List R6):Prop:= ∀x y z,inS L x y z→in12 x∧in12 y∧in12 z
theorem v8e {L:List R6} (h:Yx L=0):z0j.can L:=by
 obtain ⟨hl,hv,_,_⟩:=Vh h
 grind [Xm,z0e,rckF,Ke,x1r,x0k]
theorem z6r {L:List R6} (h:Yx L=0) (z:Int):Ug.can (D6.inn L z)∧(∀r∈D6.inn L z,Jj r=true)∧(D6.inn L z).length ≤400∧D4.out (D6.inn L z)=D6.inn L z:=by
 obtain ⟨hl,hv,e,_⟩:=Vh h;have hc:z0j.can L:=v8e h;obtain ⟨G,hG,e⟩:=hc;have c:Ug.can (D6.inn L z):=by grind [Dim.inn_can,z1n]
 have v:=z0r hv z;have n:=AE (D6.inn_length L z) hl;exact ⟨c,v,n,Ug.uniq _ _ (Ko v (by omega)).1 c (Ko v (by omega)).2⟩
end Go.Am
end
