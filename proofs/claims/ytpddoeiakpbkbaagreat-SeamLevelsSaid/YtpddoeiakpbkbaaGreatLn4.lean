/- A part of a proof: several texts in one. -/
import Derived.Test.YtpddoeiakpbkbaaGreatLn3
set_option maxRecDepth 1000000
set_option maxHeartbeats 8000000
set_option linter.unusedVariables false
set_option linter.unusedSimpArgs false
noncomputable section
namespace Go.Am
open IntKind (wrap)
open Go.Proofs.Tryz
open Go.Proofs
open Go.Sort Go.Shelf Go.RowKit Go.Lib
def w5y (l:List R2) (i:Nat):Bool:=z1i (rd l i)&&(decide (i=0)||decide ((rd l (i - 1)).b <(rd l i).a))
def y8f (l:List R2):Int:=bif decide (400<l.length) then 4 else bif (List.range l.length).all (w5y l) then 0 else 8
def z3v (l:List R2):Bool:=true
theorem u4q (l:List R2) (hl:l.length≤400): ∀(k i:Nat),i+k=l.length→(∀j,j<i→w5y l j=true)→ ∃n,Zr (z3u l) n (.to (.h0 (i:Int)))=.ret [.int .i64 (bif (List.range l.length).all (w5y l) then 0 else 8)]
 | 0,i,h,ht=>by
  have hv:(List.range l.length).all (w5y l)=true:=Ar.2 fun j hj=>ht j (by grind);refine ⟨1,?_⟩
  grind [Zw,z3u,Zq]
 | k +1,i,h,ht=>by
  have hi:i<l.length:=by omega
  have hlt:decide ((i:Int)<(l.length:Int))=true:=Al (by omega);have hin:decide (0≤(i:Int)∧(i:Int)<(l.length:Int))=true:=Al (by omega);have step:z3u l (.h0 (i:Int))=bif w5y l i then .to (.h0 ((i+1:Nat):Int)) else .ret [.int .i64 8]:=by
   unfold w5y z1i;by_cases hi0:i=0
   ·simp_all [z3u,Zj,y0f]
   ·have g1:decide ((i:Int)>0)=true:=Al (by omega);have g2:wrap .i64 ((i:Int) - 1)=((i - 1:Nat):Int):=by rw [Zj (by omega)];omega
    have g3:decide (0≤((i - 1:Nat):Int)∧((i - 1:Nat):Int)<(l.length:Int))=true:=Al (by omega);have g4:decide ((rd l (i - 1)).b ≥(rd l i).a)= !decide ((rd l (i - 1)).b <(rd l i).a):=by
     grind
    rw [Az hi0];simp (disch:=omega) only [z3u,hlt,hin,g1,g2,g3,g4,Zj,Zx,Zk,y0f,y0e,BL,Ah,Ab,Aa]
  rcases Yy (w5y l i) with q | q
  ·obtain ⟨n,hn⟩:=u4q l hl k (i+1) (by omega) (fun j hj=>by
    grind)
   refine ⟨n+1,?_⟩
   grind [Zw]
  ·have hv:(List.range l.length).all (w5y l)=false:=AZ.2 fun e=>by
    grind
   refine ⟨1,?_⟩
   grind [Zw,Zq]
theorem j0h (l:List R2) (h:z3v l=true): ∃n,Zr (z3u l) n (y2e l)=.ret [.int .i64 (y8f l)]:=by
 unfold y2e y8f;by_cases h:400<l.length
 ·refine ⟨0,?_⟩;rw [Al h,Yn (show (l.length:Int)>400 by omega)];rfl
 ·obtain ⟨n,hn⟩:=u4q l (by omega) l.length 0 (Af _) (fun j hj=>absurd hj (AJ _))
  grind
inductive Op where
 | u | e | d
abbrev Op.k :Op→Nat
 | .u =>0
 | .e =>1
 | .d =>2
abbrev nC :Op→Nat
 | .u =>nSpU1
 | .e =>nSpE1
 | .d =>nSpD1
abbrev nSp :Op→Nat
 | .u =>nSpU
 | .e =>nSpE
 | .d =>nSpD
abbrev nRg :Op→Nat
 | .u =>nRgU
 | .e =>nRgE
 | .d =>nRgD
abbrev nSl :Op→Nat
 | .u =>nSlU
 | .e =>nSlE
 | .d =>nSlD
def cV (q:Op) (a b:Bool):Bool:=opB q.k a b
theorem cu_run (a b:Bool): ∃N,Zr (v5y a b) N (w1b a b)=.ret [.bool (cV .u a b)]:=⟨0,by cases a <;> cases b <;> rfl⟩
theorem ce_run (a b:Bool): ∃N,Zr (v6i a b) N (w1j a b)=.ret [.bool (cV .e a b)]:=⟨0,by cases a <;> cases b <;> rfl⟩
theorem cd_run (a b:Bool): ∃N,Zr (v6k a b) N (w1l a b)=.ret [.bool (cV .d a b)]:=⟨0,by cases a <;> cases b <;> rfl⟩
theorem x0q (l:List R2):y8f l=0↔l.length≤400∧l.all z1i=true∧Can l:=by
 unfold y8f;constructor
 ·intro h;by_cases h1:400<l.length
  ·grind
  ·rw [Az h1,Aa] at h;cases hq:(List.range l.length).all (w5y l) with
   | false=>grind
   | true=>
    have hq:=fun i hi=>Ar.1 hq i (A7.2 hi);have hv: ∀i,i<l.length→z1i (rd l i)=true:=fun i hi=>by
     grind [w5y]
    have hp: ∀i,i<l.length→(rd l i).a <(rd l i).b :=fun i hi=>by
     grind [z1i]
    have hs: ∀i,i+1<l.length→(rd l i).b <(rd l (i+1)).a :=fun i hi=>by
     grind [w5y]
    refine ⟨by omega,Ar.2 fun s hs=> ?_,⟨fun s hs=> ?_,?_⟩⟩
    ·obtain ⟨i,hi,rfl⟩:=AR hs;rw [←Xz hi];exact hv i hi
    ·obtain ⟨i,hi,rfl⟩:=AR hs;rw [←Xz hi];exact hp i hi
    ·refine Be.2 fun i j hi hj hij=> ?_;rw [←Xz hi,←Xz hj];clear hi
     induction j with
     | zero=>omega
     | succ j ih=>
      grind
 ·rintro ⟨h1,h2,h3⟩;rw [Az (by omega),Aa];have:(List.range l.length).all (w5y l)=true:=Ar.2 fun i hi=>by
   have hi:=A7.1 hi;unfold w5y;rw [Ar.1 h2 (rd l i) (by grind [Xz]),Ai,Bu];by_cases h0:i=0
   ·grind
   ·refine .inr (Al ?_);have:=Be.1 h3.sep (i - 1) i (by omega) hi (by omega);rwa [←Xz,←Xz] at this
  grind
def fSch :List AVal→Option (AVal×Bool)
 | [a0]=>match asL R2 a0 with
  | some (L0,g0,n0)=>some (.int .i64 (y8f L0),isT R2 n0 g0&&(z3v L0))
  | _=>none
 | _=>none
theorem j4c {S:Specs} (hS:Zv prog S):Zv prog (S.with w3u fSch):=by
 refine Qe hS (by kernel_rfl) fun args v h=> ?_;unfold fSch at h;split at h
 ·rename_i a0;split at h
  ·rename_i L0 g0 n0 e0;simp only [Ae,Ad,Ac] at h;obtain ⟨rfl,ho0,hw⟩:=h;obtain ⟨N,hN⟩:=j0h L0 hw;exact ⟨_,_,(.cons (Yc e0 ho0) .nil),rfl,v8j L0 N _ hN,3,rfl⟩
  ·cases h
 ·cases h
def fCu :List AVal→Option (AVal×Bool)
 | [.bool b0,.bool b1]=>some (.bool (cV .u b0 b1),true)
 | _=>none
theorem fCu_ok {S:Specs} (hS:Zv prog S):Zv prog (S.with (nC .u) fCu):=by
 refine Qe hS (by kernel_rfl) fun args v h=> ?_;unfold fCu at h;split at h
 ·rename_i b0 b1;simp only [Ae,Ad,Bl] at h;subst h;obtain ⟨N,hN⟩:=cu_run b0 b1;exact ⟨_,_,(.cons (.refl _) (.cons (.refl _) .nil)),rfl,j6c b0 b1 N _ hN,3,rfl⟩
 ·cases h
def fCe :List AVal→Option (AVal×Bool)
 | [.bool b0,.bool b1]=>some (.bool (cV .e b0 b1),true)
 | _=>none
theorem fCe_ok {S:Specs} (hS:Zv prog S):Zv prog (S.with (nC .e) fCe):=by
 refine Qe hS (by kernel_rfl) fun args v h=> ?_;unfold fCe at h;split at h
 ·rename_i b0 b1;simp only [Ae,Ad,Bl] at h;subst h;obtain ⟨N,hN⟩:=ce_run b0 b1;exact ⟨_,_,(.cons (.refl _) (.cons (.refl _) .nil)),rfl,j6h b0 b1 N _ hN,3,rfl⟩
 ·cases h
def fCd :List AVal→Option (AVal×Bool)
 | [.bool b0,.bool b1]=>some (.bool (cV .d b0 b1),true)
 | _=>none
theorem fCd_ok {S:Specs} (hS:Zv prog S):Zv prog (S.with (nC .d) fCd):=by
 refine Qe hS (by kernel_rfl) fun args v h=> ?_;unfold fCd at h;split at h
 ·rename_i b0 b1;simp only [Ae,Ad,Bl] at h;subst h;obtain ⟨N,hN⟩:=cd_run b0 b1;exact ⟨_,_,(.cons (.refl _) (.cons (.refl _) .nil)),rfl,j6i b0 b1 N _ hN,3,rfl⟩
 ·cases h
def Ua :Specs:=((((T9.with w3u fSch).with (nC .u) fCu).with (nC .e) fCe).with (nC .d) fCd)
theorem z2e :Zv prog Ua:=(fCd_ok (fCe_ok (fCu_ok (j4c z5n))))
inductive spjS where
 | h0 (v3:List R3) (v17:Int)
 | h1 (v3:List R3) (v17:Int)
 | h2 (v5:List R3) (v6:Int) (v7:Int) (aB:Int) (bL:Int) (aU:Int) (aF:Bool) (aC:List R2)
abbrev Uh (aC:List R2) (aU:Int) (v5:List R3) (v7:Int):=(aC++[(R2.mk aU (rd v5 (0+(tn v7))).a)])
def v0z (l0:List R2) (l1:List R2) (q:Op):AFr:=⟨⟨29,0,true⟩,(Vk prog 122 [1,1,1,0] 3),(Zc prog 122 [1,1,1,0] 1),none,(Zy prog 10),Yj [(21,(.dat l0.length (Zz l0))),(22,(.dat l1.length (Zz l1))),(23,(.fn (nC q) []))]⟩
abbrev y0r (aC:List R2) (aU:Int) (v5:List R3) (v7:Int):=(Zh (Zz aC) 0 aC.length 2 [(ii aU),(ii (rd v5 (0+(tn v7))).a)])
def v0y (q:Op) (l0:List R2) (l1:List R2):AFr:=⟨⟨11,0,true⟩,(Vk prog (nSp q) [1,0] 2),(Zc prog (nSp q) [1,0] 1),none,(Zy prog 16),Yj [(6,(.dat l0.length (Zz l0))),(7,(.dat l1.length (Zz l1)))]⟩
def u3m :AFr:=⟨⟨42,0,true⟩,(Vk prog 161 [1,1,1,1,1,0,0] 3),(Zc prog 161 [1,1,1,1,1,0,0] 1),none,(Zy prog 3),Yj [(5,(.ptr 1 0)),(6,.nils),(7,(.ptr 2 0)),(8,(.ptr 3 0)),(9,(.ptr 4 0)),(10,(.ptr 5 0)),(11,(.ptr 6 0)),(16,(.sl 0 0 2 (.un 1)))]⟩
abbrev y7t (v3:List R3) (l0:List R2) (v17:Int):=(v3++[(R3.mk (rd l0 (tn v17)).a 0 1),(R3.mk (rd l0 (tn v17)).b 0 (-1))])
abbrev y7s (v3:List R3) (l1:List R2) (v17:Int):=(v3++[(R3.mk (rd l1 (tn v17)).a 1 1),(R3.mk (rd l1 (tn v17)).b 1 (-1))])
def spjC (q:Op) (l0:List R2) (l1:List R2):spjS→Cfg
 | .h0 v3 v17=>⟨⟨38,0,true⟩,none,(Zc prog 184 [1,1,0,1,0,0,1,1,0,0,1,1,0,0] 0),none,(Zy prog 9),⟨Yj [(3,(.sla 7 3 0 v3.length (.un 3))),(4,(ii 0)),(8,(.sl 0 0 2 (.un 1))),(9,(ii 2)),(10,(ii 0)),(15,(.dat l0.length (Zz l0))),(16,(ii (l0.length:Int))),(17,(ii v17))],Wn [⟨[(.dat l0.length (Zz l0)),(.dat l1.length (Zz l1))],155,none⟩,⟨[(.fn (nC q) [])],167,none⟩,⟨[(ii 0),(ii 0)],222,none⟩,⟨[.nils],155,none⟩,⟨[(ii 0)],3,none⟩,⟨[(.bool false)],4,none⟩,⟨[(.fn 183 [(.ptr 5 0),(.ptr 4 0),(.ptr 3 0)])],223,none⟩,⟨Yk v3.length (Zz v3),227,some ⟨3,v3.length,(Zz v3)⟩⟩] 0,8,[],true⟩,[u3m,(v0z l0 l1 q),(v0y q l0 l1)],.leaf⟩
 | .h1 v3 v17=>⟨⟨38,0,true⟩,none,(Zc prog 184 [1,1,0,1,0,0,1,1,0,0,1,1,0,0] 0),none,(Zy prog 9),⟨Yj [(3,(.sla 7 3 0 v3.length (.un 3))),(4,(ii 1)),(8,(.sl 0 0 2 (.un 1))),(9,(ii 2)),(10,(ii 1)),(15,(.dat l1.length (Zz l1))),(16,(ii (l1.length:Int))),(17,(ii v17))],Wn [⟨[(.dat l0.length (Zz l0)),(.dat l1.length (Zz l1))],155,none⟩,⟨[(.fn (nC q) [])],167,none⟩,⟨[(ii 0),(ii 0)],222,none⟩,⟨[.nils],155,none⟩,⟨[(ii 0)],3,none⟩,⟨[(.bool false)],4,none⟩,⟨[(.fn 183 [(.ptr 5 0),(.ptr 4 0),(.ptr 3 0)])],223,none⟩,⟨Yk v3.length (Zz v3),227,some ⟨3,v3.length,(Zz v3)⟩⟩] 0,8,[],true⟩,[u3m,(v0z l0 l1 q),(v0y q l0 l1)],.leaf⟩
 | .h2 v5 v6 v7 aB bL aU aF aC=>⟨⟨16,0,true⟩,none,(Zc prog 198 [1,0,0] 0),none,[],⟨Yj [(0,(.yld 0)),(5,(.sla 7 3 0 v5.length (.un 3))),(6,(ii v6)),(7,(ii v7))],z6q [(1,⟨[(.fn (nC q) [])],167,none⟩),(2,⟨[(ii aB),(ii bL)],222,none⟩),(3,⟨[(ii aU)],3,none⟩),(4,⟨[(.bool aF)],4,none⟩),(5,⟨[(.fn 183 [(.ptr 4 0),(.ptr 3 0),(.ptr 6 0)])],223,none⟩),(6,⟨[(.sla 8 2 0 aC.length (.un 2))],155,none⟩),(7,⟨Yk v5.length (Zz v5),227,some ⟨3,v5.length,(Zz v5)⟩⟩),(8,⟨Yk aC.length (Zz aC),176,some ⟨2,aC.length,(Zz aC)⟩⟩)],9,[],true⟩,[⟨⟨42,0,true⟩,none,(.inRangeFunc 0::(Zc prog 161 [1,1,1,1,1,0,1,0] 1)),none,(Zy prog 3),Yj [(6,.nils),(8,(.ptr 6 0))]⟩,(v0z l0 l1 q),(v0y q l0 l1)],(y1k [(0,⟨.ready,none,42,Yj [(5,(.ptr 1 0)),(7,(.ptr 2 0)),(9,(.ptr 3 0)),(10,(.ptr 4 0)),(11,(.ptr 5 0))],[18],(Wc prog 161 [1,1,1,1,1,0,1,0,0]),(Wc prog 161 [1,1,1,1,1,0,1,0,1])⟩)])⟩
def spjN0 :List (Option (List Nat)):=[some [3,4,8,9,10,15,16,17],some [5,6,7,8,9,10,11,16],some [21,22,23],some [6,7]]
def spjM0 :List (Option (List Nat)):=[]
def spjN1 :List (Option (List Nat)):=[some [3,4,8,9,10,15,16,17],some [5,6,7,8,9,10,11,16],some [21,22,23],some [6,7]]
def spjM1 :List (Option (List Nat)):=[]
def y4e :List (Option (List Nat)):=[some [0,5,6,7],some [6,8],some [21,22,23],some [6,7]]
def y4f :List (Option (List Nat)):=[some [5,7,9,10,11],none,none,none,none,none,none,none,none]
def Wj (q:Op) (l0:List R2) (l1:List R2):spjS→Xx spjS
 | .h0 v3 v17=>(bif (decide (v17<(l0.length:Int))) then (bif ((decide (0≤v17∧v17<(l0.length:Int)))&&true) then (bif (Nat.beq 3 3&&((decide (0+v3.length=v3.length))&&decide ((v3.length+2+1)*(24+1)≤room))) then (.to (.h0 (v3++[(R3.mk (rd l0 v17.toNat).a 0 1),(R3.mk (rd l0 v17.toNat).b 0 (-1))]) (wrap .i64 (v17+1)))) else .stuck) else .stuck) else (.to (.h1 v3 0)))
 | .h1 v3 v17=>(bif (decide (v17<(l1.length:Int))) then (bif ((decide (0≤v17∧v17<(l1.length:Int)))&&true) then (bif (Nat.beq 3 3&&((decide (0+v3.length=v3.length))&&decide ((v3.length+2+1)*(24+1)≤room))) then (.to (.h1 (v3++[(R3.mk (rd l1 v17.toNat).a 1 1),(R3.mk (rd l1 v17.toNat).b 1 (-1))]) (wrap .i64 (v17+1)))) else .stuck) else .stuck) else (bif (y1m (cvT v3)) then (bif (decide (v3.length<4611686018427387904)) then (bif (decide (v3.length=v3.length)) then (.to (.h2 (z1j (cvT v3)) (v3.length:Int) 0 0 0 0 false ([]:List R2))) else .stuck) else .stuck) else .stuck))
 | .h2 v5 v6 v7 aB bL aU aF aC=>(bif (decide (v7<v6)) then (bif ((decide (0≤v7∧v7<(v5.length:Int)))&&true) then (bif (decide ((0+v7.toNat)<v5.length)) then (bif (!aF) then (bif (decide ((rd v5 (0+v7.toNat)).b =Int.ofNat 0)) then (.to (.h2 v5 v6 (wrap .i64 (v7+1)) (wrap .i64 (aB+(rd v5 (0+v7.toNat)).c)) bL (rd v5 (0+v7.toNat)).a ((cV q) (decide ((wrap .i64 (aB+(rd v5 (0+v7.toNat)).c))>0)) (decide (bL>0))) aC)) else (bif (decide ((rd v5 (0+v7.toNat)).b =Int.ofNat 1)) then (.to (.h2 v5 v6 (wrap .i64 (v7+1)) aB (wrap .i64 (bL+(rd v5 (0+v7.toNat)).c)) (rd v5 (0+v7.toNat)).a ((cV q) (decide (aB>0)) (decide ((wrap .i64 (bL+(rd v5 (0+v7.toNat)).c))>0))) aC)) else .stuck)) else (bif (aU == (rd v5 (0+v7.toNat)).a) then (bif (decide ((rd v5 (0+v7.toNat)).b =Int.ofNat 0)) then (.to (.h2 v5 v6 (wrap .i64 (v7+1)) (wrap .i64 (aB+(rd v5 (0+v7.toNat)).c)) bL (rd v5 (0+v7.toNat)).a ((cV q) (decide ((wrap .i64 (aB+(rd v5 (0+v7.toNat)).c))>0)) (decide (bL>0))) aC)) else (bif (decide ((rd v5 (0+v7.toNat)).b =Int.ofNat 1)) then (.to (.h2 v5 v6 (wrap .i64 (v7+1)) aB (wrap .i64 (bL+(rd v5 (0+v7.toNat)).c)) (rd v5 (0+v7.toNat)).a ((cV q) (decide (aB>0)) (decide ((wrap .i64 (bL+(rd v5 (0+v7.toNat)).c))>0))) aC)) else .stuck)) else (bif (decide ((aC.length:Int)>0)) then (bif ((decide (0≤(wrap .i64 ((aC.length:Int) - 1))∧(wrap .i64 ((aC.length:Int) - 1))<(aC.length:Int)))&&true) then (bif (decide ((0+(Int.toNat (wrap .i64 ((aC.length:Int) - 1))))<aC.length)) then (bif ((rd aC (0+(Int.toNat (wrap .i64 ((aC.length:Int) - 1))))).b == aU) then (bif (decide ((rd v5 (0+v7.toNat)).b =Int.ofNat 0)) then (.to (.h2 v5 v6 (wrap .i64 (v7+1)) (wrap .i64 (aB+(rd v5 (0+v7.toNat)).c)) bL (rd v5 (0+v7.toNat)).a ((cV q) (decide ((wrap .i64 (aB+(rd v5 (0+v7.toNat)).c))>0)) (decide (bL>0))) (aC.set (0+(Int.toNat (wrap .i64 ((aC.length:Int) - 1)))) (R2.mk (rd aC (0+(Int.toNat (wrap .i64 ((aC.length:Int) - 1))))).a (rd v5 (0+v7.toNat)).a)))) else (bif (decide ((rd v5 (0+v7.toNat)).b =Int.ofNat 1)) then (.to (.h2 v5 v6 (wrap .i64 (v7+1)) aB (wrap .i64 (bL+(rd v5 (0+v7.toNat)).c)) (rd v5 (0+v7.toNat)).a ((cV q) (decide (aB>0)) (decide ((wrap .i64 (bL+(rd v5 (0+v7.toNat)).c))>0))) (aC.set (0+(Int.toNat (wrap .i64 ((aC.length:Int) - 1)))) (R2.mk (rd aC (0+(Int.toNat (wrap .i64 ((aC.length:Int) - 1))))).a (rd v5 (0+v7.toNat)).a)))) else .stuck)) else (bif (Nat.beq 2 2&&((decide (0+aC.length=aC.length))&&decide ((aC.length+1+1)*(16+1)≤room))) then (bif (decide ((rd v5 (0+v7.toNat)).b =Int.ofNat 0)) then (.to (.h2 v5 v6 (wrap .i64 (v7+1)) (wrap .i64 (aB+(rd v5 (0+v7.toNat)).c)) bL (rd v5 (0+v7.toNat)).a ((cV q) (decide ((wrap .i64 (aB+(rd v5 (0+v7.toNat)).c))>0)) (decide (bL>0))) (aC++[(R2.mk aU (rd v5 (0+v7.toNat)).a)]))) else (bif (decide ((rd v5 (0+v7.toNat)).b =Int.ofNat 1)) then (.to (.h2 v5 v6 (wrap .i64 (v7+1)) aB (wrap .i64 (bL+(rd v5 (0+v7.toNat)).c)) (rd v5 (0+v7.toNat)).a ((cV q) (decide (aB>0)) (decide ((wrap .i64 (bL+(rd v5 (0+v7.toNat)).c))>0))) (aC++[(R2.mk aU (rd v5 (0+v7.toNat)).a)]))) else .stuck)) else .stuck)) else .stuck) else .stuck) else (bif (Nat.beq 2 2&&((decide (0+aC.length=aC.length))&&decide ((aC.length+1+1)*(16+1)≤room))) then (bif (decide ((rd v5 (0+v7.toNat)).b =Int.ofNat 0)) then (.to (.h2 v5 v6 (wrap .i64 (v7+1)) (wrap .i64 (aB+(rd v5 (0+v7.toNat)).c)) bL (rd v5 (0+v7.toNat)).a ((cV q) (decide ((wrap .i64 (aB+(rd v5 (0+v7.toNat)).c))>0)) (decide (bL>0))) (aC++[(R2.mk aU (rd v5 (0+v7.toNat)).a)]))) else (bif (decide ((rd v5 (0+v7.toNat)).b =Int.ofNat 1)) then (.to (.h2 v5 v6 (wrap .i64 (v7+1)) aB (wrap .i64 (bL+(rd v5 (0+v7.toNat)).c)) (rd v5 (0+v7.toNat)).a ((cV q) (decide (aB>0)) (decide ((wrap .i64 (bL+(rd v5 (0+v7.toNat)).c))>0))) (aC++[(R2.mk aU (rd v5 (0+v7.toNat)).a)]))) else .stuck)) else .stuck)))) else .stuck) else .stuck) else (bif (decide ((aC.length:Int)>400)) then (.ret [.nils,(.int .i64 4)]) else (.ret [(.dat aC.length (Zz aC)),(.int .i64 0)])))
def y1z (q:Op) (l0:List R2) (l1:List R2):Xx spjS:=(bif (z3v (cvT l0)) then (bif ((y8f (cvT l0)) != 0) then (.ret [.nils,(.int .i64 (y8f (cvT l0)))]) else (bif (z3v (cvT l1)) then (bif ((y8f (cvT l1)) != 0) then (.ret [.nils,(.int .i64 (y8f (cvT l1)))]) else (.to (.h0 ([]:List R3) 0))) else .stuck)) else .stuck)
theorem w5w (q:Op) (l0:List R2) (l1:List R2): ∀s,Xy prog (Zy prog (nSp q)) (spjC q l0 l1) (spjC q l0 l1 s) (Wj q l0 l1 s):=by cases q <;> refine (?f: ∀q:Op,∀s,Xy prog (Zy prog (nSp q)) (spjC q l0 l1) (spjC q l0 l1 s) (Wj q l0 l1 s)) _ <;> exact fun q=>fun
 | .h0 v3 v17=>(lb (fun k0=>(lo fun o0=>(lo fun o1=>(sl z2e 36 [] ⟨[0,1,2,3,4,5,6,10],[],spjN0,spjM0⟩ ⟨[(3,.len (y7t v3 l0 v17).length)],(kpB 7 [.rowed 3 (y7t v3 l0 v17).length (Zz (y7t v3 l0 v17))]),[]⟩ [true] (pp (xL (v3.length+2) (y7t v3 l0 v17).length) (pp (xL (v3.length+2) (y7t v3 l0 v17).length) (pp (xS (v3.length+2) (Zh (Zz v3) 0 v3.length 3 [(ii (rd l0 (tn v17)).a),(ii 0),(ii 1),(ii (rd l0 (tn v17)).b),(ii 0),(ii (-1))]) (Zz (y7t v3 l0 v17))) (pp (pp (xF (Zh (Zz v3) 0 v3.length 3 [(ii (rd l0 (tn v17)).a),(ii 0),(ii 1),(ii (rd l0 (tn v17)).b),(ii 0),(ii (-1))])) nn) (ww o1 (ww o0 (tt k0 nn))))))))))) (fun k0=>(sl z2e 38 [] ⟨(List.range 8),[],spjN1,spjM1⟩ ⟨[],[],[]⟩ (bl 2 2) (pp (fl v3 nn) (tt k0 nn)))))
 | .h1 v3 v17=>(lb (fun k0=>(lo fun o0=>(lo fun o1=>(sl z2e 36 [] ⟨[0,1,2,3,4,5,6,10],[],spjN1,spjM1⟩ ⟨[(3,.len (y7s v3 l1 v17).length)],(kpB 7 [.rowed 3 (y7s v3 l1 v17).length (Zz (y7s v3 l1 v17))]),[]⟩ [true] (pp (xL (v3.length+2) (y7s v3 l1 v17).length) (pp (xL (v3.length+2) (y7s v3 l1 v17).length) (pp (xS (v3.length+2) (Zh (Zz v3) 0 v3.length 3 [(ii (rd l1 (tn v17)).a),(ii 1),(ii 1),(ii (rd l1 (tn v17)).b),(ii 1),(ii (-1))]) (Zz (y7s v3 l1 v17))) (pp (pp (xF (Zh (Zz v3) 0 v3.length 3 [(ii (rd l1 (tn v17)).a),(ii 1),(ii 1),(ii (rd l1 (tn v17)).b),(ii 1),(ii (-1))])) nn) (ww o1 (ww o0 (tt k0 nn))))))))))) (fun k0=>(lo fun o0=>(lo fun o1=>(lo fun o2=>(sl z2e 54 [(176,2,Zz ([]:List R2))] ⟨[9,1,2,4,5,6,3,7,10],[],y4e,y4f⟩ ⟨[(5,.len (z1j (cvT v3)).length)],(kpB 6 [.cells [.grow 8 2],.rowed 3 (z1j (cvT v3)).length (Zz (z1j (cvT v3))),.keep]),[]⟩ (bl 2 0) (pp (xL v3.length (z1j (cvT v3)).length (by first | exact z8d _ | exact Vt rfl)) (pp (xL v3.length (z1j (cvT v3)).length (by first | exact z8d _ | exact Vt rfl)) (pp (xS v3.length (Zz (z1j (cvT v3))) (Zz (z1j (cvT v3)))) (pp (fl (z1j (cvT v3)) (fl ([]:List R2) nn)) (pp (pp (xG (Nat.beq 3 3)) (pp (xG (Nat.beq 3 3)) (pp (xG (Nat.beq 0 0)) (pp (pp (xG (decide (v3.length=v3.length))) (pp (xr v3) (xG (decide (v3.length<4611686018427387904))))) (xG (y1m (cvT v3))))))) (tt k0 nn))))))))))))
 | .h2 v5 v6 v7 aB bL aU aF aC=>(lb (fun k0=>(lo fun aI=>(lo fun bD=>(lb (fun k1=>(lb (fun k2=>(sl z2e 62 [] ⟨(List.range 9),[],y4e,y4f⟩ ⟨[],[],[]⟩ (trs 5 (bl 3 0)) (pp (fl v5 (fl aC nn)) (ww k2 (tt k1 (ww bD (ww aI (tt k0 nn)))))))) (fun k2=>(lb (fun k3=>(sl z2e 62 [] ⟨(List.range 9),[],y4e,y4f⟩ ⟨[],[],[]⟩ (trs 6 (bl 4 2)) (pp (fl v5 (fl aC nn)) (ww k3 (tt k1 (ww bD (ww aI (tt k0 nn)))))))) (fun k3=>trivial))))) (fun k1=>(lb (fun k2=>(lb (fun k3=>(sl z2e 62 [] ⟨(List.range 9),[],y4e,y4f⟩ ⟨[],[],[]⟩ (bl 8 17) (pp (fl v5 (fl aC nn)) (ww k3 (tt k2 (tt k1 (ww bD (ww aI (tt k0 nn))))))))) (fun k3=>(lb (fun k4=>(sl z2e 62 [] ⟨(List.range 9),[],y4e,y4f⟩ ⟨[],[],[]⟩ (bl 10 177) (pp (fl v5 (fl aC nn)) (ww k4 (tt k2 (tt k1 (ww bD (ww aI (tt k0 nn))))))))) (fun k4=>trivial))))) (fun k2=>(lb (fun k3=>(lo fun bU=>(lo fun cU=>(lb (fun k4=>(lb (fun k5=>(sl z2e 81 [] ⟨(List.range 9),[],y4e,y4f⟩ ⟨[],(kpB 6 [.cells [.len (aC.set (0+(tn (wr ((aC.length:Int) - 1)))) (R2.mk (rd aC (0+(tn (wr ((aC.length:Int) - 1))))).a (rd v5 (0+(tn v7))).a)).length],.keep,.rowed 2 (aC.set (0+(tn (wr ((aC.length:Int) - 1)))) (R2.mk (rd aC (0+(tn (wr ((aC.length:Int) - 1))))).a (rd v5 (0+(tn v7))).a)).length (Zz (aC.set (0+(tn (wr ((aC.length:Int) - 1)))) (R2.mk (rd aC (0+(tn (wr ((aC.length:Int) - 1))))).a (rd v5 (0+(tn v7))).a)))]),[]⟩ (bl 17 16353) (pp (xL aC.length (aC.set (0+(tn (wr ((aC.length:Int) - 1)))) (R2.mk (rd aC (0+(tn (wr ((aC.length:Int) - 1))))).a (rd v5 (0+(tn v7))).a)).length) (pp (xL aC.length (aC.set (0+(tn (wr ((aC.length:Int) - 1)))) (R2.mk (rd aC (0+(tn (wr ((aC.length:Int) - 1))))).a (rd v5 (0+(tn v7))).a)).length) (pp (xS aC.length (Yt (Zz aC) (0+(tn (wr ((aC.length:Int) - 1)))) 1 [(ii (rd v5 (0+(tn v7))).a)]) (Zz (aC.set (0+(tn (wr ((aC.length:Int) - 1)))) (R2.mk (rd aC (0+(tn (wr ((aC.length:Int) - 1))))).a (rd v5 (0+(tn v7))).a)))) (pp (fl v5 (pp (xF (Yt (Zz aC) (0+(tn (wr ((aC.length:Int) - 1)))) 1 [(ii (rd v5 (0+(tn v7))).a)])) nn)) (ww k5 (ww cU (ww bU (tt k4 (ww cU (ww bU (tt k3 (tt k2 (tt k1 (ww bD (ww aI (tt k0 nn)))))))))))))))))) (fun k5=>(lb (fun k6=>(sl z2e 81 [] ⟨(List.range 9),[],y4e,y4f⟩ ⟨[],(kpB 6 [.cells [.len (aC.set (0+(tn (wr ((aC.length:Int) - 1)))) (R2.mk (rd aC (0+(tn (wr ((aC.length:Int) - 1))))).a (rd v5 (0+(tn v7))).a)).length],.keep,.rowed 2 (aC.set (0+(tn (wr ((aC.length:Int) - 1)))) (R2.mk (rd aC (0+(tn (wr ((aC.length:Int) - 1))))).a (rd v5 (0+(tn v7))).a)).length (Zz (aC.set (0+(tn (wr ((aC.length:Int) - 1)))) (R2.mk (rd aC (0+(tn (wr ((aC.length:Int) - 1))))).a (rd v5 (0+(tn v7))).a)))]),[]⟩ (bl 19 98273) (pp (xL aC.length (aC.set (0+(tn (wr ((aC.length:Int) - 1)))) (R2.mk (rd aC (0+(tn (wr ((aC.length:Int) - 1))))).a (rd v5 (0+(tn v7))).a)).length) (pp (xL aC.length (aC.set (0+(tn (wr ((aC.length:Int) - 1)))) (R2.mk (rd aC (0+(tn (wr ((aC.length:Int) - 1))))).a (rd v5 (0+(tn v7))).a)).length) (pp (xS aC.length (Yt (Zz aC) (0+(tn (wr ((aC.length:Int) - 1)))) 1 [(ii (rd v5 (0+(tn v7))).a)]) (Zz (aC.set (0+(tn (wr ((aC.length:Int) - 1)))) (R2.mk (rd aC (0+(tn (wr ((aC.length:Int) - 1))))).a (rd v5 (0+(tn v7))).a)))) (pp (fl v5 (pp (xF (Yt (Zz aC) (0+(tn (wr ((aC.length:Int) - 1)))) 1 [(ii (rd v5 (0+(tn v7))).a)])) nn)) (ww k6 (ww cU (ww bU (tt k4 (ww cU (ww bU (tt k3 (tt k2 (tt k1 (ww bD (ww aI (tt k0 nn)))))))))))))))))) (fun k6=>trivial))))) (fun k4=>(lo fun cN=>(lb (fun k5=>(sl z2e 81 [] ⟨[0,1,2,3,4,5,6,7,12],[],y4e,y4f⟩ ⟨[],(kpB 6 [.cells [.len (Uh aC aU v5 v7).length],.keep,.rowed 2 (Uh aC aU v5 v7).length (Zz (Uh aC aU v5 v7))]),[]⟩ (bl 17 8161) (pp (xL (aC.length+1) (Uh aC aU v5 v7).length) (pp (xL (aC.length+1) (Uh aC aU v5 v7).length) (pp (xS (aC.length+1) (y0r aC aU v5 v7) (Zz (Uh aC aU v5 v7))) (pp (fl v5 (pp (xF (y0r aC aU v5 v7)) nn)) (ww k5 (ww cN (tt k4 (ww cU (ww bU (tt k3 (tt k2 (tt k1 (ww bD (ww aI (tt k0 nn))))))))))))))))) (fun k5=>(lb (fun k6=>(sl z2e 81 [] ⟨[0,1,2,3,4,5,6,7,12],[],y4e,y4f⟩ ⟨[],(kpB 6 [.cells [.len (Uh aC aU v5 v7).length],.keep,.rowed 2 (Uh aC aU v5 v7).length (Zz (Uh aC aU v5 v7))]),[]⟩ (bl 19 90081) (pp (xL (aC.length+1) (Uh aC aU v5 v7).length) (pp (xL (aC.length+1) (Uh aC aU v5 v7).length) (pp (xS (aC.length+1) (y0r aC aU v5 v7) (Zz (Uh aC aU v5 v7))) (pp (fl v5 (pp (xF (y0r aC aU v5 v7)) nn)) (ww k6 (ww cN (tt k4 (ww cU (ww bU (tt k3 (tt k2 (tt k1 (ww bD (ww aI (tt k0 nn))))))))))))))))) (fun k6=>trivial)))))))))) (fun k3=>(lo fun bU=>(lb (fun k4=>(sl z2e 81 [] ⟨[0,1,2,3,4,5,6,7,12],[],y4e,y4f⟩ ⟨[],(kpB 6 [.cells [.len (Uh aC aU v5 v7).length],.keep,.rowed 2 (Uh aC aU v5 v7).length (Zz (Uh aC aU v5 v7))]),[]⟩ (bl 17 1) (pp (xL (aC.length+1) (Uh aC aU v5 v7).length) (pp (xL (aC.length+1) (Uh aC aU v5 v7).length) (pp (xS (aC.length+1) (y0r aC aU v5 v7) (Zz (Uh aC aU v5 v7))) (pp (fl v5 (pp (xF (y0r aC aU v5 v7)) nn)) (ww k4 (ww bU (tt k3 (tt k2 (tt k1 (ww bD (ww aI (tt k0 nn)))))))))))))) (fun k4=>(lb (fun k5=>(sl z2e 81 [] ⟨[0,1,2,3,4,5,6,7,12],[],y4e,y4f⟩ ⟨[],(kpB 6 [.cells [.len (Uh aC aU v5 v7).length],.keep,.rowed 2 (Uh aC aU v5 v7).length (Zz (Uh aC aU v5 v7))]),[]⟩ (bl 19 81921) (pp (xL (aC.length+1) (Uh aC aU v5 v7).length) (pp (xL (aC.length+1) (Uh aC aU v5 v7).length) (pp (xS (aC.length+1) (y0r aC aU v5 v7) (Zz (Uh aC aU v5 v7))) (pp (fl v5 (pp (xF (y0r aC aU v5 v7)) nn)) (ww k5 (ww bU (tt k3 (tt k2 (tt k1 (ww bD (ww aI (tt k0 nn)))))))))))))) (fun k5=>trivial)))))))))))))) (fun k0=>(lb (fun k1=>(lr 11 3 [1,1,1,1,0] 1 16 [(4,.nils),(5,(ii 4))] (sl z2e 37 [] ⟨[],[],[some [4,5]],[]⟩ ⟨[],[],[]⟩ (bl 2 2) (tt k1 (tt k0 nn))))) (fun k1=>(lr 11 3 [1,1,1,1,0] 1 16 [(4,(.dat aC.length (Zz aC))),(5,(ii 0))] (sl z2e 39 [] ⟨[],[8],[some [4,5]],[]⟩ ⟨[(4,.frz aC.length aC.length (Zz aC) (Zz aC))],[],[]⟩ (bl 2 0) (pp (xZ (z1o 2 2 0 aC.length aC.length (Zz aC)) aC.length (Zz aC)) (pp (xL aC.length aC.length) (pp (xS aC.length (Zz aC) (Zz aC)) (pp (fl aC nn) (tt k1 (tt k0 nn))))))))))))
theorem x6s (q:Op) (l0:List R2) (l1:List R2):Xy prog (Zy prog (nSp q)) (spjC q l0 l1) (Zg prog (nSp q) [(.dat l0.length (Zz l0)),(.dat l1.length (Zz l1))] true []) (y1z q l0 l1):=by cases q <;> exact (lo fun bH=>(lb (fun k0=>(lr 11 3 [1,1,1,1,0] 1 16 [(4,.nils),(5,(ii (y8f (cvT l0))))] (sl z2e 40 [] ⟨[],[],[some [4,5]],[]⟩ ⟨[],[],[]⟩ [true] (tt k0 (pp (pp (xr l0) (xw bH)) nn))))) (fun k0=>(lo fun aI=>(lb (fun k1=>(lr 11 3 [1,1,1,1,0] 1 16 [(4,.nils),(5,(ii (y8f (cvT l1))))] (sl z2e 54 [] ⟨[],[],[some [4,5]],[]⟩ ⟨[],[],[]⟩ [false,true] (tt k1 (pp (pp (xr l1) (xw aI)) (tt k0 (pp (pp (xr l0) (xw bH)) nn))))))) (fun k1=>(sl z2e 124 [(227,3,Zz ([]:List R3))] ⟨[6,0,1,2,3,4,5,7],[],spjN0,spjM0⟩ ⟨[(3,.grow 7 3)],[],[]⟩ [false,false,true] (pp (fl ([]:List R3) nn) (tt k1 (pp (pp (xr l1) (xw aI)) (tt k0 (pp (pp (xr l0) (xw bH)) nn))))))))))))
theorem v7j (q:Op) (l0:List R2) (l1:List R2) (n:Nat) (vs:List AVal) (h:Zr (Wj q l0 l1) n (y1z q l0 l1)=.ret vs):Uz prog (Zy prog (nSp q)) (Zg prog (nSp q) [(.dat l0.length (Zz l0)),(.dat l1.length (Zz l1))] true []) vs:=by have:=Zd (w5w q l0 l1) n _ (x6s q l0 l1);rwa [h] at this
def spE (k:Nat) (a b:List R2):Int:=bif y8f a != 0 then y8f a else bif y8f b != 0 then y8f b else y7g (spJ k a b).length
theorem y1a (i:Int) (l:List R2):(Wk i l).length =2*l.length:=by
 induction l with
 | nil=>rfl
 | cons r l ih=>grind [Wk]
theorem y9t (j:Int) (l:List R2) (i:Nat) (h:i<l.length):Wk j (l.drop i)=Wk j [rd l i]++Wk j (l.drop (i+1)):=by rw [Yg h];rfl
theorem v5r {j:Int} {l:List R2} {e:R3} (h:e∈Wk j l):e.b=j∧(e.c=1∨e.c= -1):=by
 obtain ⟨s,_,h⟩:=AD.1 h
 grind
theorem w2j (f:Bool→Bool→Bool) (e:R3) (r:List R3) (o p last:Int) (inn:Bool) (out:List R2):sw2 f (e::r) o p last inn out=sw2 f r (bif e.b == 0 then o+e.c else o) (bif e.b == 0 then p else p+e.c) e.a (f (decide ((bif e.b == 0 then o+e.c else o)>0)) (decide ((bif e.b == 0 then p else p+e.c)>0))) (Uq out last inn e.a):=rfl
section
variable (q:Op) (a b:List R2)
theorem u3j (L:List R3) (hL:L.length≤2000) (hE: ∀i,i<L.length→((rd L i).b =0∨(rd L i).b =1)∧((rd L i).c =1∨(rd L i).c = -1)): ∀(k i:Nat) (o p last:Int) (inn:Bool) (out:List R2),i+k=L.length→ -(i:Int)≤o→o≤i→ -(i:Int)≤p→p≤i→out.length≤i→
  ∃n,Zr (Wj q a b) n (.to (.h2 L (L.length:Int) (i:Int) o p last inn out))=.ret (Ki (sw2 (opB q.k) (L.drop i) o p last inn out))
 | 0,i,o,p,last,inn,out,h,ho1,ho2,hp1,hp2,hout=>by
  refine ⟨1,?_⟩;rw [Zw,As (by omega)];unfold Ki;show _=Xx.ret (bif decide ((out.length:Int)>400) then _ else _);rcases Yy (decide ((out.length:Int)>400)) with g | g <;>
  simp (disch:=omega) only [Wj,Yb,g,Ab,Aa,Zq];rfl
 | k + 1,i,o,p,last,inn,out,h,ho1,ho2,hp1,hp2,hout=>by
  obtain ⟨hb,hc⟩:=hE i (by omega);have hcl:=z3a out last inn (rd L i).a;have hcf: ∀x y,cV q x y=opB q.k x y:=fun _ _=>rfl;have hlt:decide ((i:Int)<(L.length:Int))=true:=Al (by omega);have hw:wrap .i64 (o+(rd L i).c)=o+(rd L i).c :=Zj (by grind);have hw':wrap .i64 (p+(rd L i).c)=p+(rd L i).c :=Zj (by grind);have key: ∀(o' p':Int) (out':List R2),-((i+1:Nat):Int)≤o'→o'≤((i+1:Nat):Int)→ -((i+1:Nat):Int)≤p'→p'≤((i+1:Nat):Int)→out'=Uq out last inn (rd L i).a →
    Wj q a b (.h2 L (L.length:Int) (i:Int) o p last inn out)=.to (.h2 L (L.length:Int) ((i+1:Nat):Int) o' p' (rd L i).a (opB q.k (decide (o'>0)) (decide (p'>0))) out')→
    sw2 (opB q.k) (L.drop i) o p last inn out=sw2 (opB q.k) (L.drop (i+1)) o' p' (rd L i).a (opB q.k (decide (o'>0)) (decide (p'>0))) out'→
    ∃n,Zr (Wj q a b) n (.to (.h2 L (L.length:Int) (i:Int) o p last inn out))=.ret (Ki (sw2 (opB q.k) (L.drop i) o p last inn out)):=fun o' p' out' b1 b2 b3 b4 eo hs hq=>by
   obtain ⟨n,hn⟩:=u3j L hL hE k (i+1) o' p' (rd L i).a (opB q.k (decide (o'>0)) (decide (p'>0))) out' (by omega) b1 b2 b3 b4 (by grind);refine ⟨n+1,?_⟩;rw [Zw,hs,hq];exact hn
  rcases hb with hb | hb
  ·have hz:decide ((rd L i).b =Int.ofNat 0)=true:=Al hb;have hb0:((rd L i).b == 0)=true:=by rw [hb];rfl
   refine key (o+(rd L i).c) p (Uq out last inn (rd L i).a) (by grind) (by grind) (by omega) (by omega) rfl ?_ ?_
   ·unfold Uq;cases inn with
    | false=>simp (disch:=omega) only [Wj,hlt,hz,hw,hw',hcf,Zs,Zn,Yv,Zj,Zx,Zk,Af,Ah,Ab,Aa,Ay]
    | true=>
     rcases Yy (last == (rd L i).a) with g | g
     ·simp (disch:=omega) only [Wj,hlt,hz,hw,hw',hcf,Zs,Zn,Yv,Zj,Zx,Zk,Af,Ah,Ab,Aa,Aw,g]
     ·by_cases h0:0<out.length
      ·rw [Al h0,Ai];rcases Yy ((rd out (out.length - 1)).b == last) with q2 | q2
       ·simp (disch:=omega) only [Wj,hlt,hz,hw,hw',hcf,Zs,Zn,Yv,Zj,Zx,Zk,Af,Ah,Ab,Aa,Aw,g,q2,Yn,Zf]
       ·simp (disch:=omega) only [Wj,hlt,hz,hw,hw',hcf,Zs,Zn,Yv,Zj,Zx,Zk,Af,Ah,Ab,Aa,Aw,Ai,g,q2,Yn,Zf,Yu,Ze,Yp,Ao]
      ·rw [Az h0,Bc];simp (disch:=omega) only [Wj,hlt,hz,hw,hw',hcf,Zs,Zn,Yv,Zj,Zx,Zk,Af,Ah,Ab,Aa,Aw,Ai,g,Xi,Yu,Ze,Yp,Ao]
   simp_all [Yg,w2j]
  ·have hz0:decide ((rd L i).b =Int.ofNat 0)=false:=Az (by grind);have hz:decide ((rd L i).b =Int.ofNat 1)=true:=Al hb;have hb0:((rd L i).b == 0)=false:=by rw [hb];rfl
   refine key o (p+(rd L i).c) (Uq out last inn (rd L i).a) (by omega) (by omega) (by grind) (by grind) rfl ?_ ?_
   ·unfold Uq;cases inn with
    | false=>simp (disch:=omega) only [Wj,hlt,hz0,hz,hw,hw',hcf,Zs,Zn,Yv,Zj,Zx,Zk,Af,Ah,Ab,Aa,Ay]
    | true=>
     rcases Yy (last == (rd L i).a) with g | g
     ·simp (disch:=omega) only [Wj,hlt,hz0,hz,hw,hw',hcf,Zs,Zn,Yv,Zj,Zx,Zk,Af,Ah,Ab,Aa,Aw,g]
     ·by_cases h0:0<out.length
      ·rw [Al h0,Ai];rcases Yy ((rd out (out.length - 1)).b == last) with q2 | q2
       ·simp (disch:=omega) only [Wj,hlt,hz0,hz,hw,hw',hcf,Zs,Zn,Yv,Zj,Zx,Zk,Af,Ah,Ab,Aa,Aw,g,q2,Yn,Zf]
       ·simp (disch:=omega) only [Wj,hlt,hz0,hz,hw,hw',hcf,Zs,Zn,Yv,Zj,Zx,Zk,Af,Ah,Ab,Aa,Aw,Ai,g,q2,Yn,Zf,Yu,Ze,Yp,Ao]
      ·rw [Az h0,Bc];simp (disch:=omega) only [Wj,hlt,hz0,hz,hw,hw',hcf,Zs,Zn,Yv,Zj,Zx,Zk,Af,Ah,Ab,Aa,Aw,Ai,g,Xi,Yu,Ze,Yp,Ao]
   simp_all [Yg,w2j]
theorem u3k (ha:a.length≤400) (hb:b.length≤400) (va:a.all z1i=true) (vb:b.all z1i=true): ∀(k i:Nat) (E:List R3),i+k=b.length→E.length=2*a.length+2*i→E++Wk 1 (b.drop i)=Wk 0 a++Wk 1 b→ ∃n,Zr (Wj q a b) n (.to (.h1 E (i:Int)))=.ret (Ki (spJ q.k a b))
 | 0,i,E,h,hl,he=>by
  rw [As (by omega),show Wk 1 []=[] from rfl,AB] at he;subst he;have hbnd:y1m (Wk 0 a++Wk 1 b)=true:=by
   grind [x5f,y1m]
  have hsl:=y4a (Wk 0 a++Wk 1 b);obtain ⟨hp,_⟩:=Qq _ hbnd;obtain ⟨n,hn⟩:=u3j q a b (z1j (Wk 0 a++Wk 1 b)) (by grind) (fun i hi=>by
   have hm:rd (z1j (Wk 0 a++Wk 1 b)) i∈Wk 0 a++Wk 1 b:=hp.mem_iff.1 (by grind [Xz])
   grind [v5r]) (z1j (Wk 0 a++Wk 1 b)).length 0 0 0 0 false [] (Af _) (by omega) (by omega) (by omega) (by omega) (AA _)
  refine ⟨n+1,?_⟩;rw [Zw];have step:Wj q a b (.h1 (Wk 0 a++Wk 1 b) (i:Int))=.to (.h2 (z1j (Wk 0 a++Wk 1 b)) (((Wk 0 a++Wk 1 b).length :Nat):Int) 0 0 0 0 false []):=by
   grind [Wj,Zb]
  rw [step,←hsl];exact hn
 | k+1,i,E,h,hl,he=>by rw [y9t 1 b i (by omega),←AI] at he;obtain ⟨n,hn⟩:=u3k ha hb va vb k (i+1) (E++Wk 1 [rd b i]) (by omega) (by grind [y1a]) he;refine ⟨n+1,?_⟩;rw [Zw];simp (disch:=omega) only [Wj,Yu,Ze,Yp,Ao,Ai,Zs,Zn,Yv,Zj,Zx,Zk,Af,Ah,Ab,Aa];exact hn
theorem u3l (ha:a.length≤400) (hb:b.length≤400) (va:a.all z1i=true) (vb:b.all z1i=true): ∀(k i:Nat) (E:List R3),i+k=a.length→E.length=2*i→E++Wk 0 (a.drop i)=Wk 0 a→ ∃n,Zr (Wj q a b) n (.to (.h0 E (i:Int)))=.ret (Ki (spJ q.k a b))
 | 0,i,E,h,hl,he=>by
  rw [As (by omega),show Wk 0 []=[] from rfl,AB] at he;subst he;obtain ⟨n,hn⟩:=u3k q a b ha hb va vb b.length 0 (Wk 0 a) (Af _) (by omega) (by grind);refine ⟨n+1,?_⟩
  grind [Zw,Wj]
 | k+1,i,E,h,hl,he=>by rw [y9t 0 a i (by omega),←AI] at he;obtain ⟨n,hn⟩:=u3l ha hb va vb k (i+1) (E++Wk 0 [rd a i]) (by omega) (by grind [y1a]) he;refine ⟨n+1,?_⟩;rw [Zw];simp (disch:=omega) only [Wj,Yu,Ze,Yp,Ao,Ai,Zs,Zn,Yv,Zj,Zx,Zk,Af,Ah,Ab,Aa];exact hn
theorem u9c : ∃n,Zr (Wj q a b) n (y1z q a b)=.ret (z8y (spE q.k a b) (spJ q.k a b)):=by
 unfold y1z;have o: ∀l,z3v l=true:=fun _=>rfl;simp only [Zb,o,Ab];rcases Yy (y8f a != 0) with q1 | q1
 ·exact ⟨0,by simp only [spE,q1,Ab,Vv _ q1];rfl⟩
 rcases Yy (y8f b != 0) with q2 | q2
 ·exact ⟨0,by simp only [spE,q1,q2,Ab,Aa,Vv _ q2];rfl⟩
 obtain ⟨a1,a2,_⟩:=(x0q a).1 (by grind);obtain ⟨b1,b2,_⟩:=(x0q b).1 (by grind);obtain ⟨n,hn⟩:=u3l q a b a1 b1 a2 b2 a.length 0 [] (Af _) rfl (by grind)
 grind [spE,z8r]
end
def z3q (q:Op) (a b:List R2):List R2:=y7f (spE q.k a b) (spJ q.k a b)
def w5x (q:Op) (a b:List R2):Int:=spE q.k a b
def x0g (q:Op) (a b:List R2):Bool:=true
def fSp (q:Op):List AVal→Option (AVal×Bool)
 | [a1,a2]=>match asL R2 a1,asL R2 a2 with
  | some (L1,g1,n1),some (L2,g2,n2)=>some (.tup [.dat (z3q q L1 L2).length (Zz (z3q q L1 L2)),.int .i64 (w5x q L1 L2)],isT R2 n1 g1&&(isT R2 n2 g2&&x0g q L1 L2))
  | _,_=>none
 | _=>none
theorem v5h (q:Op) {S:Specs} (hS:Zv prog S):Zv prog (S.with (nSp q) (fSp q)):=by
 refine x6d hS (by cases q <;> kernel_rfl) fun args v h=> ?_;unfold fSp at h;split at h
 ·rename_i a1 a2;split at h
  ·rename_i L1 g1 n1 L2 g2 n2 e1 e2;simp only [Ae,Ad,Ac] at h;obtain ⟨rfl,ho1,ho2,_⟩:=h;obtain ⟨N,hN⟩:=u9c q L1 L2;exact ⟨_,_,(.cons (Yc e1 ho1) (.cons (Yc e2 ho2) .nil)),Qt _ _,v7j q L1 L2 N _ hN,3,z2n _ _⟩
  ·cases h
 ·cases h
def Ub :Specs:=((Ua.with (nSp .u) (fSp .u)).with (nSp .e) (fSp .e)).with (nSp .d) (fSp .d)
theorem y6w :Zv prog Ub:=v5h .d (v5h .e (v5h .u z2e))
inductive rgcS where
 | h0 (v8:Int)
def rgcC (l0:List R4):rgcS→Cfg
 | .h0 v8=>⟨⟨19,0,true⟩,none,(Zc prog 192 [1,0,1,0,0] 0),none,(Zy prog 6),⟨Yj [(0,(.dat l0.length (Zz l0))),(1,(.fn 182 [])),(7,(ii (l0.length:Int))),(8,(ii v8))],Wn [] 0,0,[],true⟩,[⟨⟨9,0,true⟩,(Vk prog 181 [1,0] 2),(Zc prog 181 [1,0] 1),none,(Zy prog 6),Yj [(5,(.dat l0.length (Zz l0))),(6,(.fn 182 []))]⟩,⟨⟨23,0,true⟩,(Vk prog 157 [1,1,0,0] 1),(Zc prog 157 [1,1,0,0] 1),none,(Zy prog 9),Yj [(0,(.dat l0.length (Zz l0))),(8,(.dat l0.length (Zz l0)))]⟩],.leaf⟩
def rgcN0 :List (Option (List Nat)):=[some [0,1,7,8],some [5,6],some [0,8]]
def rgcM0 :List (Option (List Nat)):=[]
def z2m (l0:List R4):rgcS→Xx rgcS
 | .h0 v8=>(bif (decide (v8<(l0.length:Int))) then (bif ((decide (0≤v8∧v8<(l0.length:Int)))&&true) then (bif (!(u8q (rd l0 v8.toNat).a (rd l0 v8.toNat).b (rd l0 v8.toNat).c (rd l0 v8.toNat).d)) then (bif (decide (v8≥0)) then (.ret [(.int .i64 8)]) else (bif (Qa (cvT l0)) then (bif ((z1u (cvT l0)) != 0) then (.ret [(.int .i64 8)]) else (bif (Xs (cvT (Wa (cvT l0))) (cvT l0)) then (bif (!(Vw (cvT (Wa (cvT l0))) (cvT l0))) then (.ret [(.int .i64 8)]) else (.ret [(.int .i64 0)])) else .stuck)) else .stuck)) else (.to (.h0 (wrap .i64 (v8+1))))) else .stuck) else (bif (Qa (cvT l0)) then (bif ((z1u (cvT l0)) != 0) then (.ret [(.int .i64 8)]) else (bif (Xs (cvT (Wa (cvT l0))) (cvT l0)) then (bif (!(Vw (cvT (Wa (cvT l0))) (cvT l0))) then (.ret [(.int .i64 8)]) else (.ret [(.int .i64 0)])) else .stuck)) else .stuck))
def z7s (l0:List R4):Xx rgcS:=(bif (decide ((l0.length:Int)>400)) then (.ret [(.int .i64 4)]) else (.to (.h0 0)))
theorem w7k (l0:List R4): ∀s,Xy prog (Zy prog 157) (rgcC l0) (rgcC l0 s) (z2m l0 s)
 | .h0 v8=>(lb (fun k0=>(lo fun aI=>(lb (fun k1=>(lb (fun k2=>(lr 23 157 [1,1,0,1,0,0] 1 9 [(2,(ii 8))] (sl y6w 53 [] ⟨[],[],[some [2]],[]⟩ ⟨[],[],[]⟩ (trs 3 []) (tt k2 (tt k1 (ww aI (tt k0 nn))))))) (fun k2=>(lo fun cE=>(lb (fun k3=>(lr 23 157 [1,1,1,0,1,1,0,0] 1 9 [(2,(ii 8))] (sl y6w 77 [] ⟨[],[],[some [2]],[]⟩ ⟨[],[],[]⟩ (bl 8 251) (tt k3 (pp (pp (xr l0) (xw cE)) (tt k2 (tt k1 (ww aI (tt k0 nn))))))))) (fun k3=>(lo fun bU=>(lb (fun k4=>(lr 23 157 [1,1,1,0,1,1,0,0] 1 9 [(2,(ii 8))] (sl y6w 77 [] ⟨[],[],[some [2]],[]⟩ ⟨[],[],[]⟩ (bl 8 131) (tt k4 (pp (pp (xI R4 (Wa (cvT l0)).length (Zz (Wa (cvT l0)))) (pp (xr l0) (xw bU))) (tt k3 (pp (pp (xr l0) (xw cE)) (tt k2 (tt k1 (ww aI (tt k0 nn))))))))))) (fun k4=>(lr 23 3 [1,1,1,1,0] 1 9 [(2,(ii 0))] (sl y6w 78 [] ⟨[],[],[some [2]],[]⟩ ⟨[],[],[]⟩ (bl 8 3) (tt k4 (pp (pp (xI R4 (Wa (cvT l0)).length (Zz (Wa (cvT l0)))) (pp (xr l0) (xw bU))) (tt k3 (pp (pp (xr l0) (xw cE)) (tt k2 (tt k1 (ww aI (tt k0 nn))))))))))))))))))) (fun k1=>(sl y6w 44 [] ⟨[],[],rgcN0,rgcM0⟩ ⟨[],[],[]⟩ (bl 2 1) (tt k1 (ww aI (tt k0 nn)))))))) (fun k0=>(lo fun aI=>(lb (fun k1=>(lr 23 157 [1,1,1,0,1,1,0,0] 1 9 [(2,(ii 8))] (sl y6w 46 [] ⟨[],[],[some [2]],[]⟩ ⟨[],[],[]⟩ (bl 7 124) (tt k1 (pp (pp (xr l0) (xw aI)) (tt k0 nn)))))) (fun k1=>(lo fun bS=>(lb (fun k2=>(lr 23 157 [1,1,1,0,1,1,0,0] 1 9 [(2,(ii 8))] (sl y6w 46 [] ⟨[],[],[some [2]],[]⟩ ⟨[],[],[]⟩ (bl 7 64) (tt k2 (pp (pp (xI R4 (Wa (cvT l0)).length (Zz (Wa (cvT l0)))) (pp (xr l0) (xw bS))) (tt k1 (pp (pp (xr l0) (xw aI)) (tt k0 nn)))))))) (fun k2=>(lr 23 3 [1,1,1,1,0] 1 9 [(2,(ii 0))] (sl y6w 47 [] ⟨[],[],[some [2]],[]⟩ ⟨[],[],[]⟩ (bl 7 0) (tt k2 (pp (pp (xI R4 (Wa (cvT l0)).length (Zz (Wa (cvT l0)))) (pp (xr l0) (xw bS))) (tt k1 (pp (pp (xr l0) (xw aI)) (tt k0 nn)))))))))))))))
theorem x8m (l0:List R4):Xy prog (Zy prog 157) (rgcC l0) (Zg prog 157 [(.dat l0.length (Zz l0))] true []) (z7s l0):=(lb (fun k0=>(lr 23 157 [1,0,1,0,0] 1 9 [(2,(ii 4))] (sl y6w 16 [] ⟨[],[],[some [2]],[]⟩ ⟨[],[],[]⟩ [true] (tt k0 nn)))) (fun k0=>(sl y6w 40 [] ⟨[],[],rgcN0,rgcM0⟩ ⟨[],[],[]⟩ [false] (tt k0 nn))))
theorem u0b (l0:List R4) (n:Nat) (vs:List AVal) (h:Zr (z2m l0) n (z7s l0)=.ret vs):Uz prog (Zy prog 157) (Zg prog 157 [(.dat l0.length (Zz l0))] true []) vs:=by have:=Zd (w7k l0) n _ (x8m l0);rwa [h] at this
def rgcF (l:List R4):Int:=bif z1u l != 0 then 8 else bif Vw (Wa l) l then 0 else 8
def y1j (l:List R4):Int:=bif decide (400<l.length) then 4 else bif l.all Jj then rgcF l else 8
def z4d (l:List R4):Bool:=true
theorem x9j (l:List R4):(Wa l).length ≤400:=by
 grind [Wa,j2z,y7f,y7g]
theorem u6h (l:List R4) (hl:l.length≤400): ∀(k i:Nat),i+k=l.length→(∀s∈l.take i,Jj s=true)→ ∃n,Zr (z2m l) n (.to (.h0 (i:Int)))=.ret (bif l.all Jj then [.int .i64 (rgcF l)] else [.int .i64 8])
 | 0,i,h,ht=>by
  have hv:l.all Jj=true:=Ar.2 fun s hs=>ht s (by grind);have w:Qa l=true:=Al hl;refine ⟨1,?_⟩;rw [Zw,hv,Ab];have w2:Xs (Wa l) l=true:=Al (by have:=x9j l;omega);unfold rgcF;rcases Yy (z1u l != 0) with q | q
  ·grind [z2m,Zb,Zq]
  ·rcases Yy (Vw (Wa l) l) with q2 | q2 <;>
   simp (disch:=omega) only [z2m,Zb,w,w2,q,q2,Yb,Aw,Ay,Ab,Aa,Zq]
 | k+1,i,h,ht=>by
  have hi:i<l.length:=by omega
  have hs:z2m l (.h0 (i:Int))=bif Jj (rd l i) then .to (.h0 ((i+1:Nat):Int)) else .ret [.int .i64 8]:=by have e:u8q (rd l i).a (rd l i).b (rd l i).c (rd l i).d =Jj (rd l i):=rfl;simp (disch:=omega) only [z2m,e,y0e,x5g,w5a,Zn,Zj,Zx,Zk,Ah,Ab,Aa]
  rcases Yy (Jj (rd l i)) with q | q
  ·obtain ⟨n,hn⟩:=u6h l hl k (i+1) (by omega) (fun s hs=>by
    rw [A0] at hs
    grind [Xz])
   refine ⟨n+1,?_⟩
   grind [Zw]
  ·have hv:l.all Jj=false:=AZ.2 fun e=>by
    grind [Xz]
   refine ⟨1,?_⟩
   grind [Zw,Zq]
theorem u0a (l:List R4): ∃n,Zr (z2m l) n (z7s l)=.ret (bif decide (400<l.length) then [.int .i64 4] else bif l.all Jj then [.int .i64 (rgcF l)] else [.int .i64 8]):=by
 unfold z7s;by_cases h:400<l.length
 ·refine ⟨0,?_⟩;rw [Al h,Yn (show (l.length:Int)>400 by omega)];rfl
 ·obtain ⟨n,hn⟩:=u6h l (by omega) l.length 0 (Af _) (fun s hs=>by simp at hs)
  grind
theorem j2a (l:List R4) (h:z4d l=true): ∃n,Zr (z2m l) n (z7s l)=.ret [.int .i64 (y1j l)]:=by
 obtain ⟨n,hn⟩:=u0a l
 grind [y1j]
def fRgc :List AVal→Option (AVal×Bool)
 | [a0]=>match asL R4 a0 with
  | some (L0,g0,n0)=>some (.int .i64 (y1j L0),isT R4 n0 g0&&(z4d L0))
  | _=>none
 | _=>none
theorem j4t {S:Specs} (hS:Zv prog S):Zv prog (S.with w3y fRgc):=by
 refine Qe hS (by kernel_rfl) fun args v h=> ?_;unfold fRgc at h;split at h
 ·rename_i a0;split at h
  ·rename_i L0 g0 n0 e0;simp only [Ae,Ad,Ac] at h;obtain ⟨rfl,ho0,hw⟩:=h;obtain ⟨N,hN⟩:=j2a L0 hw;exact ⟨_,_,(.cons (Yc e0 ho0) .nil),rfl,u0b L0 N _ hN,3,rfl⟩
  ·cases h
 ·cases h
def Uc :Specs:=(Ub.with w3y fRgc)
theorem Kd :Zv prog Uc:=(j4t y6w)
inductive rgjS where
 | h0 (v16:Int) (aB:List Int)
 | h1 (v16:Int) (aB:List Int)
 | h2 (v4:Int) (aF:List R4) (aN:List R2) (aY:Int) (aZ:Int) (aE:Nat) (aH:List Int)
 | h3 (v4:Int) (v38:Int) (aF:List R4) (aN:List R2) (aY:Int) (aZ:Int) (aE:Nat) (aH:List Int) (aM:Int) (aX:Int) (aA:List R2)
 | h4 (v4:Int) (v38:Int) (aF:List R4) (aN:List R2) (aY:Int) (aZ:Int) (aE:Nat) (aH:List Int) (aM:Int) (aX:Int) (aA:List R2) (aG:List R2)
 | h5 (v1:Int) (v2:Int) (v71:List R2) (v72:Int) (v73:Int) (aV:Int) (aD:List R4) (bA:Int) (aE:Nat) (aH:List Int) (aM:List R2) (aX:List R2)
 | h6 (v2:Int) (v8:Int) (cQ:Int) (cR:List R2) (aV:Int) (aD:List R4) (bB:List R2) (bA:Int) (bN:Int) (bG:Nat) (bM:List Int) (aA:List R2) (aG:List R2)
def y4p (q:Op) (l0:List R4) (l1:List R4):AFr:=⟨⟨11,0,true⟩,(Vk prog (nRg q) [1,0] 2),(Zc prog (nRg q) [1,0] 1),none,(Zy prog 16),Yj [(6,(.dat l0.length (Zz l0))),(7,(.dat l1.length (Zz l1)))]⟩
abbrev y8q (aD:List R4) (v8:Int) (v2:Int):=(aD.set (0+(tn v8)) (R4.mk (rd aD (0+(tn v8))).a (rd aD (0+(tn v8))).b v2 (rd aD (0+(tn v8))).d))
def v2x :=(y1k [(0,⟨.ready,none,49,Yj [(5,(.ptr 1 0)),(6,(.ptr 2 0)),(7,(.ptr 3 0)),(9,(.ptr 4 0))],[23],(Wc prog 84 [1,1,1,0,1,0,0]),(Wc prog 84 [1,1,1,0,1,0,1])⟩)])
abbrev y8p (aB:List Int):=(Wd (Ye aB.length (cOf (Zz (Xr (Ye aB.length (cOf (Zz aB))))))))
def v2w :AFr:=⟨⟨49,0,true⟩,none,(.inRangeFunc 0::(Zc prog 84 [1,1,1,0,1,0] 1)),none,(Zy prog 84),Yj [(6,(.ptr 2 0)),(7,(.ptr 3 0)),(9,(.ptr 4 0))]⟩
def y4o (l0:List R4) (l1:List R4):ABlk:=⟨[(.dat l0.length (Zz l0)),(.dat l1.length (Zz l1))],81,none⟩
def u6g :AFr:=⟨⟨49,0,true⟩,(Vk prog 84 [1,1,1,0,0] 3),(Zc prog 84 [1,1,1,0,0] 1),none,(Zy prog 84),Yj [(5,(.ptr 3 0)),(6,(.ptr 4 0)),(7,(.ptr 5 0)),(9,(.ptr 6 0)),(21,(.sl 1 0 2 (.un 1)))]⟩
abbrev y8o (aA:List R2) (l0:List R4) (v38:Int):=(aA++[(R2.mk (rd l0 (tn v38)).b (rd l0 (tn v38)).d)])
abbrev y8n (aG:List R2) (l1:List R4) (v38:Int):=(aG++[(R2.mk (rd l1 (tn v38)).b (rd l1 (tn v38)).d)])
def y4n (q:Op):ABlk:=⟨[(.fn (nSp q) [])],123,none⟩
abbrev z9m (aD:List R4) (v1:Int) (v71:List R2) (v73:Int) (v2:Int):=(aD++[(R4.mk v1 (rd v71 (tn v73)).a v2 (rd v71 (tn v73)).b)])
abbrev z9l (aB:List Int) (l0:List R4) (v16:Int):=(aB++[(rd l0 (tn v16)).a,(rd l0 (tn v16)).c])
abbrev z9k (aB:List Int) (l1:List R4) (v16:Int):=(aB++[(rd l1 (tn v16)).a,(rd l1 (tn v16)).c])
def x1a :ABlk:=⟨[(.sl 8 0 2 (.un 1))],197,none⟩
def v2y :=(Zc prog 158 [1,0,0,1,0,0,1,0,1,0,0,1,1,0,0,1,1,0,0] 0)
def rgjC (q:Op) (l0:List R4) (l1:List R4):rgjS→Cfg
 | .h0 v16 aB=>⟨⟨34,0,true⟩,none,(Zc prog 119 [1,1,0,1,0,0,1,1,0,0,1,1,0,0] 0),none,(Zy prog 9),⟨Yj [(1,(.ptr 0 0)),(3,(.ptr 2 0)),(8,(.sl 1 0 2 (.un 1))),(9,(ii 2)),(10,(ii 0)),(14,(.dat l0.length (Zz l0))),(15,(ii (l0.length:Int))),(16,(ii v16))],Wn [⟨[(.sl 1 0 2 (.un 1))],197,none⟩,(y4o l0 l1),⟨[(.sla 7 1 0 aB.length (.un 1))],125,none⟩,(y4n q),⟨[.nils],81,none⟩,⟨[(ii 0)],24,none⟩,⟨[.nils,.nils,(ii 0),(ii 0)],157,none⟩,⟨Yk aB.length (Zz aB),3,some ⟨1,aB.length,(Zz aB)⟩⟩] 0,8,[],true⟩,[u6g,(y4p q l0 l1)],.leaf⟩
 | .h1 v16 aB=>⟨⟨34,0,true⟩,none,(Zc prog 119 [1,1,0,1,0,0,1,1,0,0,1,1,0,0] 0),none,(Zy prog 9),⟨Yj [(1,(.ptr 0 0)),(3,(.ptr 2 0)),(8,(.sl 1 0 2 (.un 1))),(9,(ii 2)),(10,(ii 1)),(14,(.dat l1.length (Zz l1))),(15,(ii (l1.length:Int))),(16,(ii v16))],Wn [⟨[(.sl 1 0 2 (.un 1))],197,none⟩,(y4o l0 l1),⟨[(.sla 7 1 0 aB.length (.un 1))],125,none⟩,(y4n q),⟨[.nils],81,none⟩,⟨[(ii 0)],24,none⟩,⟨[.nils,.nils,(ii 0),(ii 0)],157,none⟩,⟨Yk aB.length (Zz aB),3,some ⟨1,aB.length,(Zz aB)⟩⟩] 0,8,[],true⟩,[u6g,(y4p q l0 l1)],.leaf⟩
 | .h2 v4 aF aN aY aZ aE aH=>⟨⟨76,0,true⟩,none,(Zc prog 158 [1,0,0] 0),none,[],⟨Yj [(0,(.yld 0)),(1,(.ptr 5 0)),(2,(.ptr 7 0)),(4,(ii v4))],z6q [(1,(y4n q)),(2,⟨[.nils],81,none⟩),(3,⟨[(ii 0)],24,none⟩),(4,⟨[(.sla 9 4 0 aF.length (.un 4)),(.dat aN.length (Zz aN)),(ii aY),(ii aZ)],157,none⟩),(5,⟨[(.sla 6 1 0 aE (.un 1))],125,none⟩),(6,⟨Yk aH.length (Zz aH),3,some ⟨1,aH.length,(Zz aH)⟩⟩),(7,x1a),(8,(y4o l0 l1)),(9,⟨Yk aF.length (Zz aF),116,some ⟨4,aF.length,(Zz aF)⟩⟩)],10,[],true⟩,[v2w,(y4p q l0 l1)],v2x⟩
 | .h3 v4 v38 aF aN aY aZ aE aH aM aX aA=>⟨⟨76,0,true⟩,none,v2y,none,[],⟨Yj [(0,(.yld 0)),(1,(.ptr 5 0)),(2,(.ptr 7 0)),(4,(ii v4)),(5,(.ptr 9 0)),(6,(ii 0)),(29,(.sl 8 0 2 (.un 1))),(30,(ii 2)),(31,(ii 0)),(36,(.dat l0.length (Zz l0))),(37,(ii (l0.length:Int))),(38,(ii v38))],z6q [(1,(y4n q)),(2,⟨[.nils],81,none⟩),(3,⟨[(ii 0)],24,none⟩),(4,⟨[(.sla 12 4 0 aF.length (.un 4)),(.dat aN.length (Zz aN)),(ii aY),(ii aZ)],157,none⟩),(5,⟨[(.sla 6 1 0 aE (.un 1))],125,none⟩),(6,⟨Yk aH.length (Zz aH),3,some ⟨1,aH.length,(Zz aH)⟩⟩),(7,x1a),(8,(y4o l0 l1)),(9,⟨[(ii aM),(ii aX),(.sl 10 0 2 (.ex 2))],162,none⟩),(10,⟨[(.sla 11 2 0 aA.length (.un 2)),.nils],155,none⟩),(11,⟨Yk aA.length (Zz aA),176,some ⟨2,aA.length,(Zz aA)⟩⟩),(12,⟨Yk aF.length (Zz aF),116,some ⟨4,aF.length,(Zz aF)⟩⟩)],13,[],true⟩,[v2w,(y4p q l0 l1)],v2x⟩
 | .h4 v4 v38 aF aN aY aZ aE aH aM aX aA aG=>⟨⟨76,0,true⟩,none,v2y,none,[],⟨Yj [(0,(.yld 0)),(1,(.ptr 5 0)),(2,(.ptr 7 0)),(4,(ii v4)),(5,(.ptr 9 0)),(6,(ii 1)),(29,(.sl 8 0 2 (.un 1))),(30,(ii 2)),(31,(ii 1)),(36,(.dat l1.length (Zz l1))),(37,(ii (l1.length:Int))),(38,(ii v38))],z6q [(1,(y4n q)),(2,⟨[.nils],81,none⟩),(3,⟨[(ii 0)],24,none⟩),(4,⟨[(.sla 13 4 0 aF.length (.un 4)),(.dat aN.length (Zz aN)),(ii aY),(ii aZ)],157,none⟩),(5,⟨[(.sla 6 1 0 aE (.un 1))],125,none⟩),(6,⟨Yk aH.length (Zz aH),3,some ⟨1,aH.length,(Zz aH)⟩⟩),(7,x1a),(8,(y4o l0 l1)),(9,⟨[(ii aM),(ii aX),(.sl 10 0 2 (.ex 2))],162,none⟩),(10,⟨[(.sla 11 2 0 aA.length (.un 2)),(.sla 12 2 0 aG.length (.un 2))],155,none⟩),(11,⟨Yk aA.length (Zz aA),176,some ⟨2,aA.length,(Zz aA)⟩⟩),(12,⟨Yk aG.length (Zz aG),176,some ⟨2,aG.length,(Zz aG)⟩⟩),(13,⟨Yk aF.length (Zz aF),116,some ⟨4,aF.length,(Zz aF)⟩⟩)],14,[],true⟩,[v2w,(y4p q l0 l1)],v2x⟩
 | .h5 v1 v2 v71 v72 v73 aV aD bA aE aH aM aX=>⟨⟨94,0,true⟩,none,(Zc prog 120 [1,1,1,0,0] 0),none,[],⟨Yj [(0,(.ptr 0 0)),(1,(ii v1)),(2,(ii v2)),(71,(.dat v71.length (Zz v71))),(72,(ii v72)),(73,(ii v73))],z6q [(0,⟨[(.sla 10 4 0 aD.length (.un 4)),(.dat v71.length (Zz v71)),(ii bA),(ii v2)],157,none⟩),(2,(y4n q)),(3,⟨[.nils],81,none⟩),(4,⟨[(ii 0)],24,none⟩),(5,⟨[(.sla 6 1 0 aE (.un 1))],125,none⟩),(6,⟨Yk aH.length (Zz aH),3,some ⟨1,aH.length,(Zz aH)⟩⟩),(7,x1a),(8,(y4o l0 l1)),(9,⟨[(.dat aM.length (Zz aM)),(.dat aX.length (Zz aX))],155,none⟩),(10,⟨Yk aD.length (Zz aD),116,some ⟨4,aD.length,(Zz aD)⟩⟩)],11,[],true⟩,[⟨⟨49,0,true⟩,(Vk prog 84 [1,1,1,0,1,0,1,0,1,1] 5),(Zc prog 84 [1,1,1,0,1,0,1,0,1,1] 1),(some 1),[],Yj [(9,(.ptr 0 0)),(41,(ii v1)),(43,(ii v2)),(44,(.dat v71.length (Zz v71)))]⟩,⟨⟨76,0,true⟩,(Vk prog 158 [1,0,0,1,0,0,1,1,0] 2),(Zc prog 158 [1,0,0,1,0,0,1,1,0] 1),none,[],Yj [(0,(.yld 1)),(1,(.ptr 5 0)),(2,(.ptr 7 0)),(4,(ii aV)),(72,(.yld 1)),(73,(.agg [(ii v1),(ii v2),(.sl 9 0 2 (.ex 2))]))]⟩,⟨⟨49,0,true⟩,none,(.inRangeFunc 1::(Zc prog 84 [1,1,1,0,1,0] 1)),none,(Zy prog 84),Yj [(6,(.ptr 3 0)),(7,(.ptr 4 0)),(9,(.ptr 0 0))]⟩,(y4p q l0 l1)],(y1k [(1,⟨.busy,none,49,Yj [(5,(.ptr 2 0)),(6,(.ptr 3 0)),(7,(.ptr 4 0)),(9,(.ptr 0 0))],[23],(Wc prog 84 [1,1,1,0,1,0,0]),(Wc prog 84 [1,1,1,0,1,0,1])⟩)])⟩
 | .h6 v2 v8 cQ cR aV aD bB bA bN bG bM aA aG=>⟨⟨94,0,true⟩,none,(Zc prog 120 [0,1,0,0,1,0,0] 0),none,[],⟨Yj [(0,(.ptr 0 0)),(2,(ii v2)),(8,(ii v8))],z6q [(0,⟨[(.sla 1 4 0 aD.length (.un 4)),(.dat bB.length (Zz bB)),(ii bA),(ii bN)],157,none⟩),(1,⟨Yk aD.length (Zz aD),116,some ⟨4,aD.length,(Zz aD)⟩⟩),(3,(y4n q)),(4,⟨[.nils],81,none⟩),(5,⟨[(ii 0)],24,none⟩),(6,⟨[(.sla 7 1 0 bG (.un 1))],125,none⟩),(7,⟨Yk bM.length (Zz bM),3,some ⟨1,bM.length,(Zz bM)⟩⟩),(8,⟨[(.sl 9 0 2 (.un 1))],197,none⟩),(9,(y4o l0 l1)),(10,⟨[(.dat aA.length (Zz aA)),(.dat aG.length (Zz aG))],155,none⟩)],11,[],true⟩,[⟨⟨49,0,true⟩,(Vk prog 84 [1,1,1,0,1,0,1,0,1,1] 5),(Zc prog 84 [1,1,1,0,1,0,1,0,1,1] 1),(some 2),[],Yj [(9,(.ptr 0 0)),(41,(ii cQ)),(43,(ii v2)),(44,(.dat cR.length (Zz cR)))]⟩,⟨⟨76,0,true⟩,(Vk prog 158 [1,0,0,1,0,0,1,1,0] 2),(Zc prog 158 [1,0,0,1,0,0,1,1,0] 1),none,[],Yj [(0,(.yld 2)),(1,(.ptr 6 0)),(2,(.ptr 8 0)),(4,(ii aV)),(72,(.yld 2)),(73,(.agg [(ii cQ),(ii v2),(.sl 10 0 2 (.ex 2))]))]⟩,⟨⟨49,0,true⟩,none,(.inRangeFunc 2::(Zc prog 84 [1,1,1,0,1,0] 1)),none,(Zy prog 84),Yj [(6,(.ptr 4 0)),(7,(.ptr 5 0)),(9,(.ptr 0 0))]⟩,(y4p q l0 l1)],(y1k [(2,⟨.busy,none,49,Yj [(5,(.ptr 3 0)),(6,(.ptr 4 0)),(7,(.ptr 5 0)),(9,(.ptr 0 0))],[23],(Wc prog 84 [1,1,1,0,1,0,0]),(Wc prog 84 [1,1,1,0,1,0,1])⟩)])⟩
def rgjN0 :List (Option (List Nat)):=[some [1,3,8,9,10,14,15,16],some [5,6,7,9,21],some [6,7]]
def rgjM0 :List (Option (List Nat)):=[]
def rgjN1 :List (Option (List Nat)):=[some [1,3,8,9,10,14,15,16],some [5,6,7,9,21],some [6,7]]
def rgjM1 :List (Option (List Nat)):=[]
def j1y :List (Option (List Nat)):=[some [0,1,2,4],some [6,7,9],some [6,7]]
def j1z :List (Option (List Nat)):=[some [5,6,7,9],none,none,none,none,none,none,none,none,none]
def v9w :List (Option (List Nat)):=[some [0,1,2,4,5,6,29,30,31,36,37,38],some [6,7,9],some [6,7]]
def v9z :List (Option (List Nat)):=[some [5,6,7,9],none,none,none,none,none,none,none,none,none,none,none,none]
def v9v :List (Option (List Nat)):=[some [0,1,2,4,5,6,29,30,31,36,37,38],some [6,7,9],some [6,7]]
def v9y :List (Option (List Nat)):=[some [5,6,7,9],none,none,none,none,none,none,none,none,none,none,none,none,none]
def v9u :List (Option (List Nat)):=[some [0,1,2,71,72,73],some [9,41,43,44],some [0,1,2,4,72,73],some [6,7,9],some [6,7]]
def v9x :List (Option (List Nat)):=[none,some [5,6,7,9],none,none,none,none,none,none,none,none,none]
def rgjN6 :List (Option (List Nat)):=[some [0,2,8],some [9,41,43,44],some [0,1,2,4,72,73],some [6,7,9],some [6,7]]
def rgjM6 :List (Option (List Nat)):=[none,none,some [5,6,7,9],none,none,none,none,none,none,none,none]
def Ys (q:Op) (l0:List R4) (l1:List R4):rgjS→Xx rgjS
 | .h0 v16 aB=>(bif (decide (v16<(l0.length:Int))) then (bif ((decide (0≤v16∧v16<(l0.length:Int)))&&true) then (bif (Nat.beq 1 1&&((decide (0+aB.length=aB.length))&&decide ((aB.length+2+1)*(8+1)≤room))) then (.to (.h0 (wrap .i64 (v16+1)) (aB++[(rd l0 v16.toNat).a,(rd l0 v16.toNat).c]))) else .stuck) else .stuck) else (.to (.h1 0 aB)))
 | .h1 v16 aB=>(bif (decide (v16<(l1.length:Int))) then (bif ((decide (0≤v16∧v16<(l1.length:Int)))&&true) then (bif (Nat.beq 1 1&&((decide (0+aB.length=aB.length))&&decide ((aB.length+2+1)*(8+1)≤room))) then (.to (.h1 (wrap .i64 (v16+1)) (aB++[(rd l1 v16.toNat).a,(rd l1 v16.toNat).c]))) else .stuck) else .stuck) else (bif (decide (aB.length<4611686018427387904)) then (bif (decide (aB.length=aB.length)) then (.to (.h2 1 ([]:List R4) ([]:List R2) 0 0 (u8b (Ye aB.length (cOf (Zz (Xr (Ye aB.length (cOf (Zz aB)))))))) (Wd (Ye aB.length (cOf (Zz (Xr (Ye aB.length (cOf (Zz aB)))))))))) else .stuck) else .stuck))
 | .h2 v4 aF aN aY aZ aE aH=>(bif (decide (v4<((aE:Nat):Int))) then (bif ((decide (0≤(wrap .i64 (v4 - 1))∧(wrap .i64 (v4 - 1))<((aE:Nat):Int)))&&true) then (bif (decide ((0+(Int.toNat (wrap .i64 (v4 - 1))))<aH.length)) then (bif ((decide (0≤v4∧v4<((aE:Nat):Int)))&&true) then (bif (decide ((0+v4.toNat)<aH.length)) then (.to (.h3 v4 0 aF aN aY aZ aE aH (rd aH (0+(Int.toNat (wrap .i64 (v4 - 1))))) (rd aH (0+v4.toNat)) ([]:List R2))) else .stuck) else .stuck) else .stuck) else .stuck) else (bif (decide ((aF.length:Int)>400)) then (.ret [.nils,(.int .i64 4)]) else (.ret [(.dat aF.length (Zz aF)),(.int .i64 0)])))
 | .h3 v4 v38 aF aN aY aZ aE aH aM aX aA=>(bif (decide (v38<(l0.length:Int))) then (bif ((decide (0≤v38∧v38<(l0.length:Int)))&&true) then (bif (decide ((rd l0 v38.toNat).a ≤aM)) then (bif (decide (aM<(rd l0 v38.toNat).c)) then (bif (Nat.beq 2 2&&((decide (0+aA.length=aA.length))&&decide ((aA.length+1+1)*(16+1)≤room))) then (.to (.h3 v4 (wrap .i64 (v38+1)) aF aN aY aZ aE aH aM aX (aA++[(R2.mk (rd l0 v38.toNat).b (rd l0 v38.toNat).d)]))) else .stuck) else (.to (.h3 v4 (wrap .i64 (v38+1)) aF aN aY aZ aE aH aM aX aA))) else (.to (.h3 v4 (wrap .i64 (v38+1)) aF aN aY aZ aE aH aM aX aA))) else .stuck) else (.to (.h4 v4 0 aF aN aY aZ aE aH aM aX aA ([]:List R2))))
 | .h4 v4 v38 aF aN aY aZ aE aH aM aX aA aG=>(bif (decide (v38<(l1.length:Int))) then (bif ((decide (0≤v38∧v38<(l1.length:Int)))&&true) then (bif (decide ((rd l1 v38.toNat).a ≤aM)) then (bif (decide (aM<(rd l1 v38.toNat).c)) then (bif (Nat.beq 2 2&&((decide (0+aG.length=aG.length))&&decide ((aG.length+1+1)*(16+1)≤room))) then (.to (.h4 v4 (wrap .i64 (v38+1)) aF aN aY aZ aE aH aM aX aA (aG++[(R2.mk (rd l1 v38.toNat).b (rd l1 v38.toNat).d)]))) else .stuck) else (.to (.h4 v4 (wrap .i64 (v38+1)) aF aN aY aZ aE aH aM aX aA aG))) else (.to (.h4 v4 (wrap .i64 (v38+1)) aF aN aY aZ aE aH aM aX aA aG))) else .stuck) else (bif ((x0g q) (cvT aA) (cvT aG)) then (bif (((w5x q) (cvT aA) (cvT aG)) != 0) then (.ret [.nils,(.int .i64 ((w5x q) (cvT aA) (cvT aG)))]) else (bif (decide (((((z3q q) (cvT aA) (cvT aG)).length :Nat):Int)>0)) then (bif (aZ == aM) then (bif (Vo (cvT aN) (cvT ((z3q q) (cvT aA) (cvT aG)))) then (bif (Kf (cvT aN) (cvT ((z3q q) (cvT aA) (cvT aG)))) then (.to (.h6 aX aY aM ((z3q q) (cvT aA) (cvT aG)) v4 aF aN aY aZ aE aH aA aG)) else (.to (.h5 aM aX ((z3q q) (cvT aA) (cvT aG)) ((((z3q q) (cvT aA) (cvT aG)).length :Nat):Int) 0 v4 aF (aF.length:Int) aE aH aA aG))) else .stuck) else (.to (.h5 aM aX ((z3q q) (cvT aA) (cvT aG)) ((((z3q q) (cvT aA) (cvT aG)).length :Nat):Int) 0 v4 aF (aF.length:Int) aE aH aA aG))) else (.to (.h5 aM aX ((z3q q) (cvT aA) (cvT aG)) ((((z3q q) (cvT aA) (cvT aG)).length :Nat):Int) 0 v4 aF (aF.length:Int) aE aH aA aG)))) else .stuck))
 | .h5 v1 v2 v71 v72 v73 aV aD bA aE aH aM aX=>(bif (decide (v73<v72)) then (bif ((decide (0≤v73∧v73<(v71.length:Int)))&&true) then (bif (Nat.beq 4 4&&((decide (0+aD.length=aD.length))&&decide ((aD.length+1+1)*(32+1)≤room))) then (.to (.h5 v1 v2 v71 v72 (wrap .i64 (v73+1)) aV (aD++[(R4.mk v1 (rd v71 v73.toNat).a v2 (rd v71 v73.toNat).b)]) bA aE aH aM aX)) else .stuck) else .stuck) else (.to (.h2 (wrap .i64 (aV+1)) aD v71 bA v2 aE aH)))
 | .h6 v2 v8 cQ cR aV aD bB bA bN bG bM aA aG=>(bif (decide (v8<(aD.length:Int))) then (bif ((decide (0≤v8∧v8<(aD.length:Int)))&&true) then (bif (decide ((0+v8.toNat)<aD.length)) then (.to (.h6 v2 (wrap .i64 (v8+1)) cQ cR aV (aD.set (0+v8.toNat) (R4.mk (rd aD (0+v8.toNat)).a (rd aD (0+v8.toNat)).b v2 (rd aD (0+v8.toNat)).d)) bB bA bN bG bM aA aG)) else .stuck) else .stuck) else (.to (.h2 (wrap .i64 (aV+1)) aD bB bA v2 bG bM)))
def y3a (q:Op) (l0:List R4) (l1:List R4):Xx rgjS:=(bif (z4d (cvT l0)) then (bif ((y1j (cvT l0)) != 0) then (.ret [.nils,(.int .i64 (y1j (cvT l0)))]) else (bif (z4d (cvT l1)) then (bif ((y1j (cvT l1)) != 0) then (.ret [.nils,(.int .i64 (y1j (cvT l1)))]) else (.to (.h0 0 ([]:List Int)))) else .stuck)) else .stuck)
theorem w7j (q:Op) (l0:List R4) (l1:List R4): ∀s,Xy prog (Zy prog (nRg q)) (rgjC q l0 l1) (rgjC q l0 l1 s) (Ys q l0 l1 s):=by cases q <;> refine (?f: ∀q:Op,∀s,Xy prog (Zy prog (nRg q)) (rgjC q l0 l1) (rgjC q l0 l1 s) (Ys q l0 l1 s)) _ <;> exact fun q=>fun
 | .h0 v16 aB=>(lb (fun k0=>(lo fun o0=>(lo fun o1=>(sl Kd 32 [] ⟨[0,1,2,3,4,5,6,10],[],rgjN0,rgjM0⟩ ⟨[],[.keep,.keep,.cells [.len (z9l aB l0 v16).length],.keep,.keep,.keep,.keep,.rowed 1 (z9l aB l0 v16).length (Zz (z9l aB l0 v16))],[]⟩ [true] (pp (xL (aB.length+2) (z9l aB l0 v16).length) (pp (xL (aB.length+2) (z9l aB l0 v16).length) (pp (xS (aB.length+2) (Zh (Zz aB) 0 aB.length 1 [(ii (rd l0 (tn v16)).a),(ii (rd l0 (tn v16)).c)]) (Zz (z9l aB l0 v16))) (pp (pp (xF (Zh (Zz aB) 0 aB.length 1 [(ii (rd l0 (tn v16)).a),(ii (rd l0 (tn v16)).c)])) nn) (ww o1 (ww o0 (tt k0 nn))))))))))) (fun k0=>(sl Kd 36 [] ⟨(List.range 8),[],rgjN1,rgjM1⟩ ⟨[],[],[]⟩ (bl 2 2) (pp (fl aB nn) (tt k0 nn)))))
 | .h1 v16 aB=>(lb (fun k0=>(lo fun o0=>(lo fun o1=>(sl Kd 32 [] ⟨[0,1,2,3,4,5,6,10],[],rgjN1,rgjM1⟩ ⟨[],[.keep,.keep,.cells [.len (z9k aB l1 v16).length],.keep,.keep,.keep,.keep,.rowed 1 (z9k aB l1 v16).length (Zz (z9k aB l1 v16))],[]⟩ [true] (pp (xL (aB.length+2) (z9k aB l1 v16).length) (pp (xL (aB.length+2) (z9k aB l1 v16).length) (pp (xS (aB.length+2) (Zh (Zz aB) 0 aB.length 1 [(ii (rd l1 (tn v16)).a),(ii (rd l1 (tn v16)).c)]) (Zz (z9k aB l1 v16))) (pp (pp (xF (Zh (Zz aB) 0 aB.length 1 [(ii (rd l1 (tn v16)).a),(ii (rd l1 (tn v16)).c)])) nn) (ww o1 (ww o0 (tt k0 nn))))))))))) (fun k0=>(lo fun o0=>(lo fun o1=>(sl Kd 46 [(116,4,Zz ([]:List R4))] ⟨[8,3,4,5,6,2,7,0,1,9],[],j1y,j1z⟩ ⟨[],(kpB 4 [.cells [.grow 9 4,.list 0 (Zz ([]:List R2)),.keep,.keep],.keep,.rowed 1 (y8p aB).length (Zz (y8p aB)),.keep,.keep,.keep]),[]⟩ (bl 2 0) (pp (xL aB.length (y8p aB).length (by first | exact z4i _ _ | exact Vt rfl)) (pp (xS aB.length (Zz (y8p aB)) (Zz (y8p aB))) (pp (fl (y8p aB) (fl ([]:List R4) nn)) (pp (pp (xG (Nat.beq 1 1)) (pp (xG (Nat.beq 1 1)) (pp (xG (Nat.beq 0 0)) (pp (xG (decide (aB.length=aB.length))) (pp (xG (isI (Zz (Xr (Ye aB.length (cOf (Zz aB))))))) (xG (decide (aB.length<4611686018427387904)))))))) (pp (pp (xG (Nat.beq 1 1)) (pp (xG (Nat.beq 1 1)) (pp (xG (Nat.beq 0 0)) (pp (xG (decide (aB.length=aB.length))) (pp (xG (isI (Zz aB))) (xG (decide (aB.length<4611686018427387904)))))))) (tt k0 nn)))))))))))
 | .h2 v4 aF aN aY aZ aE aH=>(lb (fun k0=>(lo fun o0=>(lo fun o1=>(lo fun o2=>(lo fun o3=>(sl Kd 48 [(176,2,Zz ([]:List R2))] ⟨[0,1,2,3,4,5,6,7,8,10,11,12,9],[],v9w,v9z⟩ ⟨[],(kpB 10 [.cells [.grow 11 2,.keep],.keep,.keep]),[]⟩ (trs 3 []) (pp (fl aH (fl ([]:List R2) (fl aF nn))) (ww o3 (ww o2 (ww o1 (ww o0 (tt k0 nn)))))))))))) (fun k0=>(lb (fun k1=>(lr 11 3 [1,1,1,1,0] 1 16 [(4,.nils),(5,(ii 4))] (sl Kd 49 [] ⟨[],[],[some [4,5]],[]⟩ ⟨[],[],[]⟩ (bl 2 2) (tt k1 (tt k0 nn))))) (fun k1=>(lr 11 3 [1,1,1,1,0] 1 16 [(4,(.dat aF.length (Zz aF))),(5,(ii 0))] (sl Kd 54 [] ⟨[],[9],[some [4,5]],[]⟩ ⟨[(4,.frz aF.length aF.length (Zz aF) (Zz aF))],[],[]⟩ (bl 2 0) (pp (xZ (z1o 4 4 0 aF.length aF.length (Zz aF)) aF.length (Zz aF)) (pp (xL aF.length aF.length) (pp (xS aF.length (Zz aF) (Zz aF)) (pp (fl aF nn) (tt k1 (tt k0 nn))))))))))))
 | .h3 v4 v38 aF aN aY aZ aE aH aM aX aA=>(lb (fun k0=>(lo fun aI=>(lb (fun k1=>(lb (fun k2=>(lo fun o0=>(sl Kd 39 [] ⟨[0,1,2,3,4,5,6,7,8,9,10,15,12],[],v9w,v9z⟩ ⟨[],(kpB 10 [.cells [.len (y8o aA l0 v38).length,.keep],.rowed 2 (y8o aA l0 v38).length (Zz (y8o aA l0 v38)),.keep]),[]⟩ (trs 7 []) (pp (xL (aA.length+1) (y8o aA l0 v38).length) (pp (xL (aA.length+1) (y8o aA l0 v38).length) (pp (xS (aA.length+1) (Zh (Zz aA) 0 aA.length 2 [(ii (rd l0 (tn v38)).b),(ii (rd l0 (tn v38)).d)]) (Zz (y8o aA l0 v38))) (pp (fl aH (pp (xF (Zh (Zz aA) 0 aA.length 2 [(ii (rd l0 (tn v38)).b),(ii (rd l0 (tn v38)).d)])) (fl aF nn))) (ww o0 (tt k2 (tt k1 (ww aI (tt k0 nn)))))))))))) (fun k2=>(sl Kd 39 [] ⟨(List.range 13),[],v9w,v9z⟩ ⟨[],[],[]⟩ (trs 6 [false]) (pp (fl aH (fl aA (fl aF nn))) (tt k2 (tt k1 (ww aI (tt k0 nn))))))))) (fun k1=>(sl Kd 39 [] ⟨(List.range 13),[],v9w,v9z⟩ ⟨[],[],[]⟩ (bl 7 1) (pp (fl aH (fl aA (fl aF nn))) (tt k1 (ww aI (tt k0 nn))))))))) (fun k0=>(sl Kd 38 [(176,2,Zz ([]:List R2))] ⟨[0,1,2,3,4,5,6,7,8,9,10,11,13,12],[],v9v,v9y⟩ ⟨[],(kpB 10 [.cells [.keep,.grow 12 2],.keep,.keep,.keep]),[]⟩ (bl 2 2) (pp (fl aH (fl aA (fl ([]:List R2) (fl aF nn)))) (tt k0 nn)))))
 | .h4 v4 v38 aF aN aY aZ aE aH aM aX aA aG=>(lb (fun k0=>(lo fun aI=>(lb (fun k1=>(lb (fun k2=>(lo fun o0=>(sl Kd 39 [] ⟨[0,1,2,3,4,5,6,7,8,9,10,11,16,13],[],v9v,v9y⟩ ⟨[],(kpB 10 [.cells [.keep,.len (y8n aG l1 v38).length],.keep,.rowed 2 (y8n aG l1 v38).length (Zz (y8n aG l1 v38)),.keep]),[]⟩ (trs 7 []) (pp (xL (aG.length+1) (y8n aG l1 v38).length) (pp (xL (aG.length+1) (y8n aG l1 v38).length) (pp (xS (aG.length+1) (Zh (Zz aG) 0 aG.length 2 [(ii (rd l1 (tn v38)).b),(ii (rd l1 (tn v38)).d)]) (Zz (y8n aG l1 v38))) (pp (fl aH (fl aA (pp (xF (Zh (Zz aG) 0 aG.length 2 [(ii (rd l1 (tn v38)).b),(ii (rd l1 (tn v38)).d)])) (fl aF nn)))) (ww o0 (tt k2 (tt k1 (ww aI (tt k0 nn)))))))))))) (fun k2=>(sl Kd 39 [] ⟨(List.range 14),[],v9v,v9y⟩ ⟨[],[],[]⟩ (trs 6 [false]) (pp (fl aH (fl aA (fl aG (fl aF nn)))) (tt k2 (tt k1 (ww aI (tt k0 nn))))))))) (fun k1=>(sl Kd 39 [] ⟨(List.range 14),[],v9v,v9y⟩ ⟨[],[],[]⟩ (bl 7 1) (pp (fl aH (fl aA (fl aG (fl aF nn)))) (tt k1 (ww aI (tt k0 nn))))))))) (fun k0=>(Wy (sl Kd (C':=⟨⟨49,0,true⟩,none,(Zc prog 84 [1,1,1,0,1,0,1,0,0] 0),(some 0),[],⟨Yj [(5,(.ptr 1 0)),(6,(.ptr 2 0)),(7,(.ptr 3 0)),(9,(.ptr 4 0)),(10,(.ptr 6 0))],z6q [(1,⟨[(.fn (nSp q) [])],123,none⟩),(2,⟨[.nils],81,none⟩),(3,⟨[(ii 0)],24,none⟩),(4,⟨[(.sla 5 4 0 aF.length (.un 4)),(.dat aN.length (Zz aN)),(ii aY),(ii aZ)],157,none⟩),(5,⟨Yk aF.length (Zz aF),116,some ⟨4,aF.length,(Zz aF)⟩⟩),(6,⟨[(ii aM),(ii aX),(.sl 7 0 2 (.ex 2))],162,none⟩),(7,⟨[(.dat aA.length (Zz aA)),(.dat aG.length (Zz aG))],155,none⟩),(8,⟨[(.sla 9 1 0 aE (.un 1))],125,none⟩),(9,⟨Yk aH.length (Zz aH),3,some ⟨1,aH.length,(Zz aH)⟩⟩),(10,⟨[(.sl 11 0 2 (.un 1))],197,none⟩),(11,⟨[(.dat l0.length (Zz l0)),(.dat l1.length (Zz l1))],81,none⟩)],12,[],true⟩,[⟨⟨76,0,true⟩,(Vk prog 158 [1,0,0,1,0,0,1,1,0] 2),(Zc prog 158 [1,0,0,1,0,0,1,1,0] 1),none,[],Yj [(0,(.yld 0)),(1,(.ptr 8 0)),(2,(.ptr 10 0)),(4,(ii v4)),(72,(.yld 0)),(73,(.agg [(ii aM),(ii aX),(.sl 7 0 2 (.ex 2))]))]⟩,⟨⟨49,0,true⟩,none,(.inRangeFunc 0::(Zc prog 84 [1,1,1,0,1,0] 1)),none,(Zy prog 84),Yj [(6,(.ptr 2 0)),(7,(.ptr 3 0)),(9,(.ptr 4 0))]⟩,⟨⟨11,0,true⟩,(Vk prog (nRg q) [1,0] 2),(Zc prog (nRg q) [1,0] 1),none,(Zy prog 16),Yj [(6,(.dat l0.length (Zz l0))),(7,(.dat l1.length (Zz l1)))]⟩],(y1k [(0,⟨.busy,none,49,Yj [(5,(.ptr 1 0)),(6,(.ptr 2 0)),(7,(.ptr 3 0)),(9,(.ptr 4 0))],[23],(Wc prog 84 [1,1,1,0,1,0,0]),(Wc prog 84 [1,1,1,0,1,0,1])⟩)])⟩) 32 [] ⟨[0,1,2,3,4,13,14,10,5,6,7,8],[11,12],[some [5,6,7,9,10],some [0,1,2,4,72,73],some [6,7,9],some [6,7]],[some [5,6,7,9],none,none,none,none,none,none,none,none,none,none,none]⟩ ⟨[],[.keep,.keep,.keep,.keep,.keep,.keep,.keep,.cells [.frz aA.length aA.length (Zz aA) (Zz aA),.frz aG.length aG.length (Zz aG) (Zz aG)],.keep,.keep,.keep,.keep],[]⟩ (bl 2 0) (pp (xZ (z1o 2 2 0 aA.length aA.length (Zz aA)) aA.length (Zz aA)) (pp (xL aA.length aA.length) (pp (xS aA.length (Zz aA) (Zz aA)) (pp (xZ (z1o 2 2 0 aG.length aG.length (Zz aG)) aG.length (Zz aG)) (pp (xL aG.length aG.length) (pp (xS aG.length (Zz aG) (Zz aG)) (pp (fl aF (fl aH nn)) (pp (fl aA (fl aG nn)) (tt k0 nn)))))))))) (lo fun aI=>(lb (fun k1=>(lr 11 3 [1,1,1,1,0] 1 16 [(4,.nils),(5,(ii ((w5x q) (cvT aA) (cvT aG))))] (sl Kd 26 [] ⟨[],[],[some [4,5]],[]⟩ ⟨[],[],[]⟩ (bl 2 3) (tt k1 (pp (pp (xr aA) (pp (xr aG) (xw aI))) nn))))) (fun k1=>(lb (fun k2=>(lb (fun k3=>(lo fun bU=>(lb (fun k4=>(sl Kd 51 [] ⟨[4,5,0,1,2,3,8,9,10,11,7],[],rgjN6,rgjM6⟩ ⟨[],[],[]⟩ (bl 14 16382) (pp (fl aF (fl aH nn)) (tt k4 (pp (pp (xr aN) (pp (xI R2 ((z3q q) (cvT aA) (cvT aG)).length (Zz ((z3q q) (cvT aA) (cvT aG)))) (xw bU))) (tt k3 (tt k2 (tt k1 (pp (pp (xr aA) (pp (xr aG) (xw aI))) nn))))))))) (fun k4=>(sl Kd 71 [] ⟨[4,0,1,2,3,8,9,10,11,7,5],[],v9u,v9x⟩ ⟨[],[],[]⟩ (bl 14 8190) (pp (fl aH (fl aF nn)) (tt k4 (pp (pp (xr aN) (pp (xI R2 ((z3q q) (cvT aA) (cvT aG)).length (Zz ((z3q q) (cvT aA) (cvT aG)))) (xw bU))) (tt k3 (tt k2 (tt k1 (pp (pp (xr aA) (pp (xr aG) (xw aI))) nn)))))))))))) (fun k3=>(sl Kd 71 [] ⟨[4,0,1,2,3,8,9,10,11,7,5],[],v9u,v9x⟩ ⟨[],[],[]⟩ (bl 14 126) (pp (fl aH (fl aF nn)) (tt k3 (tt k2 (tt k1 (pp (pp (xr aA) (pp (xr aG) (xw aI))) nn))))))))) (fun k2=>(sl Kd 71 [] ⟨[4,0,1,2,3,8,9,10,11,7,5],[],v9u,v9x⟩ ⟨[],[],[]⟩ (bl 14 0) (pp (fl aH (fl aF nn)) (tt k2 (tt k1 (pp (pp (xr aA) (pp (xr aG) (xw aI))) nn)))))))))))))
 | .h5 v1 v2 v71 v72 v73 aV aD bA aE aH aM aX=>(lb (fun k0=>(lo fun o0=>(lo fun o1=>(sl Kd 23 [] ⟨[0,1,2,3,4,5,6,7,8,9,13],[],v9u,v9x⟩ ⟨[],[.cells [.len (z9m aD v1 v71 v73 v2).length,.keep,.keep,.keep],.keep,.keep,.keep,.keep,.keep,.keep,.keep,.keep,.keep,.rowed 4 (z9m aD v1 v71 v73 v2).length (Zz (z9m aD v1 v71 v73 v2))],[]⟩ [true] (pp (xL (aD.length+1) (z9m aD v1 v71 v73 v2).length) (pp (xL (aD.length+1) (z9m aD v1 v71 v73 v2).length) (pp (xS (aD.length+1) (Zh (Zz aD) 0 aD.length 4 [(ii v1),(ii (rd v71 (tn v73)).a),(ii v2),(ii (rd v71 (tn v73)).b)]) (Zz (z9m aD v1 v71 v73 v2))) (pp (fl aH (pp (xF (Zh (Zz aD) 0 aD.length 4 [(ii v1),(ii (rd v71 (tn v73)).a),(ii v2),(ii (rd v71 (tn v73)).b)])) nn)) (ww o1 (ww o0 (tt k0 nn))))))))))) (fun k0=>(sl Kd 22 [] ⟨[1,2,3,4,0,5,6,7,8,10],[],j1y,j1z⟩ ⟨[],[],[]⟩ (bl 2 0) (pp (fl aH (fl aD nn)) (tt k0 nn)))))
 | .h6 v2 v8 cQ cR aV aD bB bA bN bG bM aA aG=>(lb (fun k0=>(lo fun o0=>(lo fun o1=>(sl Kd 33 [] ⟨(List.range 11),[],rgjN6,rgjM6⟩ ⟨[],[.cells [.len (y8q aD v8 v2).length,.keep,.keep,.keep],.rowed 4 (y8q aD v8 v2).length (Zz (y8q aD v8 v2)),.keep,.keep,.keep,.keep,.keep,.keep,.keep,.keep,.keep],[]⟩ [true] (pp (xL aD.length (y8q aD v8 v2).length) (pp (xL aD.length (y8q aD v8 v2).length) (pp (xS aD.length (Yt (Zz aD) (0+(tn v8)) 2 [(ii v2)]) (Zz (y8q aD v8 v2))) (pp (pp (xF (Yt (Zz aD) (0+(tn v8)) 2 [(ii v2)])) (fl bM nn)) (ww o1 (ww o0 (tt k0 nn))))))))))) (fun k0=>(sl Kd 36 [] ⟨[2,3,4,5,0,6,7,8,9,1],[],j1y,j1z⟩ ⟨[],[],[]⟩ (bl 2 0) (pp (fl bM (fl aD nn)) (tt k0 nn)))))
theorem x8l (q:Op) (l0:List R4) (l1:List R4):Xy prog (Zy prog (nRg q)) (rgjC q l0 l1) (Zg prog (nRg q) [(.dat l0.length (Zz l0)),(.dat l1.length (Zz l1))] true []) (y3a q l0 l1):=by cases q <;> exact (lo fun bH=>(lb (fun k0=>(lr 11 3 [1,1,1,1,0] 1 16 [(4,.nils),(5,(ii (y1j (cvT l0))))] (sl Kd 65 [] ⟨[],[],[some [4,5]],[]⟩ ⟨[],[],[]⟩ [true,true] (tt k0 (tt k0 (pp (pp (xr l0) (xw bH)) nn)))))) (fun k0=>(lo fun aI=>(lb (fun k1=>(lr 11 3 [1,1,1,1,0] 1 16 [(4,.nils),(5,(ii (y1j (cvT l1))))] (sl Kd 67 [] ⟨[],[],[some [4,5]],[]⟩ ⟨[],[],[]⟩ [false,true] (tt k1 (pp (pp (xr l1) (xw aI)) (tt k0 (pp (pp (xr l0) (xw bH)) nn))))))) (fun k1=>(sl Kd 108 [(3,1,Zz ([]:List Int))] ⟨[5,4,6,0,1,2,3,7],[],rgjN0,rgjM0⟩ ⟨[],[.keep,.keep,.cells [.grow 7 1],.keep,.keep,.keep,.keep,.keep],[]⟩ [false,false,true] (pp (fl ([]:List Int) nn) (tt k1 (pp (pp (xr l1) (xw aI)) (tt k0 (pp (pp (xr l0) (xw bH)) nn))))))))))))
theorem v9t (q:Op) (l0:List R4) (l1:List R4) (n:Nat) (vs:List AVal) (h:Zr (Ys q l0 l1) n (y3a q l0 l1)=.ret vs):Uz prog (Zy prog (nRg q)) (Zg prog (nRg q) [(.dat l0.length (Zz l0)),(.dat l1.length (Zz l1))] true []) vs:=by have:=Zd (w7j q l0 l1) n _ (x8l q l0 l1);rwa [h] at this
def y1l (E:Int→Int) (cs:List Int):Nat→Nat→Int
 | 0,_=>0
 | k+1,i=>bif E (rd cs i) != 0 then E (rd cs i) else y1l E cs k (i+1)
def eJ (e:Int) (n:Nat):Int:=bif e != 0 then e else y7g n
theorem w3j {α:Type} [Xk α] (L:List α):z8y (eJ 0 L.length) L=Ki L:=(z8r L).symm
theorem x2e {n:Nat} (h:y7g n=0):n≤400:=by
 grind [y7g]
theorem x5d {α:Type} {e:Int} (L:List α) (h:(e != 0)=false):y7f e L=L:=by unfold y7f;rw [h];rfl
def rgS (q:Op) (a b:List R4) (x:Int):List R2:=spJ q.k (D4.inn a x) (D4.inn b x)
def rgA (q:Op) (a b:List R4) (x:Int):Int:=spE q.k (D4.inn a x) (D4.inn b x)
theorem j2c (q:Op) (a b:List R4) (x:Int) (h:(rgA q a b x != 0)=false):(rgS q a b x).length ≤1000:=by
 have h:rgA q a b x=0:=by simpa using h
 unfold rgA spE at h;cases g1:(y8f (D4.inn a x) != 0) with
 | true=>grind
 | false=>
  cases g2:(y8f (D4.inn b x) != 0) with
  | true=>grind
  | false=>rw [g1,g2,Aa,Aa] at h;exact AE (x2e h) (by omega)
section
variable (q:Op) (a b:List R4) (ha:a.length≤400) (hb:b.length≤400)
include ha hb
theorem u6d (i:Nat) (out:List R4) (last:List R2) (first fin x x':Int): ∀(k j:Nat) (acc:List R2),j+k=a.length→acc.length≤j→
  ∃n,∀N,Zr (Ys q a b) (N+n) (.to (.h3 (i:Int) (j:Int) out last first fin ((D4.cuts (a++b)).length) (Wd (Xr (D4.ends (a++b)))) x x' acc))=Zr (Ys q a b) N (.to (.h4 (i:Int) 0 out last first fin ((D4.cuts (a++b)).length) (Wd (Xr (D4.ends (a++b)))) x x' (acc++D4.inn (a.drop j) x) []))
 | 0,j,acc,h,h'=>by
  have _u:=ha;have _v:=hb;refine ⟨1,fun N=> ?_⟩;rw [As (by omega),show D4.inn ([]:List R4) x=[] from rfl,AB,Zw]
  grind [Ys]
 | k+1,j,acc,h,h'=>by
  have hj:j<a.length:=by omega
  obtain ⟨n,hn⟩:=u6d i out last first fin x x' k (j+1) (acc++D4.inn [rd a j] x) (by omega) (by have:=D4.inn_length [rd a j] x;grind)
  refine ⟨n+1,fun N=> ?_⟩;have e:D4.inn (a.drop j) x=D4.inn [rd a j] x++D4.inn (a.drop (j+1)) x:=by rw [Yg hj,←D4.inn_append];rfl
  rw [e,←AG,Zw,←AI,←hn N];by_cases h1:D4.lo (rd a j)≤x
  ·by_cases h2:x<D4.hi (rd a j)
   ·rw [D4.inn_t _ _ h1 h2];simp only [D4] at h1 h2 ⊢;simp (disch:=omega) only [Ys,Xo,Zb,Zp,Zs,Zn,Ya,Yv,Yu,Ze,Zj,Zx,Yp,Zk,Af,Ao,Ah,Ai,Ab,Aa]
   ·rw [D4.inn_f2 _ _ h2,AB];simp only [D4] at h1 h2;simp (disch:=omega) only [Ys,Xo,Yb,Zb,Zp,Zs,Zn,Ya,Yv,Yu,Ze,Zj,Zx,Yp,Zk,Af,Ao,Ah,Ai,Ab,Aa]
  ·rw [D4.inn_f1 _ _ h1,AB];simp only [D4] at h1;simp (disch:=omega) only [Ys,w0y,Zb,Zp,Zs,Zn,Ya,Yv,Yu,Ze,Zj,Zx,Yp,Zk,Af,Ao,Ah,Ai,Ab,Aa]
theorem u6c (i:Nat) (out:List R4) (last:List R2) (first fin x x':Int) (o1:List R2): ∀(k j:Nat) (acc:List R2),j+k=b.length→acc.length≤j→
  ∃n,∀N,Zr (Ys q a b) (N+n) (.to (.h4 (i:Int) (j:Int) out last first fin ((D4.cuts (a++b)).length) (Wd (Xr (D4.ends (a++b)))) x x' o1 acc))=Zr (Ys q a b) N (.to (.h4 (i:Int) (b.length:Int) out last first fin ((D4.cuts (a++b)).length) (Wd (Xr (D4.ends (a++b)))) x x' o1 (acc++D4.inn (b.drop j) x)))
 | 0,j,acc,h,h'=>by have _u:=ha;have _v:=hb;refine ⟨0,fun N=> ?_⟩;rw [As (by omega),show D4.inn ([]:List R4) x=[] from rfl,AB,Bh,show j=b.length by omega]
 | k+1,j,acc,h,h'=>by
  have hj:j<b.length:=by omega
  obtain ⟨n,hn⟩:=u6c i out last first fin x x' o1 k (j+1) (acc++D4.inn [rd b j] x) (by omega) (by have:=D4.inn_length [rd b j] x;grind)
  refine ⟨n+1,fun N=> ?_⟩;have e:D4.inn (b.drop j) x=D4.inn [rd b j] x++D4.inn (b.drop (j+1)) x:=by rw [Yg hj,←D4.inn_append];rfl
  rw [e,←AG,Zw,←AI,←hn N];by_cases h1:D4.lo (rd b j)≤x
  ·by_cases h2:x<D4.hi (rd b j)
   ·rw [D4.inn_t _ _ h1 h2];simp only [D4] at h1 h2 ⊢;simp (disch:=omega) only [Ys,Xo,Zb,Zp,Zs,Zn,Ya,Yv,Yu,Ze,Zj,Zx,Yp,Zk,Af,Ao,Ah,Ai,Ab,Aa]
   ·rw [D4.inn_f2 _ _ h2,AB];simp only [D4] at h1 h2;simp (disch:=omega) only [Ys,Xo,Yb,Zb,Zp,Zs,Zn,Ya,Yv,Yu,Ze,Zj,Zx,Yp,Zk,Af,Ao,Ah,Ai,Ab,Aa]
  ·rw [D4.inn_f1 _ _ h1,AB];simp only [D4] at h1;simp (disch:=omega) only [Ys,w0y,Zb,Zp,Zs,Zn,Ya,Yv,Yu,Ze,Zj,Zx,Yp,Zk,Af,Ao,Ah,Ai,Ab,Aa]
theorem u6b (i:Nat) (hi:i≤2000) (x x':Int) (s:List R2) (first:Int) (o1 o2:List R2) (hs:s.length≤1000): ∀(k j:Nat) (out:List R4),j+k=s.length→out.length≤10000000+j→
  ∃n,∀N,Zr (Ys q a b) (N+n) (.to (.h5 x x' s (s.length:Int) (j:Int) (i:Int) out first ((D4.cuts (a++b)).length) (Wd (Xr (D4.ends (a++b)))) o1 o2))=Zr (Ys q a b) N (.to (.h2 ((i+1:Nat):Int) (out++(s.drop j).map (D4.put x x')) s first x' ((D4.cuts (a++b)).length) (Wd (Xr (D4.ends (a++b))))))
 | 0,j,out,h,ho=>by
  have _u:=ha;have _v:=hb;refine ⟨1,fun N=> ?_⟩
  grind [Zw,Ys,Zj]
 | k+1,j,out,h,ho=>by
  obtain ⟨n,hn⟩:=u6b i hi x x' s first o1 o2 hs k (j+1) (out++[D4.put x x' (rd s j)]) (by omega) (by simp;omega)
  refine ⟨n+1,fun N=> ?_⟩;have:=hn N;rw [Yg (show j<s.length by omega),A2,←AG,Zw];simp (disch:=omega) only [Ys,Zb,Zp,Zs,Zn,Ya,Yv,Yu,Ze,Zj,Zx,Yp,Zk,Af,Ao,Ah,Ai,Ab,Aa];rw [AI] at this;exact this
theorem u6a (i:Nat) (hi:i≤2000) (x x' fin:Int) (s last:List R2) (first:Int) (o1 o2:List R2): ∀(k j:Nat) (out:List R4),j+k=out.length→out.length≤10000000→
  ∃n,∀N,Zr (Ys q a b) (N+n) (.to (.h6 x' (j:Int) x s (i:Int) out last first fin ((D4.cuts (a++b)).length) (Wd (Xr (D4.ends (a++b)))) o1 o2))=Zr (Ys q a b) N (.to (.h2 ((i+1:Nat):Int) (D4.grow out j x') last first x' ((D4.cuts (a++b)).length) (Wd (Xr (D4.ends (a++b))))))
 | 0,j,out,h,ho=>by
  have _u:=ha;have _v:=hb;refine ⟨1,fun N=> ?_⟩;rw [D4.grow_nil _ _ _ (by omega),Zw]
  grind [Ys,Zj]
 | k+1,j,out,h,ho=>by
  obtain ⟨n,hn⟩:=u6a i hi x x' fin s last first o1 o2 k (j+1) (out.set j (D4.ext x' (rd out j))) (by simp;omega) (by grind)
  refine ⟨n+1,fun N=> ?_⟩;have:=hn N;rw [D4.grow_set out j _ (by omega)] at this;rw [←AG,Zw];simp (disch:=omega) only [Ys,Zb,Zp,Zs,Zn,Ya,Yv,Yu,Ze,Zj,Zx,Yp,Zk,Af,Ao,Ah,Ai,Ab,Aa];exact this
theorem v2v : ∀(k i:Nat) (s:Sw R4 R2),k=(D4.cuts (a++b)).length - 1 - i→i≤(D4.cuts (a++b)).length →s.out.length≤i*1000→s.last.length≤1000→s.first≤s.out.length→
  ∃n,Zr (Ys q a b) n (.to (.h2 ((i+1:Nat):Int) s.out s.last (s.first:Int) s.fin ((D4.cuts (a++b)).length) (Wd (Xr (D4.ends (a++b))))))=.ret (z8y (eJ (y1l (rgA q a b) (D4.cuts (a++b)) k i) (D4.goS (rgS q a b) (D4.cuts (a++b)) k i s).out.length) (D4.goS (rgS q a b) (D4.cuts (a++b)) k i s).out)
 | 0,i,s,h,hi,ho,hla,hf=>by
  have _u:=ha;have _v:=hb;have hc:=D4.cuts_length (a++b);refine ⟨1,?_⟩;rw [Zw,show D4.goS (rgS q a b) (D4.cuts (a++b)) 0 i s=s from rfl,show y1l (rgA q a b) (D4.cuts (a++b)) 0 i=0 from rfl,w3j]
  grind [Ki,Ys,Zq]
 | k +1,i,s,h,hi,ho,hla,hf=>by
  have hc:=D4.cuts_length (a++b);rw [AO] at hc;have hi1:i+1<(D4.cuts (a++b)).length :=by omega
  have hpl:(Wd (Xr (D4.ends (a++b)))).length =2*(a.length+b.length):=by rw [Jf,Jz,D4.ends_length,AO]
  have r0:rd (Wd (Xr (D4.ends (a++b)))) i=rd (D4.cuts (a++b)) i:=z5r _ _ (by show i<(D4.cuts (a++b)).length;omega);have r1:rd (Wd (Xr (D4.ends (a++b)))) (i+1)=rd (D4.cuts (a++b)) (i+1):=z5r _ _ (by show i+1<(D4.cuts (a++b)).length;omega);have hbig:i*1000≤2000*1000:=AC _ (by omega);have hgo:D4.goS (rgS q a b) (D4.cuts (a++b)) (k+1) i s=D4.goS (rgS q a b) (D4.cuts (a++b)) k (i+1) (D4.oneS (rgS q a b (rd (D4.cuts (a++b)) i)) (rd (D4.cuts (a++b)) i) (rd (D4.cuts (a++b)) (i+1)) s):=rfl;have hfe: ∀x,x=rd (D4.cuts (a++b)) i→(rgA q a b x != 0)=false→y1l (rgA q a b) (D4.cuts (a++b)) (k+1) i=y1l (rgA q a b) (D4.cuts (a++b)) k (i+1):=fun x hx z=>by
   show (bif rgA q a b (rd (D4.cuts (a++b)) i) != 0 then _ else _)=_
   grind
  revert hgo hfe r0;generalize hx:rd (D4.cuts (a++b)) i=x;generalize hx':rd (D4.cuts (a++b)) (i+1)=x' at r1;intro r0 hgo hfe;obtain ⟨n3,h3⟩:=u6d q a b ha hb (i+1) s.out s.last (s.first:Int) s.fin x x' a.length 0 [] (Af _) (Aq _);simp only [AT,A8,z2b] at h3;obtain ⟨n4,h4⟩:=u6c q a b ha hb (i+1) s.out s.last (s.first:Int) s.fin x x' (D4.inn a x) b.length 0 [] (Af _) (Aq _);simp only [AT,A8,z2b] at h4;have st0: ∀N,Zr (Ys q a b) (N+n4+n3+1) (.to (.h2 ((i+1:Nat):Int) s.out s.last (s.first:Int) s.fin ((D4.cuts (a++b)).length) (Wd (Xr (D4.ends (a++b))))))=Zr (Ys q a b) N (.to (.h4 ((i+1:Nat):Int) (b.length:Int) s.out s.last (s.first:Int) s.fin ((D4.cuts (a++b)).length) (Wd (Xr (D4.ends (a++b)))) x x' (D4.inn a x) (D4.inn b x))):=fun N=>by
   rw [←h4 N,←h3 (N+n4),Zw];have e1:wrap .i64 (((i+1:Nat):Int) - 1)=(i:Int):=by rw [Zo];exact Zj (by omega)
   simp (disch:=omega) only [Ys,e1,r0,r1,Zb,Zp,Zs,Zn,Ya,Yv,Yu,Ze,Zj,Zx,Yp,Zk,Af,Ao,Ah,Ai,Ab,Aa]
  have w1:x0g q (D4.inn a x) (D4.inn b x)=true:=rfl;have f1:z0q (Zz (D4.inn a x))=true:=Xa _;have f2:z0q (Zz (D4.inn b x))=true:=Xa _;rcases Yy (rgA q a b x != 0) with z | z
  ·have z':(w5x q (D4.inn a x) (D4.inn b x) != 0)=true:=z;refine ⟨1+n4+n3+1,?_⟩;rw [st0 1,Zw];have e:y1l (rgA q a b) (D4.cuts (a++b)) (k+1) i=rgA q a b x:=by show (bif rgA q a b (rd (D4.cuts (a++b)) i) != 0 then rgA q a b (rd (D4.cuts (a++b)) i) else _)=_;grind
   simp (disch:=omega) only [Ys,Yb,z',w1,f1,f2,Zb,Zp,Zs,Zn,Ya,Yv,Yu,Ze,Zj,Zx,Yp,Zk,Af,Ao,Ah,Ai,Ab,Aa,Zq];rw [e,show eJ (rgA q a b x) _=rgA q a b x by unfold eJ;rw [z];rfl,Vv _ z];rfl
  have z':(w5x q (D4.inn a x) (D4.inn b x) != 0)=false:=z;have v:z3q q (D4.inn a x) (D4.inn b x)=rgS q a b x:=x5d _ z;have hsl:=j2c q a b x z;have w2:Vo s.last (rgS q a b x)=true:=Al (by omega);rw [hgo,hfe x rfl z];have ol:(D4.oneS (rgS q a b x) x x' s).out.length ≤s.out.length+(rgS q a b x).length :=by
   grind [Dim.oneS,Dim.grow_length]
  rcases Yy (decide (0<(rgS q a b x).length)&&((s.fin == x)&&D4.same s.last (rgS q a b x))) with g | g
  ·obtain ⟨n6,h6⟩:=u6a q a b ha hb (i+1) (by omega) x x' s.fin (rgS q a b x) s.last (s.first:Int) (D4.inn a x) (D4.inn b x) (s.out.length - s.first) s.first s.out (by omega) (by omega)
   have e:D4.oneS (rgS q a b x) x x' s=⟨D4.grow s.out s.first x',s.last,s.first,x'⟩:=by unfold Dim.oneS;rw [g];rfl
   obtain ⟨n0,h0⟩:=v2v k (i+1) (D4.oneS (rgS q a b x) x x' s) (by omega) (by omega) (by omega) (by grind) (by grind [Dim.grow_length]);refine ⟨n0+n6+1+n4+n3+1,?_⟩;rw [st0 (n0+n6+1),Zw];simp only [Ac,At] at g;obtain ⟨g1,g2,g3⟩:=g;have g3':Kf s.last (rgS q a b x)=true:=g3;simp (disch:=omega) only [Ys,Yb,Yn,z',v,g2,g3',w1,f1,f2,w2,Zb,Zp,Zs,Zn,Ya,Yv,Yu,Ze,Zj,Zx,Yp,Zk,Af,Ao,Ah,Ai,Ab,Aa]
   grind
  ·obtain ⟨n5,h5⟩:=u6b q a b ha hb (i+1) (by omega) x x' (rgS q a b x) (s.out.length:Int) (D4.inn a x) (D4.inn b x) hsl (rgS q a b x).length 0 s.out (Af _) (by omega);simp only [AT,z2b] at h5;have e:D4.oneS (rgS q a b x) x x' s=⟨s.out++(rgS q a b x).map (D4.put x x'),rgS q a b x,s.out.length,x'⟩:=by unfold Dim.oneS;rw [g];rfl
   obtain ⟨n0,h0⟩:=v2v k (i+1) (D4.oneS (rgS q a b x) x x' s) (by omega) (by omega) (by omega) (by grind) (by rw [e];simp);have hg:Zr (Ys q a b) 1 (.to (.h4 ((i+1:Nat):Int) (b.length:Int) s.out s.last (s.first:Int) s.fin ((D4.cuts (a++b)).length) (Wd (Xr (D4.ends (a++b)))) x x' (D4.inn a x) (D4.inn b x)))=.to (.h5 x x' (rgS q a b x) ((rgS q a b x).length :Int) 0 ((i+1:Nat):Int) s.out (s.out.length:Int) ((D4.cuts (a++b)).length) (Wd (Xr (D4.ends (a++b)))) (D4.inn a x) (D4.inn b x)):=by
    rw [show (1:Nat)=0+1 from rfl,Zw];have e3:D4.same s.last (rgS q a b x)=Kf s.last (rgS q a b x):=rfl;rw [e3] at g;by_cases g1:0<(rgS q a b x).length
    ·rw [Al g1,Ai] at g;rcases Yy (s.fin == x) with g2 | g2
     ·rw [g2,Ai] at g;simp (disch:=omega) only [Ys,Yb,Yn,z',v,g2,g,w1,f1,f2,w2,Zb,Zp,Zs,Zn,Ya,Yv,Yu,Ze,Zj,Zx,Yp,Zk,Af,Ao,Ah,Ai,Ab,Aa];rfl
     ·simp (disch:=omega) only [Ys,Yb,Yn,z',v,g2,w1,f1,f2,w2,Zb,Zp,Zs,Zn,Ya,Yv,Yu,Ze,Zj,Zx,Yp,Zk,Af,Ao,Ah,Ai,Ab,Aa];rfl
    ·simp (disch:=omega) only [Ys,Yb,Xi,z',v,w1,f1,f2,w2,Zb,Zp,Zs,Zn,Ya,Yv,Yu,Ze,Zj,Zx,Yp,Zk,Af,Ao,Ah,Ai,Ab,Aa];rfl
   refine ⟨n0+n5+1+n4+n3+1,?_⟩;simp_all [z4k]
theorem u6e : ∀(k i:Nat) (acc:List Int),i+k=b.length→acc=D4.ends (a++b.take i)→ ∃n,Zr (Ys q a b) n (.to (.h1 (i:Int) acc))=.ret (z8y (eJ (y1l (rgA q a b) (D4.cuts (a++b)) ((D4.cuts (a++b)).length - 1) 0) (D4.goS (rgS q a b) (D4.cuts (a++b)) ((D4.cuts (a++b)).length - 1) 0 ⟨[],[],0,0⟩).out.length) (D4.goS (rgS q a b) (D4.cuts (a++b)) ((D4.cuts (a++b)).length - 1) 0 ⟨[],[],0,0⟩).out)
 | 0,i,acc,h,h'=>by
  have _u:=ha;have _v:=hb;have e:acc=D4.ends (a++b):=by grind
  subst e;have hle:=D4.ends_length (a++b);rw [AO] at hle;obtain ⟨n,hn⟩:=v2v q a b ha hb ((D4.cuts (a++b)).length - 1) 0 ⟨[],[],0,0⟩ (by omega) (AA _) (AA _) (AA _) (AA _);refine ⟨n+1,?_⟩;rw [Zw];simp (disch:=omega) only [Ys,Ks,z1v,y6c,Yb,Yv,Yu,Ao,Ab,Aa];exact hn
 | k+1,i,acc,h,h'=>by
  have hle:acc.length≤2*(400+i):=by rw [h',D4.ends_length];grind
  obtain ⟨n,hn⟩:=u6e k (i+1) (acc++D4.ends [rd b i]) (by omega) (by
   rw [h',A0]
   grind [Xz,Dim.ends])
  refine ⟨n+1,?_⟩;rw [Zw];simp (disch:=omega) only [Ys,Zb,Zp,Zs,Zn,Ya,Yv,Yu,Ze,Zj,Zx,Yp,Zk,Af,Ao,Ah,Ai,Ab,Aa];exact hn
theorem u6f : ∀(k i:Nat) (acc:List Int),i+k=a.length→acc=D4.ends (a.take i)→ ∃n,Zr (Ys q a b) n (.to (.h0 (i:Int) acc))=.ret (z8y (eJ (y1l (rgA q a b) (D4.cuts (a++b)) ((D4.cuts (a++b)).length - 1) 0) (D4.goS (rgS q a b) (D4.cuts (a++b)) ((D4.cuts (a++b)).length - 1) 0 ⟨[],[],0,0⟩).out.length) (D4.goS (rgS q a b) (D4.cuts (a++b)) ((D4.cuts (a++b)).length - 1) 0 ⟨[],[],0,0⟩).out)
 | 0,i,acc,h,h'=>by
  have _u:=ha;have _v:=hb;obtain ⟨n,hn⟩:=u6e q a b ha hb b.length 0 acc (Af _) (by grind);refine ⟨n+1,?_⟩
  grind [Zw,Ys]
 | k+1,i,acc,h,h'=>by
  have hle:acc.length≤2*(400+i):=by rw [h',D4.ends_length];grind
  obtain ⟨n,hn⟩:=u6f k (i+1) (acc++D4.ends [rd a i]) (by omega) (by
   rw [h',A0]
   grind [Xz,Dim.ends])
  refine ⟨n+1,?_⟩;rw [Zw];simp (disch:=omega) only [Ys,Zb,Zp,Zs,Zn,Ya,Yv,Yu,Ze,Zj,Zx,Yp,Zk,Af,Ao,Ah,Ai,Ab,Aa];exact hn
end
def rgE (q:Op) (a b:List R4):Int:=bif y1j a != 0 then y1j a else bif y1j b != 0 then y1j b else eJ (y1l (rgA q a b) (D4.cuts (a++b)) ((D4.cuts (a++b)).length - 1) 0) (rgJ q.k a b).length
def z4e (q:Op) (a b:List R4):List R4:=y7f (rgE q a b) (rgJ q.k a b)
def w7l (q:Op) (a b:List R4):Int:=rgE q a b
def y3b (q:Op) (a b:List R4):Bool:=true
theorem w3h {l:List R4} (h:(y1j l != 0)=false):l.length≤400:=by
 grind [y1j]
theorem rg_run (q:Op) (a b:List R4) (h:y3b q a b=true): ∃n,Zr (Ys q a b) n (y3a q a b)=.ret (z8y (rgE q a b) (rgJ q.k a b)):=by
 unfold y3a;have o: ∀l,z4d l=true:=fun _=>rfl;simp only [Zb,o,Ab];rcases Yy (y1j a != 0) with q1 | q1
 ·exact ⟨0,by simp only [rgE,q1,Ab,Vv _ q1];rfl⟩
 rcases Yy (y1j b != 0) with q2 | q2
 ·exact ⟨0,by simp only [rgE,q1,q2,Ab,Aa,Vv _ q2];rfl⟩
 obtain ⟨n,hn⟩:=u6f q a b (w3h q1) (w3h q2) a.length 0 [] (Af _) rfl;refine ⟨n,?_⟩;simp only [rgE,q1,q2,Aa];exact hn
def fRg (q:Op):List AVal→Option (AVal×Bool)
 | [a0,a1]=>match asL R4 a0,asL R4 a1 with
  | some (L0,g0,n0),some (L1,g1,n1)=>some (.tup [.dat (z4e q L0 L1).length (Zz (z4e q L0 L1)),.int .i64 (w7l q L0 L1)],isT R4 n0 g0&&(isT R4 n1 g1&&(y3b q L0 L1)))
  | _,_=>none
 | _=>none
theorem v5m (q:Op) {S:Specs} (hS:Zv prog S):Zv prog (S.with (nRg q) (fRg q)):=by
 refine x6d hS (by cases q <;> kernel_rfl) fun args v h=> ?_;unfold fRg at h;split at h
 ·rename_i a0 a1;split at h
  ·rename_i L0 g0 n0 L1 g1 n1 e0 e1;simp only [Ae,Ad,Ac] at h;obtain ⟨rfl,ho0,ho1,hw⟩:=h;obtain ⟨N,hN⟩:=rg_run q L0 L1 hw;exact ⟨_,_,(.cons (Yc e0 ho0) (.cons (Yc e1 ho1) .nil)),Qt _ _,v9t q L0 L1 N _ hN,3,z2n _ _⟩
  ·cases h
 ·cases h
def Ud :Specs:=((Uc.with (nRg .u) (fRg .u)).with (nRg .e) (fRg .e)).with (nRg .d) (fRg .d)
theorem Jn :Zv prog Ud:=v5m .d (v5m .e (v5m .u Kd))
inductive sljS where
 | h0 (v16:Int) (aB:List Int)
 | h1 (v16:Int) (aB:List Int)
 | h2 (v4:Int) (aF:List R6) (aN:List R4) (aY:Int) (aZ:Int) (aE:Nat) (aH:List Int)
 | h3 (v4:Int) (v38:Int) (aF:List R6) (aN:List R4) (aY:Int) (aZ:Int) (aE:Nat) (aH:List Int) (aM:Int) (aX:Int) (aA:List R4)
 | h4 (v4:Int) (v38:Int) (aF:List R6) (aN:List R4) (aY:Int) (aZ:Int) (aE:Nat) (aH:List Int) (aM:Int) (aX:Int) (aA:List R4) (aG:List R4)
 | h5 (v1:Int) (v2:Int) (v72:List R4) (v73:Int) (v74:Int) (aV:Int) (aD:List R6) (bA:Int) (aE:Nat) (aH:List Int) (aM:List R4) (aX:List R4)
 | h6 (v2:Int) (v8:Int) (bR:Int) (bJ:List R4) (aV:Int) (aD:List R6) (bB:List R4) (bA:Int) (bN:Int) (bG:Nat) (bM:List Int) (aA:List R4) (aG:List R4)
def y4h (q:Op) (l0:List R6) (l1:List R6):AFr:=⟨⟨12,0,true⟩,(Vk prog (nSl q) [1,0] 3),(Zc prog (nSl q) [1,0] 1),none,(Zy prog 16),Yj [(6,(.dat l0.length (Zz l0))),(7,(.dat l1.length (Zz l1))),(8,(.agg [(.fn (nRg q) [])]))]⟩
abbrev y7y (aD:List R6) (v8:Int) (v2:Int):=(aD.set (0+(tn v8)) (R6.mk (rd aD (0+(tn v8))).a (rd aD (0+(tn v8))).b (rd aD (0+(tn v8))).c (rd aD (0+(tn v8))).d (rd aD (0+(tn v8))).e v2))
def w2o (q:Op):AFr:=⟨⟨27,0,true⟩,(Vk prog 66 [1,1,1,0] 4),(Zc prog 66 [1,1,1,0] 1),none,(Zy prog 10),Yj [(20,(.agg [(.fn (nRg q) [])])),(23,(.sl 8 0 2 (.un 1)))]⟩
def v1g :=(y1k [(0,⟨.ready,none,65,Yj [(2,(.ptr 1 0)),(4,(.ptr 2 0)),(5,(.ptr 3 0)),(6,(.ptr 4 0))],[15],(Wc prog 93 [1,1,0,1,0,0]),(Wc prog 93 [1,1,0,1,0,1])⟩)])
abbrev y7x (aB:List Int):=(Wd (Ye aB.length (cOf (Zz (Xr (Ye aB.length (cOf (Zz aB))))))))
def v1f :AFr:=⟨⟨65,0,true⟩,none,(.inRangeFunc 0::(Zc prog 93 [1,1,0,1,0] 1)),none,(Zy prog 93),Yj [(4,(.ptr 2 0)),(5,(.ptr 3 0)),(6,(.ptr 4 0))]⟩
abbrev y7w (aA:List R4) (l0:List R6) (v38:Int):=(aA++[(R4.mk (rd l0 (tn v38)).a (rd l0 (tn v38)).b (rd l0 (tn v38)).d (rd l0 (tn v38)).e)])
abbrev y7v (aG:List R4) (l1:List R6) (v38:Int):=(aG++[(R4.mk (rd l1 (tn v38)).a (rd l1 (tn v38)).b (rd l1 (tn v38)).d (rd l1 (tn v38)).e)])
abbrev y7u (aD:List R6) (v72:List R4) (v74:Int) (v1:Int) (v2:Int):=(aD++[(R6.mk (rd v72 (tn v74)).a (rd v72 (tn v74)).b v1 (rd v72 (tn v74)).c (rd v72 (tn v74)).d v2)])
def y4g (l0:List R6) (l1:List R6):ABlk:=⟨[(.dat l0.length (Zz l0)),(.dat l1.length (Zz l1))],32,none⟩
def v1j :AFr:=⟨⟨65,0,true⟩,(Vk prog 93 [1,1,0,0] 1),(Zc prog 93 [1,1,0,0] 1),none,(Zy prog 93),Yj [(2,(.ptr 3 0)),(4,(.ptr 4 0)),(5,(.ptr 5 0)),(6,(.ptr 6 0)),(13,(.sl 1 0 2 (.un 1)))]⟩
def v1i (q:Op):AFr:=⟨⟨27,0,true⟩,(Vk prog 66 [1,1,1,0] 4),(Zc prog 66 [1,1,1,0] 1),none,(Zy prog 10),Yj [(20,(.agg [(.fn (nRg q) [])])),(23,(.sl 1 0 2 (.un 1)))]⟩
def z6e (q:Op):ABlk:=⟨[(.fn (nRg q) [])],101,none⟩
abbrev z9f (aB:List Int) (l0:List R6) (v16:Int):=(aB++[(rd l0 (tn v16)).c,(rd l0 (tn v16)).f])
abbrev z9e (aB:List Int) (l1:List R6) (v16:Int):=(aB++[(rd l1 (tn v16)).c,(rd l1 (tn v16)).f])
def x0i :ABlk:=⟨[(.sl 8 0 2 (.un 1))],177,none⟩
def v1h :=(Zc prog 162 [1,0,0,1,0,0,1,0,1,0,0,1,1,0,0,1,1,0,0] 0)
def sljC (q:Op) (l0:List R6) (l1:List R6):sljS→Cfg
 | .h0 v16 aB=>⟨⟨36,0,true⟩,none,(Zc prog 135 [1,1,0,1,0,0,1,1,0,0,1,1,0,0] 0),none,(Zy prog 9),⟨Yj [(1,(.ptr 0 0)),(3,(.ptr 2 0)),(8,(.sl 1 0 2 (.un 1))),(9,(ii 2)),(10,(ii 0)),(14,(.dat l0.length (Zz l0))),(15,(ii (l0.length:Int))),(16,(ii v16))],Wn [⟨[(.sl 1 0 2 (.un 1))],177,none⟩,(y4g l0 l1),⟨[(.sla 7 1 0 aB.length (.un 1))],125,none⟩,(z6e q),⟨[.nils],33,none⟩,⟨[(ii 0)],24,none⟩,⟨[.nils,.nils,(ii 0),(ii 0)],179,none⟩,⟨Yk aB.length (Zz aB),3,some ⟨1,aB.length,(Zz aB)⟩⟩] 0,8,[],true⟩,[v1j,(v1i q),(y4h q l0 l1)],.leaf⟩
 | .h1 v16 aB=>⟨⟨36,0,true⟩,none,(Zc prog 135 [1,1,0,1,0,0,1,1,0,0,1,1,0,0] 0),none,(Zy prog 9),⟨Yj [(1,(.ptr 0 0)),(3,(.ptr 2 0)),(8,(.sl 1 0 2 (.un 1))),(9,(ii 2)),(10,(ii 1)),(14,(.dat l1.length (Zz l1))),(15,(ii (l1.length:Int))),(16,(ii v16))],Wn [⟨[(.sl 1 0 2 (.un 1))],177,none⟩,(y4g l0 l1),⟨[(.sla 7 1 0 aB.length (.un 1))],125,none⟩,(z6e q),⟨[.nils],33,none⟩,⟨[(ii 0)],24,none⟩,⟨[.nils,.nils,(ii 0),(ii 0)],179,none⟩,⟨Yk aB.length (Zz aB),3,some ⟨1,aB.length,(Zz aB)⟩⟩] 0,8,[],true⟩,[v1j,(v1i q),(y4h q l0 l1)],.leaf⟩
 | .h2 v4 aF aN aY aZ aE aH=>⟨⟨86,0,true⟩,none,(Zc prog 162 [1,0,0] 0),none,[],⟨Yj [(0,(.yld 0)),(1,(.ptr 5 0)),(2,(.ptr 7 0)),(4,(ii v4))],z6q [(1,(z6e q)),(2,⟨[.nils],33,none⟩),(3,⟨[(ii 0)],24,none⟩),(4,⟨[(.sla 9 6 0 aF.length (.un 6)),(.dat aN.length (Zz aN)),(ii aY),(ii aZ)],179,none⟩),(5,⟨[(.sla 6 1 0 aE (.un 1))],125,none⟩),(6,⟨Yk aH.length (Zz aH),3,some ⟨1,aH.length,(Zz aH)⟩⟩),(7,x0i),(8,(y4g l0 l1)),(9,⟨Yk aF.length (Zz aF),57,some ⟨6,aF.length,(Zz aF)⟩⟩)],10,[],true⟩,[v1f,(w2o q),(y4h q l0 l1)],v1g⟩
 | .h3 v4 v38 aF aN aY aZ aE aH aM aX aA=>⟨⟨86,0,true⟩,none,v1h,none,[],⟨Yj [(0,(.yld 0)),(1,(.ptr 5 0)),(2,(.ptr 7 0)),(4,(ii v4)),(5,(.ptr 9 0)),(6,(ii 0)),(29,(.sl 8 0 2 (.un 1))),(30,(ii 2)),(31,(ii 0)),(36,(.dat l0.length (Zz l0))),(37,(ii (l0.length:Int))),(38,(ii v38))],z6q [(1,(z6e q)),(2,⟨[.nils],33,none⟩),(3,⟨[(ii 0)],24,none⟩),(4,⟨[(.sla 12 6 0 aF.length (.un 6)),(.dat aN.length (Zz aN)),(ii aY),(ii aZ)],179,none⟩),(5,⟨[(.sla 6 1 0 aE (.un 1))],125,none⟩),(6,⟨Yk aH.length (Zz aH),3,some ⟨1,aH.length,(Zz aH)⟩⟩),(7,x0i),(8,(y4g l0 l1)),(9,⟨[(ii aM),(ii aX),(.sl 10 0 2 (.ex 2))],184,none⟩),(10,⟨[(.sla 11 4 0 aA.length (.un 4)),.nils],80,none⟩),(11,⟨Yk aA.length (Zz aA),116,some ⟨4,aA.length,(Zz aA)⟩⟩),(12,⟨Yk aF.length (Zz aF),57,some ⟨6,aF.length,(Zz aF)⟩⟩)],13,[],true⟩,[v1f,(w2o q),(y4h q l0 l1)],v1g⟩
 | .h4 v4 v38 aF aN aY aZ aE aH aM aX aA aG=>⟨⟨86,0,true⟩,none,v1h,none,[],⟨Yj [(0,(.yld 0)),(1,(.ptr 5 0)),(2,(.ptr 7 0)),(4,(ii v4)),(5,(.ptr 9 0)),(6,(ii 1)),(29,(.sl 8 0 2 (.un 1))),(30,(ii 2)),(31,(ii 1)),(36,(.dat l1.length (Zz l1))),(37,(ii (l1.length:Int))),(38,(ii v38))],z6q [(1,(z6e q)),(2,⟨[.nils],33,none⟩),(3,⟨[(ii 0)],24,none⟩),(4,⟨[(.sla 13 6 0 aF.length (.un 6)),(.dat aN.length (Zz aN)),(ii aY),(ii aZ)],179,none⟩),(5,⟨[(.sla 6 1 0 aE (.un 1))],125,none⟩),(6,⟨Yk aH.length (Zz aH),3,some ⟨1,aH.length,(Zz aH)⟩⟩),(7,x0i),(8,(y4g l0 l1)),(9,⟨[(ii aM),(ii aX),(.sl 10 0 2 (.ex 2))],184,none⟩),(10,⟨[(.sla 11 4 0 aA.length (.un 4)),(.sla 12 4 0 aG.length (.un 4))],80,none⟩),(11,⟨Yk aA.length (Zz aA),116,some ⟨4,aA.length,(Zz aA)⟩⟩),(12,⟨Yk aG.length (Zz aG),116,some ⟨4,aG.length,(Zz aG)⟩⟩),(13,⟨Yk aF.length (Zz aF),57,some ⟨6,aF.length,(Zz aF)⟩⟩)],14,[],true⟩,[v1f,(w2o q),(y4h q l0 l1)],v1g⟩
 | .h5 v1 v2 v72 v73 v74 aV aD bA aE aH aM aX=>⟨⟨101,0,true⟩,none,(Zc prog 136 [1,1,1,0,0] 0),none,[],⟨Yj [(0,(.ptr 0 0)),(1,(ii v1)),(2,(ii v2)),(72,(.dat v72.length (Zz v72))),(73,(ii v73)),(74,(ii v74))],z6q [(0,⟨[(.sla 10 6 0 aD.length (.un 6)),(.dat v72.length (Zz v72)),(ii bA),(ii v2)],179,none⟩),(2,(z6e q)),(3,⟨[.nils],33,none⟩),(4,⟨[(ii 0)],24,none⟩),(5,⟨[(.sla 6 1 0 aE (.un 1))],125,none⟩),(6,⟨Yk aH.length (Zz aH),3,some ⟨1,aH.length,(Zz aH)⟩⟩),(7,x0i),(8,(y4g l0 l1)),(9,⟨[(.dat aM.length (Zz aM)),(.dat aX.length (Zz aX))],80,none⟩),(10,⟨Yk aD.length (Zz aD),57,some ⟨6,aD.length,(Zz aD)⟩⟩)],11,[],true⟩,[⟨⟨65,0,true⟩,(Vk prog 93 [1,1,0,1,0,1,0,1,1,1] 5),(Zc prog 93 [1,1,0,1,0,1,0,1,1,1] 1),(some 1),[],Yj [(6,(.ptr 0 0)),(54,(ii v1)),(56,(ii v2)),(57,(.dat v72.length (Zz v72)))]⟩,⟨⟨86,0,true⟩,(Vk prog 162 [1,0,0,1,0,0,1,1,0] 2),(Zc prog 162 [1,0,0,1,0,0,1,1,0] 1),none,[],Yj [(0,(.yld 1)),(1,(.ptr 5 0)),(2,(.ptr 7 0)),(4,(ii aV)),(82,(.yld 1)),(83,(.agg [(ii v1),(ii v2),(.sl 9 0 2 (.ex 2))]))]⟩,⟨⟨65,0,true⟩,none,(.inRangeFunc 1::(Zc prog 93 [1,1,0,1,0] 1)),none,(Zy prog 93),Yj [(4,(.ptr 3 0)),(5,(.ptr 4 0)),(6,(.ptr 0 0))]⟩,(w2o q),(y4h q l0 l1)],(y1k [(1,⟨.busy,none,65,Yj [(2,(.ptr 2 0)),(4,(.ptr 3 0)),(5,(.ptr 4 0)),(6,(.ptr 0 0))],[15],(Wc prog 93 [1,1,0,1,0,0]),(Wc prog 93 [1,1,0,1,0,1])⟩)])⟩
 | .h6 v2 v8 bR bJ aV aD bB bA bN bG bM aA aG=>⟨⟨101,0,true⟩,none,(Zc prog 136 [0,1,0,0,1,0,0] 0),none,[],⟨Yj [(0,(.ptr 0 0)),(2,(ii v2)),(8,(ii v8))],z6q [(0,⟨[(.sla 1 6 0 aD.length (.un 6)),(.dat bB.length (Zz bB)),(ii bA),(ii bN)],179,none⟩),(1,⟨Yk aD.length (Zz aD),57,some ⟨6,aD.length,(Zz aD)⟩⟩),(3,(z6e q)),(4,⟨[.nils],33,none⟩),(5,⟨[(ii 0)],24,none⟩),(6,⟨[(.sla 7 1 0 bG (.un 1))],125,none⟩),(7,⟨Yk bM.length (Zz bM),3,some ⟨1,bM.length,(Zz bM)⟩⟩),(8,⟨[(.sl 9 0 2 (.un 1))],177,none⟩),(9,(y4g l0 l1)),(10,⟨[(.dat aA.length (Zz aA)),(.dat aG.length (Zz aG))],80,none⟩)],11,[],true⟩,[⟨⟨65,0,true⟩,(Vk prog 93 [1,1,0,1,0,1,0,1,1,1] 5),(Zc prog 93 [1,1,0,1,0,1,0,1,1,1] 1),(some 2),[],Yj [(6,(.ptr 0 0)),(54,(ii bR)),(56,(ii v2)),(57,(.dat bJ.length (Zz bJ)))]⟩,⟨⟨86,0,true⟩,(Vk prog 162 [1,0,0,1,0,0,1,1,0] 2),(Zc prog 162 [1,0,0,1,0,0,1,1,0] 1),none,[],Yj [(0,(.yld 2)),(1,(.ptr 6 0)),(2,(.ptr 8 0)),(4,(ii aV)),(82,(.yld 2)),(83,(.agg [(ii bR),(ii v2),(.sl 10 0 2 (.ex 2))]))]⟩,⟨⟨65,0,true⟩,none,(.inRangeFunc 2::(Zc prog 93 [1,1,0,1,0] 1)),none,(Zy prog 93),Yj [(4,(.ptr 4 0)),(5,(.ptr 5 0)),(6,(.ptr 0 0))]⟩,⟨⟨27,0,true⟩,(Vk prog 66 [1,1,1,0] 4),(Zc prog 66 [1,1,1,0] 1),none,(Zy prog 10),Yj [(20,(.agg [(.fn (nRg q) [])])),(23,(.sl 9 0 2 (.un 1)))]⟩,(y4h q l0 l1)],(y1k [(2,⟨.busy,none,65,Yj [(2,(.ptr 3 0)),(4,(.ptr 4 0)),(5,(.ptr 5 0)),(6,(.ptr 0 0))],[15],(Wc prog 93 [1,1,0,1,0,0]),(Wc prog 93 [1,1,0,1,0,1])⟩)])⟩
def sljN0 :List (Option (List Nat)):=[some [1,3,8,9,10,14,15,16],some [2,4,5,6,13],some [20,23],some [6,7,8]]
def sljM0 :List (Option (List Nat)):=[]
def sljN1 :List (Option (List Nat)):=[some [1,3,8,9,10,14,15,16],some [2,4,5,6,13],some [20,23],some [6,7,8]]
def sljM1 :List (Option (List Nat)):=[]
def u9k :List (Option (List Nat)):=[some [0,1,2,4],some [4,5,6],some [20,23],some [6,7,8]]
def u9l :List (Option (List Nat)):=[some [2,4,5,6],none,none,none,none,none,none,none,none,none]
def v7t :List (Option (List Nat)):=[some [0,1,2,4,5,6,29,30,31,36,37,38],some [4,5,6],some [20,23],some [6,7,8]]
def v7w :List (Option (List Nat)):=[some [2,4,5,6],none,none,none,none,none,none,none,none,none,none,none,none]
def v7s :List (Option (List Nat)):=[some [0,1,2,4,5,6,29,30,31,36,37,38],some [4,5,6],some [20,23],some [6,7,8]]
def v7v :List (Option (List Nat)):=[some [2,4,5,6],none,none,none,none,none,none,none,none,none,none,none,none,none]
def v7r :List (Option (List Nat)):=[some [0,1,2,72,73,74],some [6,54,56,57],some [0,1,2,4,82,83],some [4,5,6],some [20,23],some [6,7,8]]
def v7u :List (Option (List Nat)):=[none,some [2,4,5,6],none,none,none,none,none,none,none,none,none]
def sljN6 :List (Option (List Nat)):=[some [0,2,8],some [6,54,56,57],some [0,1,2,4,82,83],some [4,5,6],some [20,23],some [6,7,8]]
def sljM6 :List (Option (List Nat)):=[none,none,some [2,4,5,6],none,none,none,none,none,none,none,none]
def Yh (q:Op) (l0:List R6) (l1:List R6):sljS→Xx sljS
 | .h0 v16 aB=>(bif (decide (v16<(l0.length:Int))) then (bif ((decide (0≤v16∧v16<(l0.length:Int)))&&true) then (bif (Nat.beq 1 1&&((decide (0+aB.length=aB.length))&&decide ((aB.length+2+1)*(8+1)≤room))) then (.to (.h0 (wrap .i64 (v16+1)) (aB++[(rd l0 v16.toNat).c,(rd l0 v16.toNat).f]))) else .stuck) else .stuck) else (.to (.h1 0 aB)))
 | .h1 v16 aB=>(bif (decide (v16<(l1.length:Int))) then (bif ((decide (0≤v16∧v16<(l1.length:Int)))&&true) then (bif (Nat.beq 1 1&&((decide (0+aB.length=aB.length))&&decide ((aB.length+2+1)*(8+1)≤room))) then (.to (.h1 (wrap .i64 (v16+1)) (aB++[(rd l1 v16.toNat).c,(rd l1 v16.toNat).f]))) else .stuck) else .stuck) else (bif (decide (aB.length<4611686018427387904)) then (bif (decide (aB.length=aB.length)) then (.to (.h2 1 ([]:List R6) ([]:List R4) 0 0 (u8b (Ye aB.length (cOf (Zz (Xr (Ye aB.length (cOf (Zz aB)))))))) (Wd (Ye aB.length (cOf (Zz (Xr (Ye aB.length (cOf (Zz aB)))))))))) else .stuck) else .stuck))
 | .h2 v4 aF aN aY aZ aE aH=>(bif (decide (v4<((aE:Nat):Int))) then (bif ((decide (0≤(wrap .i64 (v4 - 1))∧(wrap .i64 (v4 - 1))<((aE:Nat):Int)))&&true) then (bif (decide ((0+(Int.toNat (wrap .i64 (v4 - 1))))<aH.length)) then (bif ((decide (0≤v4∧v4<((aE:Nat):Int)))&&true) then (bif (decide ((0+v4.toNat)<aH.length)) then (.to (.h3 v4 0 aF aN aY aZ aE aH (rd aH (0+(Int.toNat (wrap .i64 (v4 - 1))))) (rd aH (0+v4.toNat)) ([]:List R4))) else .stuck) else .stuck) else .stuck) else .stuck) else (bif (decide ((aF.length:Int)>400)) then (.ret [.nils,(.int .i64 4)]) else (.ret [(.dat aF.length (Zz aF)),(.int .i64 0)])))
 | .h3 v4 v38 aF aN aY aZ aE aH aM aX aA=>(bif (decide (v38<(l0.length:Int))) then (bif ((decide (0≤v38∧v38<(l0.length:Int)))&&true) then (bif (decide ((rd l0 v38.toNat).c ≤aM)) then (bif (decide (aM<(rd l0 v38.toNat).f)) then (bif (Nat.beq 4 4&&((decide (0+aA.length=aA.length))&&decide ((aA.length+1+1)*(32+1)≤room))) then (.to (.h3 v4 (wrap .i64 (v38+1)) aF aN aY aZ aE aH aM aX (aA++[(R4.mk (rd l0 v38.toNat).a (rd l0 v38.toNat).b (rd l0 v38.toNat).d (rd l0 v38.toNat).e)]))) else .stuck) else (.to (.h3 v4 (wrap .i64 (v38+1)) aF aN aY aZ aE aH aM aX aA))) else (.to (.h3 v4 (wrap .i64 (v38+1)) aF aN aY aZ aE aH aM aX aA))) else .stuck) else (.to (.h4 v4 0 aF aN aY aZ aE aH aM aX aA ([]:List R4))))
 | .h4 v4 v38 aF aN aY aZ aE aH aM aX aA aG=>(bif (decide (v38<(l1.length:Int))) then (bif ((decide (0≤v38∧v38<(l1.length:Int)))&&true) then (bif (decide ((rd l1 v38.toNat).c ≤aM)) then (bif (decide (aM<(rd l1 v38.toNat).f)) then (bif (Nat.beq 4 4&&((decide (0+aG.length=aG.length))&&decide ((aG.length+1+1)*(32+1)≤room))) then (.to (.h4 v4 (wrap .i64 (v38+1)) aF aN aY aZ aE aH aM aX aA (aG++[(R4.mk (rd l1 v38.toNat).a (rd l1 v38.toNat).b (rd l1 v38.toNat).d (rd l1 v38.toNat).e)]))) else .stuck) else (.to (.h4 v4 (wrap .i64 (v38+1)) aF aN aY aZ aE aH aM aX aA aG))) else (.to (.h4 v4 (wrap .i64 (v38+1)) aF aN aY aZ aE aH aM aX aA aG))) else .stuck) else (bif (Uu (cvT aA)) then (bif ((Yo (cvT aA)) == 0) then (bif (Uu (cvT aG)) then (bif ((Yo (cvT aG)) == 0) then (bif ((y3b q) (cvT (Zm (cvT aA))) (cvT (Zm (cvT aG)))) then (bif (((w7l q) (cvT (Zm (cvT aA))) (cvT (Zm (cvT aG)))) != 0) then (.ret [.nils,(.int .i64 ((w7l q) (cvT (Zm (cvT aA))) (cvT (Zm (cvT aG)))))]) else (bif (decide (((((z4e q) (cvT (Zm (cvT aA))) (cvT (Zm (cvT aG)))).length :Nat):Int)>0)) then (bif (aZ == aM) then (bif (Xs (cvT aN) (cvT ((z4e q) (cvT (Zm (cvT aA))) (cvT (Zm (cvT aG)))))) then (bif (Vw (cvT aN) (cvT ((z4e q) (cvT (Zm (cvT aA))) (cvT (Zm (cvT aG)))))) then (.to (.h6 aX aY aM ((z4e q) (cvT (Zm (cvT aA))) (cvT (Zm (cvT aG)))) v4 aF aN aY aZ aE aH aA aG)) else (.to (.h5 aM aX ((z4e q) (cvT (Zm (cvT aA))) (cvT (Zm (cvT aG)))) ((((z4e q) (cvT (Zm (cvT aA))) (cvT (Zm (cvT aG)))).length :Nat):Int) 0 v4 aF (aF.length:Int) aE aH aA aG))) else .stuck) else (.to (.h5 aM aX ((z4e q) (cvT (Zm (cvT aA))) (cvT (Zm (cvT aG)))) ((((z4e q) (cvT (Zm (cvT aA))) (cvT (Zm (cvT aG)))).length :Nat):Int) 0 v4 aF (aF.length:Int) aE aH aA aG))) else (.to (.h5 aM aX ((z4e q) (cvT (Zm (cvT aA))) (cvT (Zm (cvT aG)))) ((((z4e q) (cvT (Zm (cvT aA))) (cvT (Zm (cvT aG)))).length :Nat):Int) 0 v4 aF (aF.length:Int) aE aH aA aG)))) else .stuck) else (.ret [.nils,(.int .i64 (Yo (cvT aG)))])) else .stuck) else (.ret [.nils,(.int .i64 (Yo (cvT aA)))])) else .stuck))
 | .h5 v1 v2 v72 v73 v74 aV aD bA aE aH aM aX=>(bif (decide (v74<v73)) then (bif ((decide (0≤v74∧v74<(v72.length:Int)))&&true) then (bif (Nat.beq 6 6&&((decide (0+aD.length=aD.length))&&decide ((aD.length+1+1)*(48+1)≤room))) then (.to (.h5 v1 v2 v72 v73 (wrap .i64 (v74+1)) aV (aD++[(R6.mk (rd v72 v74.toNat).a (rd v72 v74.toNat).b v1 (rd v72 v74.toNat).c (rd v72 v74.toNat).d v2)]) bA aE aH aM aX)) else .stuck) else .stuck) else (.to (.h2 (wrap .i64 (aV+1)) aD v72 bA v2 aE aH)))
 | .h6 v2 v8 bR bJ aV aD bB bA bN bG bM aA aG=>(bif (decide (v8<(aD.length:Int))) then (bif ((decide (0≤v8∧v8<(aD.length:Int)))&&true) then (bif (decide ((0+v8.toNat)<aD.length)) then (.to (.h6 v2 (wrap .i64 (v8+1)) bR bJ aV (aD.set (0+v8.toNat) (R6.mk (rd aD (0+v8.toNat)).a (rd aD (0+v8.toNat)).b (rd aD (0+v8.toNat)).c (rd aD (0+v8.toNat)).d (rd aD (0+v8.toNat)).e v2)) bB bA bN bG bM aA aG)) else .stuck) else .stuck) else (.to (.h2 (wrap .i64 (aV+1)) aD bB bA v2 bG bM)))
def y2b (q:Op) (l0:List R6) (l1:List R6):Xx sljS:=(bif (Vi (cvT l0)) then (bif ((Yx (cvT l0)) != 0) then (.ret [.nils,(.int .i64 (Yx (cvT l0)))]) else (bif (Vi (cvT l1)) then (bif ((Yx (cvT l1)) != 0) then (.ret [.nils,(.int .i64 (Yx (cvT l1)))]) else (.to (.h0 0 ([]:List Int)))) else .stuck)) else .stuck)
theorem w6b (q:Op) (l0:List R6) (l1:List R6): ∀s,Xy prog (Zy prog (nSl q)) (sljC q l0 l1) (sljC q l0 l1 s) (Yh q l0 l1 s):=by cases q <;> refine (?f: ∀q:Op,∀s,Xy prog (Zy prog (nSl q)) (sljC q l0 l1) (sljC q l0 l1 s) (Yh q l0 l1 s)) _ <;> exact fun q=>fun
 | .h0 v16 aB=>(lb (fun k0=>(lo fun o0=>(lo fun o1=>(sl Jn 34 [] ⟨[0,1,2,3,4,5,6,10],[],sljN0,sljM0⟩ ⟨[],[.keep,.keep,.cells [.len (z9f aB l0 v16).length],.keep,.keep,.keep,.keep,.rowed 1 (z9f aB l0 v16).length (Zz (z9f aB l0 v16))],[]⟩ [true] (pp (xL (aB.length+2) (z9f aB l0 v16).length) (pp (xL (aB.length+2) (z9f aB l0 v16).length) (pp (xS (aB.length+2) (Zh (Zz aB) 0 aB.length 1 [(ii (rd l0 (tn v16)).c),(ii (rd l0 (tn v16)).f)]) (Zz (z9f aB l0 v16))) (pp (pp (xF (Zh (Zz aB) 0 aB.length 1 [(ii (rd l0 (tn v16)).c),(ii (rd l0 (tn v16)).f)])) nn) (ww o1 (ww o0 (tt k0 nn))))))))))) (fun k0=>(sl Jn 36 [] ⟨(List.range 8),[],sljN1,sljM1⟩ ⟨[],[],[]⟩ (bl 2 2) (pp (fl aB nn) (tt k0 nn)))))
 | .h1 v16 aB=>(lb (fun k0=>(lo fun o0=>(lo fun o1=>(sl Jn 34 [] ⟨[0,1,2,3,4,5,6,10],[],sljN1,sljM1⟩ ⟨[],[.keep,.keep,.cells [.len (z9e aB l1 v16).length],.keep,.keep,.keep,.keep,.rowed 1 (z9e aB l1 v16).length (Zz (z9e aB l1 v16))],[]⟩ [true] (pp (xL (aB.length+2) (z9e aB l1 v16).length) (pp (xL (aB.length+2) (z9e aB l1 v16).length) (pp (xS (aB.length+2) (Zh (Zz aB) 0 aB.length 1 [(ii (rd l1 (tn v16)).c),(ii (rd l1 (tn v16)).f)]) (Zz (z9e aB l1 v16))) (pp (pp (xF (Zh (Zz aB) 0 aB.length 1 [(ii (rd l1 (tn v16)).c),(ii (rd l1 (tn v16)).f)])) nn) (ww o1 (ww o0 (tt k0 nn))))))))))) (fun k0=>(lo fun o0=>(lo fun o1=>(sl Jn 46 [(57,6,Zz ([]:List R6))] ⟨[8,3,4,5,6,2,7,0,1,9],[],u9k,u9l⟩ ⟨[],(kpB 4 [.cells [.grow 9 6,.list 0 (Zz ([]:List R4)),.keep,.keep],.keep,.rowed 1 (y7x aB).length (Zz (y7x aB)),.keep,.keep,.keep]),[]⟩ (bl 2 0) (pp (xL aB.length (y7x aB).length (by first | exact z4i _ _ | exact Vt rfl)) (pp (xS aB.length (Zz (y7x aB)) (Zz (y7x aB))) (pp (fl (y7x aB) (fl ([]:List R6) nn)) (pp (pp (xG (Nat.beq 1 1)) (pp (xG (Nat.beq 1 1)) (pp (xG (Nat.beq 0 0)) (pp (xG (decide (aB.length=aB.length))) (pp (xG (isI (Zz (Xr (Ye aB.length (cOf (Zz aB))))))) (xG (decide (aB.length<4611686018427387904)))))))) (pp (pp (xG (Nat.beq 1 1)) (pp (xG (Nat.beq 1 1)) (pp (xG (Nat.beq 0 0)) (pp (xG (decide (aB.length=aB.length))) (pp (xG (isI (Zz aB))) (xG (decide (aB.length<4611686018427387904)))))))) (tt k0 nn)))))))))))
 | .h2 v4 aF aN aY aZ aE aH=>(lb (fun k0=>(lo fun o0=>(lo fun o1=>(lo fun o2=>(lo fun o3=>(sl Jn 48 [(116,4,Zz ([]:List R4))] ⟨[0,1,2,3,4,5,6,7,8,10,11,12,9],[],v7t,v7w⟩ ⟨[],(kpB 10 [.cells [.grow 11 4,.keep],.keep,.keep]),[]⟩ (trs 3 []) (pp (fl aH (fl ([]:List R4) (fl aF nn))) (ww o3 (ww o2 (ww o1 (ww o0 (tt k0 nn)))))))))))) (fun k0=>(lb (fun k1=>(lr 12 3 [1,1,1,1,0] 1 16 [(4,.nils),(5,(ii 4))] (sl Jn 39 [] ⟨[],[],[some [4,5]],[]⟩ ⟨[],[],[]⟩ (bl 2 2) (tt k1 (tt k0 nn))))) (fun k1=>(lr 12 3 [1,1,1,1,0] 1 16 [(4,(.dat aF.length (Zz aF))),(5,(ii 0))] (sl Jn 42 [] ⟨[],[9],[some [4,5]],[]⟩ ⟨[(4,.frz aF.length aF.length (Zz aF) (Zz aF))],[],[]⟩ (bl 2 0) (pp (xZ (z1o 6 6 0 aF.length aF.length (Zz aF)) aF.length (Zz aF)) (pp (xL aF.length aF.length) (pp (xS aF.length (Zz aF) (Zz aF)) (pp (fl aF nn) (tt k1 (tt k0 nn))))))))))))
 | .h3 v4 v38 aF aN aY aZ aE aH aM aX aA=>(lb (fun k0=>(lo fun aI=>(lb (fun k1=>(lb (fun k2=>(lo fun o0=>(sl Jn 41 [] ⟨[0,1,2,3,4,5,6,7,8,9,10,15,12],[],v7t,v7w⟩ ⟨[],(kpB 10 [.cells [.len (y7w aA l0 v38).length,.keep],.rowed 4 (y7w aA l0 v38).length (Zz (y7w aA l0 v38)),.keep]),[]⟩ (trs 8 []) (pp (xL (aA.length+1) (y7w aA l0 v38).length) (pp (xL (aA.length+1) (y7w aA l0 v38).length) (pp (xS (aA.length+1) (Zh (Zz aA) 0 aA.length 4 [(ii (rd l0 (tn v38)).a),(ii (rd l0 (tn v38)).b),(ii (rd l0 (tn v38)).d),(ii (rd l0 (tn v38)).e)]) (Zz (y7w aA l0 v38))) (pp (fl aH (pp (xF (Zh (Zz aA) 0 aA.length 4 [(ii (rd l0 (tn v38)).a),(ii (rd l0 (tn v38)).b),(ii (rd l0 (tn v38)).d),(ii (rd l0 (tn v38)).e)])) (fl aF nn))) (ww o0 (tt k2 (tt k1 (ww aI (tt k0 nn)))))))))))) (fun k2=>(sl Jn 41 [] ⟨(List.range 13),[],v7t,v7w⟩ ⟨[],[],[]⟩ (trs 7 [false]) (pp (fl aH (fl aA (fl aF nn))) (tt k2 (tt k1 (ww aI (tt k0 nn))))))))) (fun k1=>(sl Jn 41 [] ⟨(List.range 13),[],v7t,v7w⟩ ⟨[],[],[]⟩ (bl 8 1) (pp (fl aH (fl aA (fl aF nn))) (tt k1 (ww aI (tt k0 nn))))))))) (fun k0=>(sl Jn 38 [(116,4,Zz ([]:List R4))] ⟨[0,1,2,3,4,5,6,7,8,9,10,11,13,12],[],v7s,v7v⟩ ⟨[],(kpB 10 [.cells [.keep,.grow 12 4],.keep,.keep,.keep]),[]⟩ (bl 2 2) (pp (fl aH (fl aA (fl ([]:List R4) (fl aF nn)))) (tt k0 nn)))))
 | .h4 v4 v38 aF aN aY aZ aE aH aM aX aA aG=>(lb (fun k0=>(lo fun aI=>(lb (fun k1=>(lb (fun k2=>(lo fun o0=>(sl Jn 41 [] ⟨[0,1,2,3,4,5,6,7,8,9,10,11,16,13],[],v7s,v7v⟩ ⟨[],(kpB 10 [.cells [.keep,.len (y7v aG l1 v38).length],.keep,.rowed 4 (y7v aG l1 v38).length (Zz (y7v aG l1 v38)),.keep]),[]⟩ (trs 8 []) (pp (xL (aG.length+1) (y7v aG l1 v38).length) (pp (xL (aG.length+1) (y7v aG l1 v38).length) (pp (xS (aG.length+1) (Zh (Zz aG) 0 aG.length 4 [(ii (rd l1 (tn v38)).a),(ii (rd l1 (tn v38)).b),(ii (rd l1 (tn v38)).d),(ii (rd l1 (tn v38)).e)]) (Zz (y7v aG l1 v38))) (pp (fl aH (fl aA (pp (xF (Zh (Zz aG) 0 aG.length 4 [(ii (rd l1 (tn v38)).a),(ii (rd l1 (tn v38)).b),(ii (rd l1 (tn v38)).d),(ii (rd l1 (tn v38)).e)])) (fl aF nn)))) (ww o0 (tt k2 (tt k1 (ww aI (tt k0 nn)))))))))))) (fun k2=>(sl Jn 41 [] ⟨(List.range 14),[],v7s,v7v⟩ ⟨[],[],[]⟩ (trs 7 [false]) (pp (fl aH (fl aA (fl aG (fl aF nn)))) (tt k2 (tt k1 (ww aI (tt k0 nn))))))))) (fun k1=>(sl Jn 41 [] ⟨(List.range 14),[],v7s,v7v⟩ ⟨[],[],[]⟩ (bl 8 1) (pp (fl aH (fl aA (fl aG (fl aF nn)))) (tt k1 (ww aI (tt k0 nn))))))))) (fun k0=>(Wy (sl Jn (C':=⟨⟨65,0,true⟩,(Vk prog 93 [1,1,0,1,0,1,0,0] 4),(Zc prog 93 [1,1,0,1,0,1,0,0] 1),(some 0),[],⟨Yj [(2,(.ptr 1 0)),(4,(.ptr 2 0)),(5,(.ptr 3 0)),(6,(.ptr 4 0)),(7,(.ptr 6 0)),(20,(.dat aA.length (Zz aA)))],z6q [(1,⟨[(.fn (nRg q) [])],101,none⟩),(2,⟨[.nils],33,none⟩),(3,⟨[(ii 0)],24,none⟩),(4,⟨[(.sla 5 6 0 aF.length (.un 6)),(.dat aN.length (Zz aN)),(ii aY),(ii aZ)],179,none⟩),(5,⟨Yk aF.length (Zz aF),57,some ⟨6,aF.length,(Zz aF)⟩⟩),(6,⟨[(ii aM),(ii aX),(.sl 7 0 2 (.ex 2))],184,none⟩),(7,⟨[(.dat aA.length (Zz aA)),(.sla 8 4 0 aG.length (.un 4))],80,none⟩),(8,⟨Yk aG.length (Zz aG),116,some ⟨4,aG.length,(Zz aG)⟩⟩),(9,⟨[(.sla 10 1 0 aE (.un 1))],125,none⟩),(10,⟨Yk aH.length (Zz aH),3,some ⟨1,aH.length,(Zz aH)⟩⟩),(11,⟨[(.sl 12 0 2 (.un 1))],177,none⟩),(12,⟨[(.dat l0.length (Zz l0)),(.dat l1.length (Zz l1))],32,none⟩)],13,[],true⟩,[⟨⟨86,0,true⟩,(Vk prog 162 [1,0,0,1,0,0,1,1,0] 2),(Zc prog 162 [1,0,0,1,0,0,1,1,0] 1),none,[],Yj [(0,(.yld 0)),(1,(.ptr 9 0)),(2,(.ptr 11 0)),(4,(ii v4)),(82,(.yld 0)),(83,(.agg [(ii aM),(ii aX),(.sl 7 0 2 (.ex 2))]))]⟩,⟨⟨65,0,true⟩,none,(.inRangeFunc 0::(Zc prog 93 [1,1,0,1,0] 1)),none,(Zy prog 93),Yj [(4,(.ptr 2 0)),(5,(.ptr 3 0)),(6,(.ptr 4 0))]⟩,⟨⟨27,0,true⟩,(Vk prog 66 [1,1,1,0] 4),(Zc prog 66 [1,1,1,0] 1),none,(Zy prog 10),Yj [(20,(.agg [(.fn (nRg q) [])])),(23,(.sl 12 0 2 (.un 1)))]⟩,⟨⟨12,0,true⟩,(Vk prog (nSl q) [1,0] 3),(Zc prog (nSl q) [1,0] 1),none,(Zy prog 16),Yj [(6,(.dat l0.length (Zz l0))),(7,(.dat l1.length (Zz l1))),(8,(.agg [(.fn (nRg q) [])]))]⟩],(y1k [(0,⟨.busy,none,65,Yj [(2,(.ptr 1 0)),(4,(.ptr 2 0)),(5,(.ptr 3 0)),(6,(.ptr 4 0))],[15],(Wc prog 93 [1,1,0,1,0,0]),(Wc prog 93 [1,1,0,1,0,1])⟩)])⟩) 37 [] ⟨[0,1,2,3,4,13,14,10,12,5,6,7,8],[11],[some [2,4,5,6,7,20],some [0,1,2,4,82,83],some [4,5,6],some [20,23],some [6,7,8]],[some [2,4,5,6],none,none,none,none,none,none,none,none,none,none,none,none]⟩ ⟨[(20,.frz aA.length aA.length (Zz aA) (Zz aA))],[.keep,.keep,.keep,.keep,.keep,.keep,.keep,.cells [.frz aA.length aA.length (Zz aA) (Zz aA),.keep],.keep,.keep,.keep,.keep,.keep],[]⟩ (bl 2 0) (pp (xZ (z1o 4 4 0 aA.length aA.length (Zz aA)) aA.length (Zz aA)) (pp (xL aA.length aA.length) (pp (xS aA.length (Zz aA) (Zz aA)) (pp (xZ (z1o 4 4 0 aA.length aA.length (Zz aA)) aA.length (Zz aA)) (pp (xL aA.length aA.length) (pp (xS aA.length (Zz aA) (Zz aA)) (pp (fl aF (fl aG (fl aH nn))) (pp (fl aA nn) (tt k0 nn)))))))))) (lo fun aI=>(lb (fun k1=>(Wy (sl Jn (C':=⟨⟨65,0,true⟩,(Vk prog 93 [1,1,0,1,0,1,0,1,0,1,0,0,1,1,0,0,1,1,0,1,0] 1),(Zc prog 93 [1,1,0,1,0,1,0,1,0,1,0,0,1,1,0,0,1,1,0,1,0] 1),(some 0),[],⟨Yj [(2,(.ptr 1 0)),(4,(.ptr 2 0)),(5,(.ptr 3 0)),(6,(.ptr 4 0)),(7,(.ptr 6 0)),(8,(.dat (Zm (cvT aA)).length (Zz (Zm (cvT aA))))),(26,(.sl 7 1 1 (.ex 1))),(27,(ii 1)),(28,(ii 0)),(35,(.dat aG.length (Zz aG)))],z6q [(1,⟨[(.fn (nRg q) [])],101,none⟩),(2,⟨[.nils],33,none⟩),(3,⟨[(ii 0)],24,none⟩),(4,⟨[(.sla 5 6 0 aF.length (.un 6)),(.dat aN.length (Zz aN)),(ii aY),(ii aZ)],179,none⟩),(5,⟨Yk aF.length (Zz aF),57,some ⟨6,aF.length,(Zz aF)⟩⟩),(6,⟨[(ii aM),(ii aX),(.sl 7 0 2 (.ex 2))],184,none⟩),(7,⟨[(.dat aA.length (Zz aA)),(.dat aG.length (Zz aG))],80,none⟩),(8,⟨[(.sla 9 1 0 aE (.un 1))],125,none⟩),(9,⟨Yk aH.length (Zz aH),3,some ⟨1,aH.length,(Zz aH)⟩⟩),(10,⟨[(.sl 11 0 2 (.un 1))],177,none⟩),(11,⟨[(.dat l0.length (Zz l0)),(.dat l1.length (Zz l1))],32,none⟩)],12,[],true⟩,[⟨⟨86,0,true⟩,(Vk prog 162 [1,0,0,1,0,0,1,1,0] 2),(Zc prog 162 [1,0,0,1,0,0,1,1,0] 1),none,[],Yj [(0,(.yld 0)),(1,(.ptr 8 0)),(2,(.ptr 10 0)),(4,(ii v4)),(82,(.yld 0)),(83,(.agg [(ii aM),(ii aX),(.sl 7 0 2 (.ex 2))]))]⟩,⟨⟨65,0,true⟩,none,(.inRangeFunc 0::(Zc prog 93 [1,1,0,1,0] 1)),none,(Zy prog 93),Yj [(4,(.ptr 2 0)),(5,(.ptr 3 0)),(6,(.ptr 4 0))]⟩,⟨⟨27,0,true⟩,(Vk prog 66 [1,1,1,0] 4),(Zc prog 66 [1,1,1,0] 1),none,(Zy prog 10),Yj [(20,(.agg [(.fn (nRg q) [])])),(23,(.sl 11 0 2 (.un 1)))]⟩,⟨⟨12,0,true⟩,(Vk prog (nSl q) [1,0] 3),(Zc prog (nSl q) [1,0] 1),none,(Zy prog 16),Yj [(6,(.dat l0.length (Zz l0))),(7,(.dat l1.length (Zz l1))),(8,(.agg [(.fn (nRg q) [])]))]⟩],(y1k [(0,⟨.busy,none,65,Yj [(2,(.ptr 1 0)),(4,(.ptr 2 0)),(5,(.ptr 3 0)),(6,(.ptr 4 0))],[15],(Wc prog 93 [1,1,0,1,0,0]),(Wc prog 93 [1,1,0,1,0,1])⟩)])⟩) 46 [] ⟨[0,1,2,3,4,5,6,7,9,10,11,12],[8],[some [2,4,5,6,7,8,26,27,28,35],some [0,1,2,4,82,83],some [4,5,6],some [20,23],some [6,7,8]],[some [2,4,5,6],none,none,none,none,none,none,none,none,none,none,none]⟩ ⟨[(35,.frz aG.length aG.length (Zz aG) (Zz aG))],[.keep,.keep,.keep,.keep,.keep,.keep,.keep,.cells [.keep,.frz aG.length aG.length (Zz aG) (Zz aG)],.keep,.keep,.keep,.keep],[]⟩ (bl 2 3) (pp (xZ (z1o 4 4 0 aG.length aG.length (Zz aG)) aG.length (Zz aG)) (pp (xL aG.length aG.length) (pp (xS aG.length (Zz aG) (Zz aG)) (pp (xZ (z1o 4 4 0 aG.length aG.length (Zz aG)) aG.length (Zz aG)) (pp (xL aG.length aG.length) (pp (xS aG.length (Zz aG) (Zz aG)) (pp (fl aF (fl aH nn)) (pp (fl aG nn) (tt k1 (pp (pp (xr aA) (xw aI)) nn))))))))))) (lo fun bS=>(lb (fun k2=>(lo fun cE=>(lb (fun k3=>(lr 12 3 [1,1,1,1,0] 1 16 [(4,.nils),(5,(ii ((w7l q) (cvT (Zm (cvT aA))) (cvT (Zm (cvT aG))))))] (sl Jn 69 [] ⟨[],[],[some [4,5]],[]⟩ ⟨[],[],[]⟩ (bl 4 13) (tt k3 (pp (pp (xI R4 (Zm (cvT aA)).length (Zz (Zm (cvT aA)))) (pp (xI R4 (Zm (cvT aG)).length (Zz (Zm (cvT aG)))) (xw cE))) (tt k2 (pp (pp (xr aG) (xw bS)) nn))))))) (fun k3=>(lb (fun k4=>(lb (fun k5=>(lo fun cX=>(lb (fun k6=>(sl Jn 88 [] ⟨[4,5,0,1,2,3,8,9,10,11,7],[],sljN6,sljM6⟩ ⟨[],[],[]⟩ (bl 16 65529) (pp (fl aF (fl aH nn)) (tt k6 (pp (pp (xr aN) (pp (xI R4 ((z4e q) (cvT (Zm (cvT aA))) (cvT (Zm (cvT aG)))).length (Zz ((z4e q) (cvT (Zm (cvT aA))) (cvT (Zm (cvT aG)))))) (xw cX))) (tt k5 (tt k4 (tt k3 (pp (pp (xI R4 (Zm (cvT aA)).length (Zz (Zm (cvT aA)))) (pp (xI R4 (Zm (cvT aG)).length (Zz (Zm (cvT aG)))) (xw cE))) (tt k2 (pp (pp (xr aG) (xw bS)) nn))))))))))) (fun k6=>(sl Jn 108 [] ⟨[4,0,1,2,3,8,9,10,11,7,5],[],v7r,v7u⟩ ⟨[],[],[]⟩ (bl 16 32761) (pp (fl aH (fl aF nn)) (tt k6 (pp (pp (xr aN) (pp (xI R4 ((z4e q) (cvT (Zm (cvT aA))) (cvT (Zm (cvT aG)))).length (Zz ((z4e q) (cvT (Zm (cvT aA))) (cvT (Zm (cvT aG)))))) (xw cX))) (tt k5 (tt k4 (tt k3 (pp (pp (xI R4 (Zm (cvT aA)).length (Zz (Zm (cvT aA)))) (pp (xI R4 (Zm (cvT aG)).length (Zz (Zm (cvT aG)))) (xw cE))) (tt k2 (pp (pp (xr aG) (xw bS)) nn)))))))))))))) (fun k5=>(sl Jn 108 [] ⟨[4,0,1,2,3,8,9,10,11,7,5],[],v7r,v7u⟩ ⟨[],[],[]⟩ (bl 16 505) (pp (fl aH (fl aF nn)) (tt k5 (tt k4 (tt k3 (pp (pp (xI R4 (Zm (cvT aA)).length (Zz (Zm (cvT aA)))) (pp (xI R4 (Zm (cvT aG)).length (Zz (Zm (cvT aG)))) (xw cE))) (tt k2 (pp (pp (xr aG) (xw bS)) nn))))))))))) (fun k4=>(sl Jn 108 [] ⟨[4,0,1,2,3,8,9,10,11,7,5],[],v7r,v7u⟩ ⟨[],[],[]⟩ (bl 16 1) (pp (fl aH (fl aF nn)) (tt k4 (tt k3 (pp (pp (xI R4 (Zm (cvT aA)).length (Zz (Zm (cvT aA)))) (pp (xI R4 (Zm (cvT aG)).length (Zz (Zm (cvT aG)))) (xw cE))) (tt k2 (pp (pp (xr aG) (xw bS)) nn))))))))))))) (fun k2=>(lr 12 3 [1,1,1,1,0] 1 16 [(4,.nils),(5,(ii (Yo (cvT aG))))] (sl Jn 58 [] ⟨[],[],[some [4,5]],[]⟩ ⟨[],[],[]⟩ (bl 4 12) (yt (bne_f k2) (tt k2 (pp (pp (xr aG) (xw bS)) nn)))))))))) (fun k1=>(lr 12 3 [1,1,1,1,0] 1 16 [(4,.nils),(5,(ii (Yo (cvT aA))))] (sl Jn 84 [] ⟨[],[],[some [4,5]],[]⟩ ⟨[],[],[]⟩ (bl 5 25) (yt (bne_f k1) (tt k1 (pp (pp (xr aA) (xw aI)) nn)))))))))))
 | .h5 v1 v2 v72 v73 v74 aV aD bA aE aH aM aX=>(lb (fun k0=>(lo fun o0=>(lo fun o1=>(sl Jn 23 [] ⟨[0,1,2,3,4,5,6,7,8,9,13],[],v7r,v7u⟩ ⟨[],[.cells [.len (y7u aD v72 v74 v1 v2).length,.keep,.keep,.keep],.keep,.keep,.keep,.keep,.keep,.keep,.keep,.keep,.keep,.rowed 6 (y7u aD v72 v74 v1 v2).length (Zz (y7u aD v72 v74 v1 v2))],[]⟩ [true] (pp (xL (aD.length+1) (y7u aD v72 v74 v1 v2).length) (pp (xL (aD.length+1) (y7u aD v72 v74 v1 v2).length) (pp (xS (aD.length+1) (Zh (Zz aD) 0 aD.length 6 [(ii (rd v72 (tn v74)).a),(ii (rd v72 (tn v74)).b),(ii v1),(ii (rd v72 (tn v74)).c),(ii (rd v72 (tn v74)).d),(ii v2)]) (Zz (y7u aD v72 v74 v1 v2))) (pp (fl aH (pp (xF (Zh (Zz aD) 0 aD.length 6 [(ii (rd v72 (tn v74)).a),(ii (rd v72 (tn v74)).b),(ii v1),(ii (rd v72 (tn v74)).c),(ii (rd v72 (tn v74)).d),(ii v2)])) nn)) (ww o1 (ww o0 (tt k0 nn))))))))))) (fun k0=>(sl Jn 22 [] ⟨[1,2,3,4,0,5,6,7,8,10],[],u9k,u9l⟩ ⟨[],[],[]⟩ (bl 2 0) (pp (fl aH (fl aD nn)) (tt k0 nn)))))
 | .h6 v2 v8 bR bJ aV aD bB bA bN bG bM aA aG=>(lb (fun k0=>(lo fun o0=>(lo fun o1=>(sl Jn 34 [] ⟨(List.range 11),[],sljN6,sljM6⟩ ⟨[],[.cells [.len (y7y aD v8 v2).length,.keep,.keep,.keep],.rowed 6 (y7y aD v8 v2).length (Zz (y7y aD v8 v2)),.keep,.keep,.keep,.keep,.keep,.keep,.keep,.keep,.keep],[]⟩ [true] (pp (xL aD.length (y7y aD v8 v2).length) (pp (xL aD.length (y7y aD v8 v2).length) (pp (xS aD.length (Yt (Zz aD) (0+(tn v8)) 5 [(ii v2)]) (Zz (y7y aD v8 v2))) (pp (pp (xF (Yt (Zz aD) (0+(tn v8)) 5 [(ii v2)])) (fl bM nn)) (ww o1 (ww o0 (tt k0 nn))))))))))) (fun k0=>(sl Jn 36 [] ⟨[2,3,4,5,0,6,7,8,9,1],[],u9k,u9l⟩ ⟨[],[],[]⟩ (bl 2 0) (pp (fl bM (fl aD nn)) (tt k0 nn)))))
theorem x6v (q:Op) (l0:List R6) (l1:List R6):Xy prog (Zy prog (nSl q)) (sljC q l0 l1) (Zg prog (nSl q) [(.dat l0.length (Zz l0)),(.dat l1.length (Zz l1))] true []) (y2b q l0 l1):=by cases q <;> exact (lo fun bH=>(lb (fun k0=>(lr 12 3 [1,1,1,1,0] 1 16 [(4,.nils),(5,(ii (Yx (cvT l0))))] (sl Jn 42 [] ⟨[],[],[some [4,5]],[]⟩ ⟨[],[],[]⟩ [true] (tt k0 (pp (pp (xr l0) (xw bH)) nn))))) (fun k0=>(lo fun aI=>(lb (fun k1=>(lr 12 3 [1,1,1,1,0] 1 16 [(4,.nils),(5,(ii (Yx (cvT l1))))] (sl Jn 56 [] ⟨[],[],[some [4,5]],[]⟩ ⟨[],[],[]⟩ [false,true] (tt k1 (pp (pp (xr l1) (xw aI)) (tt k0 (pp (pp (xr l0) (xw bH)) nn))))))) (fun k1=>(sl Jn 108 [(3,1,Zz ([]:List Int))] ⟨[6,1,7,2,3,4,5,8],[],sljN0,sljM0⟩ ⟨[],[.keep,.keep,.cells [.grow 7 1],.keep,.keep,.keep,.keep,.keep],[]⟩ [false,false,true] (pp (fl ([]:List Int) nn) (tt k1 (pp (pp (xr l1) (xw aI)) (tt k0 (pp (pp (xr l0) (xw bH)) nn))))))))))))
theorem v7q (q:Op) (l0:List R6) (l1:List R6) (n:Nat) (vs:List AVal) (h:Zr (Yh q l0 l1) n (y2b q l0 l1)=.ret vs):Uz prog (Zy prog (nSl q)) (Zg prog (nSl q) [(.dat l0.length (Zz l0)),(.dat l1.length (Zz l1))] true []) vs:=by have:=Zd (w6b q l0 l1) n _ (x6v q l0 l1);rwa [h] at this
theorem z9j (l:List R4):(Yo l == 0)= !(Yo l != 0):=by grind
def slS (q:Op) (a b:List R6) (x:Int):List R4:=rgJ q.k (Zm (D6.inn a x)) (Zm (D6.inn b x))
def slA (q:Op) (a b:List R6) (x:Int):Int:=bif Yo (D6.inn a x) != 0 then Yo (D6.inn a x) else bif Yo (D6.inn b x) != 0 then Yo (D6.inn b x) else rgE q (Zm (D6.inn a x)) (Zm (D6.inn b x))
theorem w3i {q:Op} {a b:List R4} (h:rgE q a b=0):y1j a=0∧y1j b=0∧(rgJ q.k a b).length ≤400:=by
 unfold rgE at h;cases g1:(y1j a != 0) with
 | true=>grind
 | false=>
  cases g2:(y1j b != 0) with
  | true=>grind
  | false=>
   rw [g1,g2,Aa,Aa] at h;unfold eJ at h;refine ⟨by grind,by grind,?_⟩;revert h;generalize y1l (rgA q a b) _ _ _=e;intro h;cases g3:(e != 0) with
   | true=>grind
   | false=>simp_all [x2e]
theorem x0l {q:Op} {a b:List R6} {x:Int} (h:slA q a b x=0):Yo (D6.inn a x)=0∧Yo (D6.inn b x)=0∧rgE q (Zm (D6.inn a x)) (Zm (D6.inn b x))=0:=by
 grind [slA]
theorem u9n (q:Op) (a b:List R6) (x:Int) (h:(slA q a b x != 0)=false):(slS q a b x).length ≤1000:=
 AE (w3i (x0l (by simpa using h)).2.2).2.2 (by omega)
section
variable (q:Op) (a b:List R6) (ha:a.length≤400) (hb:b.length≤400)
include ha hb
theorem u3v (i:Nat) (out:List R6) (last:List R4) (first fin x x':Int): ∀(k j:Nat) (acc:List R4),j+k=a.length→acc.length≤j→
  ∃n,∀N,Zr (Yh q a b) (N+n) (.to (.h3 (i:Int) (j:Int) out last first fin ((D6.cuts (a++b)).length) (Wd (Xr (D6.ends (a++b)))) x x' acc))=Zr (Yh q a b) N (.to (.h4 (i:Int) 0 out last first fin ((D6.cuts (a++b)).length) (Wd (Xr (D6.ends (a++b)))) x x' (acc++D6.inn (a.drop j) x) []))
 | 0,j,acc,h,h'=>by
  have _u:=ha;have _v:=hb;refine ⟨1,fun N=> ?_⟩;rw [As (by omega),show D6.inn ([]:List R6) x=[] from rfl,AB,Zw]
  grind [Yh]
 | k+1,j,acc,h,h'=>by
  have hj:j<a.length:=by omega
  obtain ⟨n,hn⟩:=u3v i out last first fin x x' k (j+1) (acc++D6.inn [rd a j] x) (by omega) (by have:=D6.inn_length [rd a j] x;grind)
  refine ⟨n+1,fun N=> ?_⟩;have e:D6.inn (a.drop j) x=D6.inn [rd a j] x++D6.inn (a.drop (j+1)) x:=by rw [Yg hj,←D6.inn_append];rfl
  rw [e,←AG,Zw,←AI,←hn N];by_cases h1:D6.lo (rd a j)≤x
  ·by_cases h2:x<D6.hi (rd a j)
   ·rw [D6.inn_t _ _ h1 h2];simp only [D6] at h1 h2 ⊢;simp (disch:=omega) only [Yh,Xo,Zb,Zp,Zs,Zn,Ya,Yv,Yu,Ze,Zj,Zx,Yp,Zk,Af,Ao,Ah,Ai,Ab,Aa]
   ·rw [D6.inn_f2 _ _ h2,AB];simp only [D6] at h1 h2;simp (disch:=omega) only [Yh,Xo,Yb,Zb,Zp,Zs,Zn,Ya,Yv,Yu,Ze,Zj,Zx,Yp,Zk,Af,Ao,Ah,Ai,Ab,Aa]
  ·rw [D6.inn_f1 _ _ h1,AB];simp only [D6] at h1;simp (disch:=omega) only [Yh,w0y,Zb,Zp,Zs,Zn,Ya,Yv,Yu,Ze,Zj,Zx,Yp,Zk,Af,Ao,Ah,Ai,Ab,Aa]
theorem u3u (i:Nat) (out:List R6) (last:List R4) (first fin x x':Int) (o1:List R4): ∀(k j:Nat) (acc:List R4),j+k=b.length→acc.length≤j→
  ∃n,∀N,Zr (Yh q a b) (N+n) (.to (.h4 (i:Int) (j:Int) out last first fin ((D6.cuts (a++b)).length) (Wd (Xr (D6.ends (a++b)))) x x' o1 acc))=Zr (Yh q a b) N (.to (.h4 (i:Int) (b.length:Int) out last first fin ((D6.cuts (a++b)).length) (Wd (Xr (D6.ends (a++b)))) x x' o1 (acc++D6.inn (b.drop j) x)))
 | 0,j,acc,h,h'=>by have _u:=ha;have _v:=hb;refine ⟨0,fun N=> ?_⟩;rw [As (by omega),show D6.inn ([]:List R6) x=[] from rfl,AB,Bh,show j=b.length by omega]
 | k+1,j,acc,h,h'=>by
  have hj:j<b.length:=by omega
  obtain ⟨n,hn⟩:=u3u i out last first fin x x' o1 k (j+1) (acc++D6.inn [rd b j] x) (by omega) (by have:=D6.inn_length [rd b j] x;grind)
  refine ⟨n+1,fun N=> ?_⟩;have e:D6.inn (b.drop j) x=D6.inn [rd b j] x++D6.inn (b.drop (j+1)) x:=by rw [Yg hj,←D6.inn_append];rfl
  rw [e,←AG,Zw,←AI,←hn N];by_cases h1:D6.lo (rd b j)≤x
  ·by_cases h2:x<D6.hi (rd b j)
   ·rw [D6.inn_t _ _ h1 h2];simp only [D6] at h1 h2 ⊢;simp (disch:=omega) only [Yh,Xo,Zb,Zp,Zs,Zn,Ya,Yv,Yu,Ze,Zj,Zx,Yp,Zk,Af,Ao,Ah,Ai,Ab,Aa]
   ·rw [D6.inn_f2 _ _ h2,AB];simp only [D6] at h1 h2;simp (disch:=omega) only [Yh,Xo,Yb,Zb,Zp,Zs,Zn,Ya,Yv,Yu,Ze,Zj,Zx,Yp,Zk,Af,Ao,Ah,Ai,Ab,Aa]
  ·rw [D6.inn_f1 _ _ h1,AB];simp only [D6] at h1;simp (disch:=omega) only [Yh,w0y,Zb,Zp,Zs,Zn,Ya,Yv,Yu,Ze,Zj,Zx,Yp,Zk,Af,Ao,Ah,Ai,Ab,Aa]
theorem u3t (i:Nat) (hi:i≤2000) (x x':Int) (s:List R4) (first:Int) (o1 o2:List R4) (hs:s.length≤1000): ∀(k j:Nat) (out:List R6),j+k=s.length→out.length≤10000000+j→
  ∃n,∀N,Zr (Yh q a b) (N+n) (.to (.h5 x x' s (s.length:Int) (j:Int) (i:Int) out first ((D6.cuts (a++b)).length) (Wd (Xr (D6.ends (a++b)))) o1 o2))=Zr (Yh q a b) N (.to (.h2 ((i+1:Nat):Int) (out++(s.drop j).map (D6.put x x')) s first x' ((D6.cuts (a++b)).length) (Wd (Xr (D6.ends (a++b))))))
 | 0,j,out,h,ho=>by
  have _u:=ha;have _v:=hb;refine ⟨1,fun N=> ?_⟩
  grind [Zw,Yh,Zj]
 | k+1,j,out,h,ho=>by
  obtain ⟨n,hn⟩:=u3t i hi x x' s first o1 o2 hs k (j+1) (out++[D6.put x x' (rd s j)]) (by omega) (by simp;omega)
  refine ⟨n+1,fun N=> ?_⟩;have:=hn N;rw [Yg (show j<s.length by omega),A2,←AG,Zw];simp (disch:=omega) only [Yh,Zb,Zp,Zs,Zn,Ya,Yv,Yu,Ze,Zj,Zx,Yp,Zk,Af,Ao,Ah,Ai,Ab,Aa];rw [AI] at this;exact this
theorem u3s (i:Nat) (hi:i≤2000) (x x' fin:Int) (s last:List R4) (first:Int) (o1 o2:List R4): ∀(k j:Nat) (out:List R6),j+k=out.length→out.length≤10000000→
  ∃n,∀N,Zr (Yh q a b) (N+n) (.to (.h6 x' (j:Int) x s (i:Int) out last first fin ((D6.cuts (a++b)).length) (Wd (Xr (D6.ends (a++b)))) o1 o2))=Zr (Yh q a b) N (.to (.h2 ((i+1:Nat):Int) (D6.grow out j x') last first x' ((D6.cuts (a++b)).length) (Wd (Xr (D6.ends (a++b))))))
 | 0,j,out,h,ho=>by
  have _u:=ha;have _v:=hb;refine ⟨1,fun N=> ?_⟩;rw [D6.grow_nil _ _ _ (by omega),Zw]
  grind [Yh,Zj]
 | k+1,j,out,h,ho=>by
  obtain ⟨n,hn⟩:=u3s i hi x x' fin s last first o1 o2 k (j+1) (out.set j (D6.ext x' (rd out j))) (by simp;omega) (by grind)
  refine ⟨n+1,fun N=> ?_⟩;have:=hn N;rw [D6.grow_set out j _ (by omega)] at this;rw [←AG,Zw];simp (disch:=omega) only [Yh,Zb,Zp,Zs,Zn,Ya,Yv,Yu,Ze,Zj,Zx,Yp,Zk,Af,Ao,Ah,Ai,Ab,Aa];exact this
theorem v1e : ∀(k i:Nat) (s:Sw R6 R4),k=(D6.cuts (a++b)).length - 1 - i→i≤(D6.cuts (a++b)).length →s.out.length≤i*1000→s.last.length≤1000→s.first≤s.out.length→
  ∃n,Zr (Yh q a b) n (.to (.h2 ((i+1:Nat):Int) s.out s.last (s.first:Int) s.fin ((D6.cuts (a++b)).length) (Wd (Xr (D6.ends (a++b))))))=.ret (z8y (eJ (y1l (slA q a b) (D6.cuts (a++b)) k i) (D6.goS (slS q a b) (D6.cuts (a++b)) k i s).out.length) (D6.goS (slS q a b) (D6.cuts (a++b)) k i s).out)
 | 0,i,s,h,hi,ho,hla,hf=>by
  have _u:=ha;have _v:=hb;have hc:=D6.cuts_length (a++b);refine ⟨1,?_⟩;rw [Zw,show D6.goS (slS q a b) (D6.cuts (a++b)) 0 i s=s from rfl,show y1l (slA q a b) (D6.cuts (a++b)) 0 i=0 from rfl,w3j]
  grind [Ki,Yh,Zq]
 | k +1,i,s,h,hi,ho,hla,hf=>by
  have hc:=D6.cuts_length (a++b);rw [AO] at hc;have hi1:i+1<(D6.cuts (a++b)).length :=by omega
  have hpl:(Wd (Xr (D6.ends (a++b)))).length =2*(a.length+b.length):=by rw [Jf,Jz,D6.ends_length,AO]
  have r0:rd (Wd (Xr (D6.ends (a++b)))) i=rd (D6.cuts (a++b)) i:=z5r _ _ (by show i<(D6.cuts (a++b)).length;omega);have r1:rd (Wd (Xr (D6.ends (a++b)))) (i+1)=rd (D6.cuts (a++b)) (i+1):=z5r _ _ (by show i+1<(D6.cuts (a++b)).length;omega);have hbig:i*1000≤2000*1000:=AC _ (by omega);have hgo:D6.goS (slS q a b) (D6.cuts (a++b)) (k+1) i s=D6.goS (slS q a b) (D6.cuts (a++b)) k (i+1) (D6.oneS (slS q a b (rd (D6.cuts (a++b)) i)) (rd (D6.cuts (a++b)) i) (rd (D6.cuts (a++b)) (i+1)) s):=rfl;have hfe: ∀x,x=rd (D6.cuts (a++b)) i→(slA q a b x != 0)=false→y1l (slA q a b) (D6.cuts (a++b)) (k+1) i=y1l (slA q a b) (D6.cuts (a++b)) k (i+1):=fun x hx z=>by
   show (bif slA q a b (rd (D6.cuts (a++b)) i) != 0 then _ else _)=_
   grind
  revert hgo hfe r0;generalize hx:rd (D6.cuts (a++b)) i=x;generalize hx':rd (D6.cuts (a++b)) (i+1)=x' at r1;intro r0 hgo hfe;obtain ⟨n3,h3⟩:=u3v q a b ha hb (i+1) s.out s.last (s.first:Int) s.fin x x' a.length 0 [] (Af _) (Aq _);simp only [AT,A8,z2b] at h3;obtain ⟨n4,h4⟩:=u3u q a b ha hb (i+1) s.out s.last (s.first:Int) s.fin x x' (D6.inn a x) b.length 0 [] (Af _) (Aq _);simp only [AT,A8,z2b] at h4;have st0: ∀N,Zr (Yh q a b) (N+n4+n3+1) (.to (.h2 ((i+1:Nat):Int) s.out s.last (s.first:Int) s.fin ((D6.cuts (a++b)).length) (Wd (Xr (D6.ends (a++b))))))=Zr (Yh q a b) N (.to (.h4 ((i+1:Nat):Int) (b.length:Int) s.out s.last (s.first:Int) s.fin ((D6.cuts (a++b)).length) (Wd (Xr (D6.ends (a++b)))) x x' (D6.inn a x) (D6.inn b x))):=fun N=>by
   rw [←h4 N,←h3 (N+n4),Zw];have e1:wrap .i64 (((i+1:Nat):Int) - 1)=(i:Int):=by rw [Zo];exact Zj (by omega)
   simp (disch:=omega) only [Yh,e1,r0,r1,Zb,Zp,Zs,Zn,Ya,Yv,Yu,Ze,Zj,Zx,Yp,Zk,Af,Ao,Ah,Ai,Ab,Aa]
  have w1:Uu (D6.inn a x)=true:=rfl;have w3:Uu (D6.inn b x)=true:=rfl;have w4:y3b q (Zm (D6.inn a x)) (Zm (D6.inn b x))=true:=rfl;rcases Yy (slA q a b x != 0) with z | z
  ·refine ⟨1+n4+n3+1,?_⟩;rw [st0 1,Zw];have e:y1l (slA q a b) (D6.cuts (a++b)) (k+1) i=slA q a b x:=by show (bif slA q a b (rd (D6.cuts (a++b)) i) != 0 then slA q a b (rd (D6.cuts (a++b)) i) else _)=_;grind
   rw [e,show eJ (slA q a b x) _=slA q a b x by unfold eJ;rw [z];rfl,Vv _ z];unfold slA at z ⊢;rcases Yy (Yo (D6.inn a x) != 0) with y1 | y1
   ·simp (disch:=omega) only [Yh,Yb,z9j,y1,Aw,w1,w3,w4,Zb,Zp,Zs,Zn,Ya,Yv,Yu,Ze,Zj,Zx,Yp,Zk,Af,Ao,Ah,Ai,Ab,Aa,Zq]
   ·rcases Yy (Yo (D6.inn b x) != 0) with y2 | y2
    ·simp (disch:=omega) only [Yh,Yb,z9j,y1,y2,Aw,Ay,w1,w3,w4,Zb,Zp,Zs,Zn,Ya,Yv,Yu,Ze,Zj,Zx,Yp,Zk,Af,Ao,Ah,Ai,Ab,Aa,Zq]
    ·rw [y1,y2,Aa,Aa] at z;have z':(w7l q (Zm (D6.inn a x)) (Zm (D6.inn b x)) != 0)=true:=z;simp (disch:=omega) only [Yh,Yb,z9j,y1,y2,z',Ay,w1,w3,w4,Zb,Zp,Zs,Zn,Ya,Yv,Yu,Ze,Zj,Zx,Yp,Zk,Af,Ao,Ah,Ai,Ab,Aa,Zq];rfl
  obtain ⟨y1,y2,y3⟩:=x0l (show slA q a b x=0 by simpa using z);have y1:(Yo (D6.inn a x) == 0)=true:=by rw [y1];rfl
  have y2:(Yo (D6.inn b x) == 0)=true:=by rw [y2];rfl
  have z':(w7l q (Zm (D6.inn a x)) (Zm (D6.inn b x)) != 0)=false:=by show (rgE q _ _ != 0)=false;rw [y3];rfl
  have v:z4e q (Zm (D6.inn a x)) (Zm (D6.inn b x))=slS q a b x:=x5d _ z';have hsl:=u9n q a b x z;have w2:Xs s.last (slS q a b x)=true:=Al (by omega);rw [hgo,hfe x rfl z];have ol:(D6.oneS (slS q a b x) x x' s).out.length ≤s.out.length+(slS q a b x).length :=by
   grind [Dim.oneS,Dim.grow_length]
  rcases Yy (decide (0<(slS q a b x).length)&&((s.fin == x)&&D6.same s.last (slS q a b x))) with g | g
  ·obtain ⟨n6,h6⟩:=u3s q a b ha hb (i+1) (by omega) x x' s.fin (slS q a b x) s.last (s.first:Int) (D6.inn a x) (D6.inn b x) (s.out.length - s.first) s.first s.out (by omega) (by omega)
   have e:D6.oneS (slS q a b x) x x' s=⟨D6.grow s.out s.first x',s.last,s.first,x'⟩:=by unfold Dim.oneS;rw [g];rfl
   obtain ⟨n0,h0⟩:=v1e k (i+1) (D6.oneS (slS q a b x) x x' s) (by omega) (by omega) (by omega) (by grind) (by grind [Dim.grow_length]);refine ⟨n0+n6+1+n4+n3+1,?_⟩;rw [st0 (n0+n6+1),Zw];simp only [Ac,At] at g;obtain ⟨g1,g2,g3⟩:=g;have g3':Vw s.last (slS q a b x)=true:=g3;simp (disch:=omega) only [Yh,Yb,Yn,y1,y2,z',v,g2,g3',w1,w3,w4,w2,Zb,Zp,Zs,Zn,Ya,Yv,Yu,Ze,Zj,Zx,Yp,Zk,Af,Ao,Ah,Ai,Ab,Aa]
   grind
  ·obtain ⟨n5,h5⟩:=u3t q a b ha hb (i+1) (by omega) x x' (slS q a b x) (s.out.length:Int) (D6.inn a x) (D6.inn b x) hsl (slS q a b x).length 0 s.out (Af _) (by omega);simp only [AT,z2b] at h5;have e:D6.oneS (slS q a b x) x x' s=⟨s.out++(slS q a b x).map (D6.put x x'),slS q a b x,s.out.length,x'⟩:=by unfold Dim.oneS;rw [g];rfl
   obtain ⟨n0,h0⟩:=v1e k (i+1) (D6.oneS (slS q a b x) x x' s) (by omega) (by omega) (by omega) (by grind) (by rw [e];simp);have hg:Zr (Yh q a b) 1 (.to (.h4 ((i+1:Nat):Int) (b.length:Int) s.out s.last (s.first:Int) s.fin ((D6.cuts (a++b)).length) (Wd (Xr (D6.ends (a++b)))) x x' (D6.inn a x) (D6.inn b x)))=.to (.h5 x x' (slS q a b x) ((slS q a b x).length :Int) 0 ((i+1:Nat):Int) s.out (s.out.length:Int) ((D6.cuts (a++b)).length) (Wd (Xr (D6.ends (a++b)))) (D6.inn a x) (D6.inn b x)):=by
    rw [show (1:Nat)=0+1 from rfl,Zw];have e3:D6.same s.last (slS q a b x)=Vw s.last (slS q a b x):=rfl;rw [e3] at g;by_cases g1:0<(slS q a b x).length
    ·rw [Al g1,Ai] at g;rcases Yy (s.fin == x) with g2 | g2
     ·rw [g2,Ai] at g;simp (disch:=omega) only [Yh,Yb,Yn,y1,y2,z',v,g2,g,w1,w3,w4,w2,Zb,Zp,Zs,Zn,Ya,Yv,Yu,Ze,Zj,Zx,Yp,Zk,Af,Ao,Ah,Ai,Ab,Aa];rfl
     ·simp (disch:=omega) only [Yh,Yb,Yn,y1,y2,z',v,g2,w1,w3,w4,w2,Zb,Zp,Zs,Zn,Ya,Yv,Yu,Ze,Zj,Zx,Yp,Zk,Af,Ao,Ah,Ai,Ab,Aa];rfl
    ·simp (disch:=omega) only [Yh,Yb,Xi,y1,y2,z',v,w1,w3,w4,w2,Zb,Zp,Zs,Zn,Ya,Yv,Yu,Ze,Zj,Zx,Yp,Zk,Af,Ao,Ah,Ai,Ab,Aa];rfl
   refine ⟨n0+n5+1+n4+n3+1,?_⟩;simp_all [z4k]
theorem u3w : ∀(k i:Nat) (acc:List Int),i+k=b.length→acc=D6.ends (a++b.take i)→ ∃n,Zr (Yh q a b) n (.to (.h1 (i:Int) acc))=.ret (z8y (eJ (y1l (slA q a b) (D6.cuts (a++b)) ((D6.cuts (a++b)).length - 1) 0) (D6.goS (slS q a b) (D6.cuts (a++b)) ((D6.cuts (a++b)).length - 1) 0 ⟨[],[],0,0⟩).out.length) (D6.goS (slS q a b) (D6.cuts (a++b)) ((D6.cuts (a++b)).length - 1) 0 ⟨[],[],0,0⟩).out)
 | 0,i,acc,h,h'=>by
  have _u:=ha;have _v:=hb;have e:acc=D6.ends (a++b):=by grind
  subst e;have hle:=D6.ends_length (a++b);rw [AO] at hle;obtain ⟨n,hn⟩:=v1e q a b ha hb ((D6.cuts (a++b)).length - 1) 0 ⟨[],[],0,0⟩ (by omega) (AA _) (AA _) (AA _) (AA _);refine ⟨n+1,?_⟩;rw [Zw];simp (disch:=omega) only [Yh,Ks,z1v,y6c,Yb,Yv,Yu,Ao,Ab,Aa];exact hn
 | k+1,i,acc,h,h'=>by
  have hle:acc.length≤2*(400+i):=by rw [h',D6.ends_length];grind
  obtain ⟨n,hn⟩:=u3w k (i+1) (acc++D6.ends [rd b i]) (by omega) (by
   rw [h',A0]
   grind [Xz,Dim.ends])
  refine ⟨n+1,?_⟩;rw [Zw];simp (disch:=omega) only [Yh,Zb,Zp,Zs,Zn,Ya,Yv,Yu,Ze,Zj,Zx,Yp,Zk,Af,Ao,Ah,Ai,Ab,Aa];exact hn
theorem u3x : ∀(k i:Nat) (acc:List Int),i+k=a.length→acc=D6.ends (a.take i)→ ∃n,Zr (Yh q a b) n (.to (.h0 (i:Int) acc))=.ret (z8y (eJ (y1l (slA q a b) (D6.cuts (a++b)) ((D6.cuts (a++b)).length - 1) 0) (D6.goS (slS q a b) (D6.cuts (a++b)) ((D6.cuts (a++b)).length - 1) 0 ⟨[],[],0,0⟩).out.length) (D6.goS (slS q a b) (D6.cuts (a++b)) ((D6.cuts (a++b)).length - 1) 0 ⟨[],[],0,0⟩).out)
 | 0,i,acc,h,h'=>by
  have _u:=ha;have _v:=hb;obtain ⟨n,hn⟩:=u3w q a b ha hb b.length 0 acc (Af _) (by grind);refine ⟨n+1,?_⟩
  grind [Zw,Yh]
 | k+1,i,acc,h,h'=>by
  have hle:acc.length≤2*(400+i):=by rw [h',D6.ends_length];grind
  obtain ⟨n,hn⟩:=u3x k (i+1) (acc++D6.ends [rd a i]) (by omega) (by
   rw [h',A0]
   grind [Xz,Dim.ends])
  refine ⟨n+1,?_⟩;rw [Zw];simp (disch:=omega) only [Yh,Zb,Zp,Zs,Zn,Ya,Yv,Yu,Ze,Zj,Zx,Yp,Zk,Af,Ao,Ah,Ai,Ab,Aa];exact hn
end
def slJ (q:Op) (a b:List R6):List R6:=(D6.goS (slS q a b) (D6.cuts (a++b)) ((D6.cuts (a++b)).length - 1) 0 ⟨[],[],0,0⟩).out
def slE (q:Op) (a b:List R6):Int:=bif Yx a != 0 then Yx a else bif Yx b != 0 then Yx b else eJ (y1l (slA q a b) (D6.cuts (a++b)) ((D6.cuts (a++b)).length - 1) 0) (slJ q a b).length
def z2i (q:Op) (a b:List R6):List R6:=y7f (slE q a b) (slJ q a b)
def z3r (q:Op) (a b:List R6):Int:=slE q a b
def z4s (q:Op) (a b:List R6):Bool:=true
theorem z4u {l:List R6} (h:(Yx l != 0)=false):l.length≤400:=by
 grind [Yx]
theorem sl_run (q:Op) (a b:List R6) (h:z4s q a b=true): ∃n,Zr (Yh q a b) n (y2b q a b)=.ret (z8y (slE q a b) (slJ q a b)):=by
 unfold y2b;have o: ∀l,Vi l=true:=fun _=>rfl;simp only [Zb,o,Ab];rcases Yy (Yx a != 0) with q1 | q1
 ·exact ⟨0,by simp only [slE,q1,Ab,Vv _ q1];rfl⟩
 rcases Yy (Yx b != 0) with q2 | q2
 ·exact ⟨0,by simp only [slE,q1,q2,Ab,Aa,Vv _ q2];rfl⟩
 obtain ⟨n,hn⟩:=u3x q a b (z4u q1) (z4u q2) a.length 0 [] (Af _) rfl;refine ⟨n,?_⟩;simp only [slE,q1,q2,Aa];exact hn
def fSl (q:Op):List AVal→Option (AVal×Bool)
 | [a0,a1]=>match asL R6 a0,asL R6 a1 with
  | some (L0,g0,n0),some (L1,g1,n1)=>some (.tup [.dat (z2i q L0 L1).length (Zz (z2i q L0 L1)),.int .i64 (z3r q L0 L1)],isT R6 n0 g0&&(isT R6 n1 g1&&(z4s q L0 L1)))
  | _,_=>none
 | _=>none
theorem v5i (q:Op) {S:Specs} (hS:Zv prog S):Zv prog (S.with (nSl q) (fSl q)):=by
 refine x6d hS (by cases q <;> kernel_rfl) fun args v h=> ?_;unfold fSl at h;split at h
 ·rename_i a0 a1;split at h
  ·rename_i L0 g0 n0 L1 g1 n1 e0 e1;simp only [Ae,Ad,Ac] at h;obtain ⟨rfl,ho0,ho1,hw⟩:=h;obtain ⟨N,hN⟩:=sl_run q L0 L1 hw;exact ⟨_,_,(.cons (Yc e0 ho0) (.cons (Yc e1 ho1) .nil)),Qt _ _,v7q q L0 L1 N _ hN,3,z2n _ _⟩
  ·cases h
 ·cases h
structure R7 where
 (a b c d e f g:Int)
instance : Xk R7 where
 w:=7
 d:=⟨0,0,0,0,0,0,0⟩
 cells x:=[.int .u8 x.a,.int .i64 x.b,.int .i64 x.c,.int .i64 x.d,.int .i64 x.e,.int .i64 x.f,.int .i64 x.g]
 of l:=⟨iOf (l.getD 0 .undef),iOf (l.getD 1 .undef),iOf (l.getD 2 .undef),iOf (l.getD 3 .undef),iOf (l.getD 4 .undef),iOf (l.getD 5 .undef),iOf (l.getD 6 .undef)⟩
 len _:=rfl
 pos:=by decide
 flat _:=rfl
 sc _:=rfl
 back _:=rfl
inductive Ax where
 | x | y | z
structure Pa where
 (a b c d e f:Int)
 s:List R6
instance : Xk Pa where
 w:=7
 d:=⟨0,0,0,0,0,0,[]⟩
 cells x:=[.int .i64 x.a,.int .i64 x.b,.int .i64 x.c,.int .i64 x.d,.int .i64 x.e,.int .i64 x.f,.dat x.s.length (Zz x.s)]
 of l:=⟨iOf (l.getD 0 .undef),iOf (l.getD 1 .undef),iOf (l.getD 2 .undef),iOf (l.getD 3 .undef),iOf (l.getD 4 .undef),iOf (l.getD 5 .undef),match l.getD 6 .undef with
  | .dat n g=>lst R6 n g
  | _=>[]⟩
 len _:=rfl
 pos:=by decide
 flat _:=rfl
 sc _:=rfl
 back x:=by show Pa.mk x.a x.b x.c x.d x.e x.f (lst R6 x.s.length (Zz x.s))=x;rw [Zp]
abbrev u7j :Nat:=81
abbrev nFlat :Nat:=82
abbrev nBack :Nat:=80
abbrev w3w :Nat:=54
abbrev u7a :Nat:=56
abbrev nSCut :Nat:=47
abbrev x1h :Nat:=20
abbrev v4b :Nat:=44
abbrev nRvb :Nat:=60
abbrev nRcm :Nat:=61
abbrev nRib :Nat:=30
abbrev nRjn :Nat:=42
abbrev nRlc :Nat:=21
abbrev nRlw :Nat:=15
abbrev nRlq :Nat:=49
abbrev nRlm :Nat:=12
abbrev nRln :Nat:=9
abbrev nRlo :Nat:=11
abbrev u7d :Nat:=88
abbrev u7h :Nat:=87
abbrev u7c :Nat:=29
abbrev u6v :Nat:=43
abbrev u7b :Nat:=23
abbrev v4g :Nat:=26
abbrev w4e :Nat:=64
abbrev w4b :Nat:=37
def Va :Specs:=((Ud.with (nSl .u) (fSl .u)).with (nSl .e) (fSl .e)).with (nSl .d) (fSl .d)
theorem Xu :Zv prog Va:=v5i .d (v5i .e (v5i .u Jn))
inductive rinS where
def rinC (aJ:Int) (aL:Int) (aK:Int) (x1:Int):rinS→Cfg
 :=nofun
def x8a (aJ:Int) (aL:Int) (aK:Int) (x1:Int):rinS→Xx rinS
 :=nofun
def y2y (aJ:Int) (aL:Int) (aK:Int) (x1:Int):Xx rinS:=(bif (decide (aJ≥x1)) then (bif (decide (aL≥x1)) then (bif (decide (aK≥x1)) then (bif (decide (aJ≤1000000)) then (bif (decide (aL≤1000000)) then (.ret [(.bool (decide (aK≤1000000)))]) else (.ret [(.bool false)])) else (.ret [(.bool false)])) else (.ret [(.bool false)])) else (.ret [(.bool false)])) else (.ret [(.bool false)]))
theorem w7f (aJ:Int) (aL:Int) (aK:Int) (x1:Int): ∀s,Xy prog (Zy prog 26) (rinC aJ aL aK x1) (rinC aJ aL aK x1 s) (x8a aJ aL aK x1 s)
 :=nofun
theorem x8b (aJ:Int) (aL:Int) (aK:Int) (x1:Int):Xy prog (Zy prog 26) (rinC aJ aL aK x1) (Zg prog 26 [(.agg [(.int .i64 aJ),(.int .i64 aL),(.int .i64 aK)]),(.int .i64 x1)] true []) (y2y aJ aL aK x1):=(lb (fun k0=>(lb (fun k1=>(lb (fun k2=>(lb (fun k3=>(lb (fun k4=>(lr 36 3 [1,1,1,1,0] 1 6 [(4,(.bool (decide (aK≤1000000))))] (sl Xu 40 [] ⟨[],[],[some [4]],[]⟩ ⟨[],[],[]⟩ (trs 17 []) (tt k4 (tt k3 (tt k2 (tt k1 (tt k0 nn)))))))) (fun k4=>(lr 36 3 [1,1,1,1,0] 1 6 [(4,(.bool false))] (sl Xu 40 [] ⟨[],[],[some [4]],[]⟩ ⟨[],[],[]⟩ (trs 14 [false,false,false]) (tt k4 (tt k3 (tt k2 (tt k1 (tt k0 nn)))))))))) (fun k3=>(lr 36 3 [1,1,1,1,0] 1 6 [(4,(.bool false))] (sl Xu 40 [] ⟨[],[],[some [4]],[]⟩ ⟨[],[],[]⟩ (trs 11 [false,false,false,false,false,false]) (tt k3 (tt k2 (tt k1 (tt k0 nn))))))))) (fun k2=>(lr 36 3 [1,1,1,1,0] 1 6 [(4,(.bool false))] (sl Xu 40 [] ⟨[],[],[some [4]],[]⟩ ⟨[],[],[]⟩ (trs 8 [false,false,false,false,false,false,false,false,false]) (tt k2 (tt k1 (tt k0 nn)))))))) (fun k1=>(lr 36 3 [1,1,1,1,0] 1 6 [(4,(.bool false))] (sl Xu 40 [] ⟨[],[],[some [4]],[]⟩ ⟨[],[],[]⟩ (trs 4 [false,false,false,false,false,false,false,false,false,false,false,false,false]) (tt k1 (tt k0 nn))))))) (fun k0=>(lr 36 3 [1,1,1,1,0] 1 6 [(4,(.bool false))] (sl Xu 40 [] ⟨[],[],[some [4]],[]⟩ ⟨[],[],[]⟩ [false,false,false,false,false,false,false,false,false,false,false,false,false,false,false,false,false] (tt k0 nn)))))
theorem v9m (aJ:Int) (aL:Int) (aK:Int) (x1:Int) (n:Nat) (vs:List AVal) (h:Zr (x8a aJ aL aK x1) n (y2y aJ aL aK x1)=.ret vs):Uz prog (Zy prog 26) (Zg prog 26 [(.agg [(.int .i64 aJ),(.int .i64 aL),(.int .i64 aK)]),(.int .i64 x1)] true []) vs:=by have:=Zd (w7f aJ aL aK x1) n _ (x8b aJ aL aK x1);rwa [h] at this
inductive crdS where
def crdC (aJ:Int) (aL:Int) (aK:Int) (x1:Int):crdS→Cfg
 :=nofun
def w1d (aJ:Int) (aL:Int) (aK:Int) (x1:Int):crdS→Xx crdS
 :=nofun
def y3q (aJ:Int) (aL:Int) (aK:Int) (x1:Int):Xx crdS:=(bif (x1 == 0) then (.ret [(.int .i64 aJ)]) else (bif (x1 == 1) then (.ret [(.int .i64 aL)]) else (.ret [(.int .i64 aK)])))
theorem w9f (aJ:Int) (aL:Int) (aK:Int) (x1:Int): ∀s,Xy prog (Zy prog 64) (crdC aJ aL aK x1) (crdC aJ aL aK x1 s) (w1d aJ aL aK x1 s)
 :=nofun
theorem w1e (aJ:Int) (aL:Int) (aK:Int) (x1:Int):Xy prog (Zy prog 64) (crdC aJ aL aK x1) (Zg prog 64 [(.agg [(.int .i64 aJ),(.int .i64 aL),(.int .i64 aK)]),(.int .i64 x1)] true []) (y3q aJ aL aK x1):=(lb (fun k0=>(lr 15 64 [1,0,1,0,0] 1 6 [(4,(ii aJ))] (sl Xu 18 [] ⟨[],[],[some [4]],[]⟩ ⟨[],[],[]⟩ [true] (tt k0 nn)))) (fun k0=>(lb (fun k1=>(lr 15 64 [1,1,0,1,0,0] 1 6 [(4,(ii aL))] (sl Xu 26 [] ⟨[],[],[some [4]],[]⟩ ⟨[],[],[]⟩ [false,true] (tt k1 (tt k0 nn))))) (fun k1=>(lr 15 3 [1,1,1,1,0] 1 6 [(4,(ii aK))] (sl Xu 27 [] ⟨[],[],[some [4]],[]⟩ ⟨[],[],[]⟩ [false,false] (tt k1 (tt k0 nn))))))))
theorem u2k (aJ:Int) (aL:Int) (aK:Int) (x1:Int) (n:Nat) (vs:List AVal) (h:Zr (w1d aJ aL aK x1) n (y3q aJ aL aK x1)=.ret vs):Uz prog (Zy prog 64) (Zg prog 64 [(.agg [(.int .i64 aJ),(.int .i64 aL),(.int .i64 aK)]),(.int .i64 x1)] true []) vs:=by have:=Zd (w9f aJ aL aK x1) n _ (w1e aJ aL aK x1);rwa [h] at this
inductive putS where
def putC (x0:Int) (x1:Int) (x2:Int) (x3:Int):putS→Cfg
 :=nofun
def x8w (x0:Int) (x1:Int) (x2:Int) (x3:Int):putS→Xx putS
 :=nofun
def y3e (x0:Int) (x1:Int) (x2:Int) (x3:Int):Xx putS:=(bif (x0 == 0) then (.ret [(.agg [(.int .i64 x1),(.int .i64 x2),(.int .i64 x3)])]) else (bif (x0 == 1) then (.ret [(.agg [(.int .i64 x2),(.int .i64 x1),(.int .i64 x3)])]) else (.ret [(.agg [(.int .i64 x2),(.int .i64 x3),(.int .i64 x1)])])))
theorem w7s (x0:Int) (x1:Int) (x2:Int) (x3:Int): ∀s,Xy prog (Zy prog 88) (putC x0 x1 x2 x3) (putC x0 x1 x2 x3 s) (x8w x0 x1 x2 x3 s)
 :=nofun
theorem x8x (x0:Int) (x1:Int) (x2:Int) (x3:Int):Xy prog (Zy prog 88) (putC x0 x1 x2 x3) (Zg prog 88 [(.int .i64 x0),(.int .i64 x1),(.int .i64 x2),(.int .i64 x3)] true []) (y3e x0 x1 x2 x3):=(lb (fun k0=>(Kp ⟨⟨26,0,true⟩,none,(Zc prog 3 [1,1,1,1,0] 1),none,(Zy prog 80),⟨Yj [(8,(.ptr 0 0))],Wn [⟨[(ii x1),(ii x2),(ii x3)],50,none⟩] 0,1,[],true⟩,[],.leaf⟩ (sl Xu 132 [] ⟨[0],[],[some [8]],[]⟩ ⟨[],[],[]⟩ [true,true,false,true,false,false] (tt k0 (tt k0 nn))) rfl (by kernel_rfl))) (fun k0=>(lb (fun k1=>(Kp ⟨⟨26,0,true⟩,none,(Zc prog 3 [1,1,1,1,0] 1),none,(Zy prog 80),⟨Yj [(8,(.ptr 0 0))],Wn [⟨[(ii x2),(ii x1),(ii x3)],50,none⟩] 0,1,[],true⟩,[],.leaf⟩ (sl Xu 140 [] ⟨[0],[],[some [8]],[]⟩ ⟨[],[],[]⟩ [false,true,false,true,true,false,false] (tt k1 (tt k0 (tt k1 (tt k0 nn))))) rfl (by kernel_rfl))) (fun k1=>(Kp ⟨⟨26,0,true⟩,none,(Zc prog 3 [1,1,1,1,0] 1),none,(Zy prog 80),⟨Yj [(8,(.ptr 0 0))],Wn [⟨[(ii x2),(ii x3),(ii x1)],50,none⟩] 0,1,[],true⟩,[],.leaf⟩ (sl Xu 141 [] ⟨[0],[],[some [8]],[]⟩ ⟨[],[],[]⟩ [false,false,false,false,true,false,true] (tt k1 (tt k0 (tt k1 (tt k0 nn))))) rfl (by kernel_rfl))))))
theorem u0m (x0:Int) (x1:Int) (x2:Int) (x3:Int) (n:Nat) (vs:List AVal) (h:Zr (x8w x0 x1 x2 x3) n (y3e x0 x1 x2 x3)=.ret vs):Uz prog (Zy prog 88) (Zg prog 88 [(.int .i64 x0),(.int .i64 x1),(.int .i64 x2),(.int .i64 x3)] true []) vs:=by have:=Zd (w7s x0 x1 x2 x3) n _ (x8x x0 x1 x2 x3);rwa [h] at this
inductive rh6S where
 | h0 (v5:Int)
def rh6C (l0:List R6) (aO:Int) (aQ:Int) (aP:Int):rh6S→Cfg
 | .h0 v5=>⟨⟨18,0,true⟩,none,(Zc prog 29 [1,0,1,0,0] 0),none,(Zy prog 6),⟨Yj [(0,(.dat l0.length (Zz l0))),(3,(.ptr 0 0)),(5,(ii v5))],Wn [⟨[(ii aO),(ii aQ),(ii aP)],50,none⟩] 0,1,[],true⟩,[],.leaf⟩
def x8h :List (Option (List Nat)):=[some [0,3,5]]
def x8i :List (Option (List Nat)):=[]
def z6n (l0:List R6) (aO:Int) (aQ:Int) (aP:Int):rh6S→Xx rh6S
 | .h0 v5=>(bif (decide (v5<(l0.length:Int))) then (bif ((decide (0≤v5∧v5<(l0.length:Int)))&&true) then (bif (decide ((rd l0 v5.toNat).a ≤aO)) then (bif (decide (aO<(rd l0 v5.toNat).d)) then (bif (decide ((rd l0 v5.toNat).b ≤aQ)) then (bif (decide (aQ<(rd l0 v5.toNat).e)) then (bif (decide ((rd l0 v5.toNat).c ≤aP)) then (bif (decide (aP<(rd l0 v5.toNat).f)) then (.ret [(.bool true)]) else (.to (.h0 (wrap .i64 (v5+1))))) else (.to (.h0 (wrap .i64 (v5+1))))) else (.to (.h0 (wrap .i64 (v5+1))))) else (.to (.h0 (wrap .i64 (v5+1))))) else (.to (.h0 (wrap .i64 (v5+1))))) else (.to (.h0 (wrap .i64 (v5+1))))) else .stuck) else (.ret [(.bool false)]))
def x0z (l0:List R6) (aO:Int) (aQ:Int) (aP:Int):Xx rh6S:=(.to (.h0 0))
theorem w7h (l0:List R6) (aO:Int) (aQ:Int) (aP:Int): ∀s,Xy prog (Zy prog 29) (rh6C l0 aO aQ aP) (rh6C l0 aO aQ aP s) (z6n l0 aO aQ aP s)
 | .h0 v5=>(lb (fun k0=>(lo fun aI=>(lb (fun k1=>(lb (fun k2=>(lb (fun k3=>(lb (fun k4=>(lb (fun k5=>(lb (fun k6=>(lr 18 29 [1,0,1,0,0,1,0,0,1,0,0] 1 6 [(4,(.bool true))] (sl Xu 19 [] ⟨[],[],[some [4]],[]⟩ ⟨[],[],[]⟩ (trs 32 []) (tt k6 (tt k5 (tt k4 (tt k3 (tt k2 (tt k1 (ww aI (tt k0 nn))))))))))) (fun k6=>(sl Xu 23 [] ⟨[0],[],x8h,x8i⟩ ⟨[],[],[]⟩ (trs 31 [false]) (tt k6 (tt k5 (tt k4 (tt k3 (tt k2 (tt k1 (ww aI (tt k0 nn)))))))))))) (fun k5=>(sl Xu 23 [] ⟨[0],[],x8h,x8i⟩ ⟨[],[],[]⟩ (trs 25 (bl 7 0)) (tt k5 (tt k4 (tt k3 (tt k2 (tt k1 (ww aI (tt k0 nn))))))))))) (fun k4=>(sl Xu 23 [] ⟨[0],[],x8h,x8i⟩ ⟨[],[],[]⟩ (trs 19 (bl 13 0)) (tt k4 (tt k3 (tt k2 (tt k1 (ww aI (tt k0 nn)))))))))) (fun k3=>(sl Xu 23 [] ⟨[0],[],x8h,x8i⟩ ⟨[],[],[]⟩ (trs 13 (bl 19 0)) (tt k3 (tt k2 (tt k1 (ww aI (tt k0 nn))))))))) (fun k2=>(sl Xu 23 [] ⟨[0],[],x8h,x8i⟩ ⟨[],[],[]⟩ (trs 7 (bl 25 0)) (tt k2 (tt k1 (ww aI (tt k0 nn)))))))) (fun k1=>(sl Xu 23 [] ⟨[0],[],x8h,x8i⟩ ⟨[],[],[]⟩ (bl 32 1) (tt k1 (ww aI (tt k0 nn)))))))) (fun k0=>(lr 18 3 [1,1,1,1,0] 1 6 [(4,(.bool false))] (sl Xu 14 [] ⟨[],[],[some [4]],[]⟩ ⟨[],[],[]⟩ [false] (tt k0 nn)))))
theorem x8g (l0:List R6) (aO:Int) (aQ:Int) (aP:Int):Xy prog (Zy prog 29) (rh6C l0 aO aQ aP) (Zg prog 29 [(.dat l0.length (Zz l0)),(.agg [(.int .i64 aO),(.int .i64 aQ),(.int .i64 aP)])] true []) (x0z l0 aO aQ aP):=(sl Xu 12 [] ⟨[0],[],x8h,x8i⟩ ⟨[],[],[]⟩ [] nn)
theorem v9q (l0:List R6) (aO:Int) (aQ:Int) (aP:Int) (n:Nat) (vs:List AVal) (h:Zr (z6n l0 aO aQ aP) n (x0z l0 aO aQ aP)=.ret vs):Uz prog (Zy prog 29) (Zg prog 29 [(.dat l0.length (Zz l0)),(.agg [(.int .i64 aO),(.int .i64 aQ),(.int .i64 aP)])] true []) vs:=by have:=Zd (w7h l0 aO aQ aP) n _ (x8g l0 aO aQ aP);rwa [h] at this
inductive twiS where
def twiC (l0:List R6):twiS→Cfg
 :=nofun
def x6l (l0:List R6):twiS→Xx twiS
 :=nofun
def y1w (l0:List R6):Xx twiS:=(bif (decide ((0+l0.length+1)*(48+1)≤room)) then (.ret [(.dat l0.length (Zz l0))]) else .stuck)
theorem w5l (l0:List R6): ∀s,Xy prog (Zy prog 43) (twiC l0) (twiC l0 s) (x6l l0 s)
 :=nofun
theorem x6m (l0:List R6):Xy prog (Zy prog 43) (twiC l0) (Zg prog 43 [(.dat l0.length (Zz l0))] true []) (y1w l0):=(lo fun o0=>(lr 6 3 [1,1,1,1,0] 1 9 [(2,(.dat l0.length (Zz l0)))] (sl Xu 11 [] ⟨[],[1],[some [2]],[]⟩ ⟨[(2,.frz (0+l0.length) l0.length (Vp (fun k=>(([]:List AVal).drop (k*6)).take 6) 0 (Zz l0)) (Zz l0))],[],[]⟩ [] (pp (xZ (z1o 6 6 0 (0+l0.length) (0+l0.length) (Vp (fun k=>(([]:List AVal).drop (k*6)).take 6) 0 (Zz l0))) (0+l0.length) (Vp (fun k=>(([]:List AVal).drop (k*6)).take 6) 0 (Zz l0))) (pp (xL (0+l0.length) l0.length (Vt (Af _))) (pp (xS (0+l0.length) (Vp (fun k=>(([]:List AVal).drop (k*6)).take 6) 0 (Zz l0)) (Zz l0)) (pp (pp (xF (Vp (fun k=>(([]:List AVal).drop (k*6)).take 6) 0 (Zz l0))) nn) (pp (pp nn (pp (xG (y6b 6 l0.length (Zz l0))) (xw o0))) nn))))))))
theorem v7f (l0:List R6) (n:Nat) (vs:List AVal) (h:Zr (x6l l0) n (y1w l0)=.ret vs):Uz prog (Zy prog 43) (Zg prog 43 [(.dat l0.length (Zz l0))] true []) vs:=by have:=Zd (w5l l0) n _ (x6m l0);rwa [h] at this
inductive rsqS where
 | h0 (v5:Int)
def rsqC (l0:List R7) (l1:List R7):rsqS→Cfg
 | .h0 v5=>⟨⟨26,0,true⟩,none,(Zc prog 23 [1,1,0,1,0,0] 0),none,(Zy prog 6),⟨Yj [(0,(.dat l0.length (Zz l0))),(1,(.dat l1.length (Zz l1))),(5,(ii v5))],Wn [] 0,0,[],true⟩,[],.leaf⟩
def rsqN0 :List (Option (List Nat)):=[some [0,1,5]]
def rsqM0 :List (Option (List Nat)):=[]
def z6h (l0:List R7) (l1:List R7):rsqS→Xx rsqS
 | .h0 v5=>(bif (decide (v5<(l0.length:Int))) then (bif ((decide (0≤v5∧v5<(l0.length:Int)))&&true) then (bif ((decide (0≤v5∧v5<(l1.length:Int)))&&true) then (bif (!(((rd l0 v5.toNat).a == (rd l1 v5.toNat).a)&&((((rd l0 v5.toNat).b == (rd l1 v5.toNat).b)&&(((rd l0 v5.toNat).c == (rd l1 v5.toNat).c)&&(((rd l0 v5.toNat).d == (rd l1 v5.toNat).d)&&true)))&&((((rd l0 v5.toNat).e == (rd l1 v5.toNat).e)&&(((rd l0 v5.toNat).f == (rd l1 v5.toNat).f)&&(((rd l0 v5.toNat).g == (rd l1 v5.toNat).g)&&true)))&&true)))) then (.ret [(.bool false)]) else (.to (.h0 (wrap .i64 (v5+1))))) else .stuck) else .stuck) else (.ret [(.bool true)]))
def y2j (l0:List R7) (l1:List R7):Xx rsqS:=(bif ((l0.length:Int) != (l1.length:Int)) then (.ret [(.bool false)]) else (.to (.h0 0)))
theorem w6p (l0:List R7) (l1:List R7): ∀s,Xy prog (Zy prog 23) (rsqC l0 l1) (rsqC l0 l1 s) (z6h l0 l1 s)
 | .h0 v5=>(lb (fun k0=>(lo fun aI=>(lo fun bD=>(lb (fun k1=>(lr 26 23 [1,1,0,1,0,0,1,0,0,1,0,0] 1 6 [(4,(.bool false))] (sl Xu 19 [] ⟨[],[],[some [4]],[]⟩ ⟨[],[],[]⟩ (bl 2 3) (tt k1 (ww bD (ww aI (tt k0 nn))))))) (fun k1=>(sl Xu 23 [] ⟨[],[],rsqN0,rsqM0⟩ ⟨[],[],[]⟩ (bl 2 1) (tt k1 (ww bD (ww aI (tt k0 nn)))))))))) (fun k0=>(lr 26 3 [1,1,1,1,0] 1 6 [(4,(.bool true))] (sl Xu 14 [] ⟨[],[],[some [4]],[]⟩ ⟨[],[],[]⟩ [false] (tt k0 nn)))))
theorem x7j (l0:List R7) (l1:List R7):Xy prog (Zy prog 23) (rsqC l0 l1) (Zg prog 23 [(.dat l0.length (Zz l0)),(.dat l1.length (Zz l1))] true []) (y2j l0 l1):=(lb (fun k0=>(lr 26 23 [1,0,1,0,0] 1 6 [(4,(.bool false))] (sl Xu 18 [] ⟨[],[],[some [4]],[]⟩ ⟨[],[],[]⟩ [true] (tt k0 nn)))) (fun k0=>(sl Xu 22 [] ⟨[],[],rsqN0,rsqM0⟩ ⟨[],[],[]⟩ [false] (tt k0 nn))))
theorem v8r (l0:List R7) (l1:List R7) (n:Nat) (vs:List AVal) (h:Zr (z6h l0 l1) n (y2j l0 l1)=.ret vs):Uz prog (Zy prog 23) (Zg prog 23 [(.dat l0.length (Zz l0)),(.dat l1.length (Zz l1))] true []) vs:=by have:=Zd (w6p l0 l1) n _ (x7j l0 l1);rwa [h] at this
inductive rcmS where
def rcmC (aJ:Int) (aL:Int) (aK:Int) (aR:Int) (aW:Int) (aT:Int) (aO:Int) (aQ:Int) (aP:Int) (bP:Int) (bQ:Int) (bO:Int):rcmS→Cfg
 :=nofun
def x8q (aJ:Int) (aL:Int) (aK:Int) (aR:Int) (aW:Int) (aT:Int) (aO:Int) (aQ:Int) (aP:Int) (bP:Int) (bQ:Int) (bO:Int):rcmS→Xx rcmS
 :=nofun
def y3c (aJ:Int) (aL:Int) (aK:Int) (aR:Int) (aW:Int) (aT:Int) (aO:Int) (aQ:Int) (aP:Int) (bP:Int) (bQ:Int) (bO:Int):Xx rcmS:=(bif (decide ((Kw aJ aO)≥(Kx aR bP))) then (.ret [(.agg [(.int .i64 0),(.int .i64 0),(.int .i64 0),(.int .i64 0),(.int .i64 0),(.int .i64 0)])]) else (bif (decide ((Kw aL aQ)≥(Kx aW bQ))) then (.ret [(.agg [(.int .i64 0),(.int .i64 0),(.int .i64 0),(.int .i64 0),(.int .i64 0),(.int .i64 0)])]) else (bif (decide ((Kw aK aP)≥(Kx aT bO))) then (.ret [(.agg [(.int .i64 0),(.int .i64 0),(.int .i64 0),(.int .i64 0),(.int .i64 0),(.int .i64 0)])]) else (.ret [(.agg [(.int .i64 (Kw aJ aO)),(.int .i64 (Kw aL aQ)),(.int .i64 (Kw aK aP)),(.int .i64 (Kx aR bP)),(.int .i64 (Kx aW bQ)),(.int .i64 (Kx aT bO))])]))))
theorem w7p (aJ:Int) (aL:Int) (aK:Int) (aR:Int) (aW:Int) (aT:Int) (aO:Int) (aQ:Int) (aP:Int) (bP:Int) (bQ:Int) (bO:Int): ∀s,Xy prog (Zy prog 61) (rcmC aJ aL aK aR aW aT aO aQ aP bP bQ bO) (rcmC aJ aL aK aR aW aT aO aQ aP bP bQ bO s) (x8q aJ aL aK aR aW aT aO aQ aP bP bQ bO s)
 :=nofun
theorem x8r (aJ:Int) (aL:Int) (aK:Int) (aR:Int) (aW:Int) (aT:Int) (aO:Int) (aQ:Int) (aP:Int) (bP:Int) (bQ:Int) (bO:Int):Xy prog (Zy prog 61) (rcmC aJ aL aK aR aW aT aO aQ aP bP bQ bO) (Zg prog 61 [(.agg [(.int .i64 aJ),(.int .i64 aL),(.int .i64 aK),(.int .i64 aR),(.int .i64 aW),(.int .i64 aT)]),(.agg [(.int .i64 aO),(.int .i64 aQ),(.int .i64 aP),(.int .i64 bP),(.int .i64 bQ),(.int .i64 bO)])] true []) (y3c aJ aL aK aR aW aT aO aQ aP bP bQ bO):=(lb (fun k0=>(Kp ⟨⟨78,0,true⟩,none,(Zc prog 61 [1,1,0,1,0,0] 1),none,(Zy prog 61),⟨Yj [(4,(.ptr 0 0))],Wn [⟨[(ii 0),(ii 0),(ii 0),(ii 0),(ii 0),(ii 0)],57,none⟩] 0,1,[],true⟩,[],.leaf⟩ (sl Xu 91 [] ⟨[2],[],[some [4]],[]⟩ ⟨[],[],[]⟩ (trs 15 []) (tt k0 nn)) rfl (by kernel_rfl))) (fun k0=>(lb (fun k1=>(Kp ⟨⟨78,0,true⟩,none,(Zc prog 61 [1,1,0,1,0,0] 1),none,(Zy prog 61),⟨Yj [(4,(.ptr 0 0))],Wn [⟨[(ii 0),(ii 0),(ii 0),(ii 0),(ii 0),(ii 0)],57,none⟩] 0,1,[],true⟩,[],.leaf⟩ (sl Xu 91 [] ⟨[2],[],[some [4]],[]⟩ ⟨[],[],[]⟩ [false,false,false,false,false,false,false,true,true,true,true,true,true,true,true] (tt k1 (tt k0 nn))) rfl (by kernel_rfl))) (fun k1=>(lb (fun k2=>(Kp ⟨⟨78,0,true⟩,none,(Zc prog 61 [1,1,0,1,0,0] 1),none,(Zy prog 61),⟨Yj [(4,(.ptr 0 0))],Wn [⟨[(ii 0),(ii 0),(ii 0),(ii 0),(ii 0),(ii 0)],57,none⟩] 0,1,[],true⟩,[],.leaf⟩ (sl Xu 91 [] ⟨[2],[],[some [4]],[]⟩ ⟨[],[],[]⟩ [false,false,false,false,false,false,false,false,false,false,false,false,false,false,true] (tt k2 (tt k1 (tt k0 nn)))) rfl (by kernel_rfl))) (fun k2=>(Kp ⟨⟨78,0,true⟩,none,(Zc prog 3 [1,1,1,1,0] 1),none,(Zy prog 61),⟨Yj [(4,(.ptr 0 0))],Wn [⟨[(ii (Kw aJ aO)),(ii (Kw aL aQ)),(ii (Kw aK aP)),(ii (Kx aR bP)),(ii (Kx aW bQ)),(ii (Kx aT bO))],57,none⟩] 0,1,[],true⟩,[],.leaf⟩ (sl Xu 92 [] ⟨[2],[],[some [4]],[]⟩ ⟨[],[],[]⟩ [false,false,false,false,false,false,false,false,false,false,false,false,false,false,false] (tt k2 (tt k1 (tt k0 nn)))) rfl (by kernel_rfl))))))))
theorem u0d (aJ:Int) (aL:Int) (aK:Int) (aR:Int) (aW:Int) (aT:Int) (aO:Int) (aQ:Int) (aP:Int) (bP:Int) (bQ:Int) (bO:Int) (n:Nat) (vs:List AVal) (h:Zr (x8q aJ aL aK aR aW aT aO aQ aP bP bQ bO) n (y3c aJ aL aK aR aW aT aO aQ aP bP bQ bO)=.ret vs):Uz prog (Zy prog 61) (Zg prog 61 [(.agg [(.int .i64 aJ),(.int .i64 aL),(.int .i64 aK),(.int .i64 aR),(.int .i64 aW),(.int .i64 aT)]),(.agg [(.int .i64 aO),(.int .i64 aQ),(.int .i64 aP),(.int .i64 bP),(.int .i64 bQ),(.int .i64 bO)])] true []) vs:=by have:=Zd (w7p aJ aL aK aR aW aT aO aQ aP bP bQ bO) n _ (x8r aJ aL aK aR aW aT aO aQ aP bP bQ bO);rwa [h] at this
inductive ribS where
def ribC (aJ:Int) (aL:Int) (aK:Int) (aR:Int) (aW:Int) (aT:Int) (aO:Int) (aQ:Int) (aP:Int):ribS→Cfg
 :=nofun
def x8c (aJ:Int) (aL:Int) (aK:Int) (aR:Int) (aW:Int) (aT:Int) (aO:Int) (aQ:Int) (aP:Int):ribS→Xx ribS
 :=nofun
def y2z (aJ:Int) (aL:Int) (aK:Int) (aR:Int) (aW:Int) (aT:Int) (aO:Int) (aQ:Int) (aP:Int):Xx ribS:=(bif (decide (aJ≤aO)) then (bif (decide (aO<aR)) then (bif (decide (aL≤aQ)) then (bif (decide (aQ<aW)) then (bif (decide (aK≤aP)) then (.ret [(.bool (decide (aP<aT)))]) else (.ret [(.bool false)])) else (.ret [(.bool false)])) else (.ret [(.bool false)])) else (.ret [(.bool false)])) else (.ret [(.bool false)]))
theorem w7g (aJ:Int) (aL:Int) (aK:Int) (aR:Int) (aW:Int) (aT:Int) (aO:Int) (aQ:Int) (aP:Int): ∀s,Xy prog (Zy prog 30) (ribC aJ aL aK aR aW aT aO aQ aP) (ribC aJ aL aK aR aW aT aO aQ aP s) (x8c aJ aL aK aR aW aT aO aQ aP s)
 :=nofun
theorem x8d (aJ:Int) (aL:Int) (aK:Int) (aR:Int) (aW:Int) (aT:Int) (aO:Int) (aQ:Int) (aP:Int):Xy prog (Zy prog 30) (ribC aJ aL aK aR aW aT aO aQ aP) (Zg prog 30 [(.agg [(.int .i64 aJ),(.int .i64 aL),(.int .i64 aK),(.int .i64 aR),(.int .i64 aW),(.int .i64 aT)]),(.agg [(.int .i64 aO),(.int .i64 aQ),(.int .i64 aP)])] true []) (y2z aJ aL aK aR aW aT aO aQ aP):=(lb (fun k0=>(lb (fun k1=>(lb (fun k2=>(lb (fun k3=>(lb (fun k4=>(lr 51 3 [1,1,1,1,0] 1 6 [(4,(.bool (decide (aP<aT))))] (sl Xu 56 [] ⟨[],[],[some [4]],[]⟩ ⟨[],[],[]⟩ (trs 30 []) (tt k4 (tt k3 (tt k2 (tt k1 (tt k0 nn)))))))) (fun k4=>(lr 51 3 [1,1,1,1,0] 1 6 [(4,(.bool false))] (sl Xu 56 [] ⟨[],[],[some [4]],[]⟩ ⟨[],[],[]⟩ (trs 24 [false,false,false,false,false,false]) (tt k4 (tt k3 (tt k2 (tt k1 (tt k0 nn)))))))))) (fun k3=>(lr 51 3 [1,1,1,1,0] 1 6 [(4,(.bool false))] (sl Xu 56 [] ⟨[],[],[some [4]],[]⟩ ⟨[],[],[]⟩ (trs 18 [false,false,false,false,false,false,false,false,false,false,false,false]) (tt k3 (tt k2 (tt k1 (tt k0 nn))))))))) (fun k2=>(lr 51 3 [1,1,1,1,0] 1 6 [(4,(.bool false))] (sl Xu 56 [] ⟨[],[],[some [4]],[]⟩ ⟨[],[],[]⟩ (trs 12 [false,false,false,false,false,false,false,false,false,false,false,false,false,false,false,false,false,false]) (tt k2 (tt k1 (tt k0 nn)))))))) (fun k1=>(lr 51 3 [1,1,1,1,0] 1 6 [(4,(.bool false))] (sl Xu 56 [] ⟨[],[],[some [4]],[]⟩ ⟨[],[],[]⟩ (trs 6 [false,false,false,false,false,false,false,false,false,false,false,false,false,false,false,false,false,false,false,false,false,false,false,false]) (tt k1 (tt k0 nn))))))) (fun k0=>(lr 51 3 [1,1,1,1,0] 1 6 [(4,(.bool false))] (sl Xu 56 [] ⟨[],[],[some [4]],[]⟩ ⟨[],[],[]⟩ [false,false,false,false,false,false,false,false,false,false,false,false,false,false,false,false,false,false,false,false,false,false,false,false,false,false,false,false,false,false] (tt k0 nn)))))
theorem v9n (aJ:Int) (aL:Int) (aK:Int) (aR:Int) (aW:Int) (aT:Int) (aO:Int) (aQ:Int) (aP:Int) (n:Nat) (vs:List AVal) (h:Zr (x8c aJ aL aK aR aW aT aO aQ aP) n (y2z aJ aL aK aR aW aT aO aQ aP)=.ret vs):Uz prog (Zy prog 30) (Zg prog 30 [(.agg [(.int .i64 aJ),(.int .i64 aL),(.int .i64 aK),(.int .i64 aR),(.int .i64 aW),(.int .i64 aT)]),(.agg [(.int .i64 aO),(.int .i64 aQ),(.int .i64 aP)])] true []) vs:=by have:=Zd (w7g aJ aL aK aR aW aT aO aQ aP) n _ (x8d aJ aL aK aR aW aT aO aQ aP);rwa [h] at this
inductive nr39S where
 | h0 (v3:Int)
def j2s (l0:List R6):nr39S→Cfg
 | .h0 v3=>⟨⟨103,0,true⟩,none,(Zc prog 37 [1,1,0,1,0,0] 0),none,(Zy prog 9),⟨Yj [(0,(.dat l0.length (Zz l0))),(3,(ii v3))],Wn [] 0,0,[],true⟩,[],.leaf⟩
def u6t :List (Option (List Nat)):=[some [0,3]]
def u6u :List (Option (List Nat)):=[]
def z5e (l0:List R6):nr39S→Xx nr39S
 | .h0 v3=>(bif (decide (v3<(l0.length:Int))) then (bif ((decide (0≤v3∧v3<(l0.length:Int)))&&true) then (bif (decide ((Kx (Kx (rd l0 v3.toNat).a (rd l0 v3.toNat).b) (rd l0 v3.toNat).c)<(-12))) then (.ret [(.bool false)]) else (bif (decide ((Kw (Kw (rd l0 v3.toNat).d (rd l0 v3.toNat).e) (rd l0 v3.toNat).f)>12)) then (.ret [(.bool false)]) else (bif (decide ((Kx (Kx (rd l0 v3.toNat).d (rd l0 v3.toNat).e) (rd l0 v3.toNat).f)<(-12))) then (.ret [(.bool false)]) else (bif (decide ((Kw (Kw (rd l0 v3.toNat).a (rd l0 v3.toNat).b) (rd l0 v3.toNat).c)>12)) then (.ret [(.bool false)]) else (.to (.h0 (wrap .i64 (v3+1)))))))) else .stuck) else (.ret [(.bool (decide ((l0.length:Int)≤6)))]))
def z8c (l0:List R6):Xx nr39S:=(bif (decide ((l0.length:Int)>400)) then (.ret [(.bool (decide ((l0.length:Int)≤420)))]) else (.to (.h0 0)))
theorem x9c (l0:List R6): ∀s,Xy prog (Zy prog 37) (j2s l0) (j2s l0 s) (z5e l0 s)
 | .h0 v3=>(lb (fun k0=>(lo fun aI=>(lb (fun k1=>(lr 103 37 [1,1,0,1,0,0,1,0,0,0,1,0,0] 1 9 [(2,(.bool false))] (sl Xu 20 [] ⟨[],[],[some [2]],[]⟩ ⟨[],[],[]⟩ (trs 22 []) (tt k1 (ww aI (ww aI (ww aI (tt k0 nn)))))))) (fun k1=>(lb (fun k2=>(lr 103 37 [1,1,0,1,0,0,1,0,0,0,1,0,0] 1 9 [(2,(.bool false))] (sl Xu 20 [] ⟨[],[],[some [2]],[]⟩ ⟨[],[],[]⟩ (bl 22 2097153) (tt k2 (ww aI (ww aI (ww aI (tt k1 (ww aI (ww aI (ww aI (tt k0 nn)))))))))))) (fun k2=>(lb (fun k3=>(lr 103 37 [1,1,0,1,0,0,1,0,0,1,1,0,0] 1 9 [(2,(.bool false))] (sl Xu 24 [] ⟨[],[],[some [2]],[]⟩ ⟨[],[],[]⟩ (bl 43 8796088827905) (tt k3 (ww aI (ww aI (ww aI (tt k2 (ww aI (ww aI (ww aI (tt k1 (ww aI (ww aI (ww aI (tt k0 nn)))))))))))))))) (fun k3=>(lb (fun k4=>(lr 103 37 [1,1,0,1,0,0,1,0,0,1,1,0,0] 1 9 [(2,(.bool false))] (sl Xu 24 [] ⟨[],[],[some [2]],[]⟩ ⟨[],[],[]⟩ (bl 43 4398046511105) (tt k4 (ww aI (ww aI (ww aI (tt k3 (ww aI (ww aI (ww aI (tt k2 (ww aI (ww aI (ww aI (tt k1 (ww aI (ww aI (ww aI (tt k0 nn)))))))))))))))))))) (fun k4=>(sl Xu 28 [] ⟨[],[],u6t,u6u⟩ ⟨[],[],[]⟩ (bl 43 1) (tt k4 (ww aI (ww aI (ww aI (tt k3 (ww aI (ww aI (ww aI (tt k2 (ww aI (ww aI (ww aI (tt k1 (ww aI (ww aI (ww aI (tt k0 nn)))))))))))))))))))))))))))) (fun k0=>(lr 103 3 [1,1,1,1,0] 1 9 [(2,(.bool (decide ((l0.length:Int)≤6))))] (sl Xu 17 [] ⟨[],[],[some [2]],[]⟩ ⟨[],[],[]⟩ [false] (tt k0 nn)))))
theorem x4e (l0:List R6):Xy prog (Zy prog 37) (j2s l0) (Zg prog 37 [(.dat l0.length (Zz l0))] true []) (z8c l0):=(lb (fun k0=>(lr 103 37 [1,0,1,0,0] 1 9 [(2,(.bool (decide ((l0.length:Int)≤420))))] (sl Xu 19 [] ⟨[],[],[some [2]],[]⟩ ⟨[],[],[]⟩ [true] (tt k0 nn)))) (fun k0=>(sl Xu 20 [] ⟨[],[],u6t,u6u⟩ ⟨[],[],[]⟩ [false] (tt k0 nn))))
theorem v3w (l0:List R6) (n:Nat) (vs:List AVal) (h:Zr (z5e l0) n (z8c l0)=.ret vs):Uz prog (Zy prog 37) (Zg prog 37 [(.dat l0.length (Zz l0))] true []) vs:=by have:=Zd (x9c l0) n _ (x4e l0);rwa [h] at this
inductive rjnS where
def rjnC (x0:Int) (l1:List R6) (l2:List R6):rjnS→Cfg
 :=nofun
def x7y (x0:Int) (l1:List R6) (l2:List R6):rjnS→Xx rjnS
 :=nofun
def y2x (x0:Int) (l1:List R6) (l2:List R6):Xx rjnS:=(bif (Vs (cvT l1)) then (bif ((Xm (cvT l1)) != 0) then (.ret [.nils,(.int .i64 (Xm (cvT l1)))]) else (bif (Vs (cvT l2)) then (bif ((Xm (cvT l2)) != 0) then (.ret [.nils,(.int .i64 (Xm (cvT l2)))]) else (bif (z0c x0 (cvT l1) (cvT l2)) then (bif (!(z0p x0 (cvT l1) (cvT l2))) then (.ret [.nils,(.int .i64 4)]) else (.ret [(.dat (Jg x0 (cvT l1) (cvT l2)).length (Zz (Jg x0 (cvT l1) (cvT l2)))),(.int .i64 0)])) else .stuck)) else .stuck)) else .stuck)
theorem w7e (x0:Int) (l1:List R6) (l2:List R6): ∀s,Xy prog (Zy prog 42) (rjnC x0 l1 l2) (rjnC x0 l1 l2 s) (x7y x0 l1 l2 s)
 :=nofun
theorem x7z (x0:Int) (l1:List R6) (l2:List R6):Xy prog (Zy prog 42) (rjnC x0 l1 l2) (Zg prog 42 [(.int .i64 x0),(.dat l1.length (Zz l1)),(.dat l2.length (Zz l2))] true []) (y2x x0 l1 l2):=(lo fun bH=>(lb (fun k0=>(lr 27 42 [1,0,1,0,0] 1 10 [(6,.nils),(7,(ii (Xm (cvT l1))))] (sl Xu 60 [] ⟨[],[],[some [6,7]],[]⟩ ⟨[],[],[]⟩ (trs 3 []) (pp (pp (xr l1) (xw bH)) (tt k0 (pp (pp (xr l1) (xw bH)) (tt k0 (pp (pp (xr l1) (xw bH)) (tt k0 (pp (pp (xr l1) (xw bH)) nn)))))))))) (fun k0=>(lo fun aI=>(lb (fun k1=>(lr 27 42 [1,0,1,0,0] 1 10 [(6,.nils),(7,(ii (Xm (cvT l2))))] (sl Xu 62 [] ⟨[],[],[some [6,7]],[]⟩ ⟨[],[],[]⟩ [false,true,false] (pp (pp (xr l2) (xw aI)) (tt k0 (pp (pp (xr l1) (xw bH)) (tt k1 (pp (pp (xr l2) (xw aI)) (tt k0 (pp (pp (xr l1) (xw bH)) nn)))))))))) (fun k1=>(lo fun bS=>(lb (fun k2=>(lr 27 42 [1,1,1,0,1,0,0] 1 10 [(6,.nils),(7,(ii 4))] (sl Xu 59 [] ⟨[],[],[some [6,7]],[]⟩ ⟨[],[],[]⟩ [false,false,true] (tt k2 (pp (pp (xr l1) (pp (xr l2) (xw bS))) (tt k1 (pp (pp (xr l2) (xw aI)) (tt k0 (pp (pp (xr l1) (xw bH)) nn))))))))) (fun k2=>(lr 27 3 [1,1,1,1,0] 1 10 [(6,(.dat (Jg x0 (cvT l1) (cvT l2)).length (Zz (Jg x0 (cvT l1) (cvT l2))))),(7,(ii 0))] (sl Xu 61 [] ⟨[],[],[some [6,7]],[]⟩ ⟨[],[],[]⟩ [false,false,false] (tt k2 (pp (pp (xr l1) (pp (xr l2) (xw bS))) (tt k1 (pp (pp (xr l2) (xw aI)) (tt k0 (pp (pp (xr l1) (xw bH)) nn)))))))))))))))))
theorem v9l (x0:Int) (l1:List R6) (l2:List R6) (n:Nat) (vs:List AVal) (h:Zr (x7y x0 l1 l2) n (y2x x0 l1 l2)=.ret vs):Uz prog (Zy prog 42) (Zg prog 42 [(.int .i64 x0),(.dat l1.length (Zz l1)),(.dat l2.length (Zz l2))] true []) vs:=by have:=Zd (w7e x0 l1 l2) n _ (x7z x0 l1 l2);rwa [h] at this
def x6c (x y z lo:Int):Bool:=decide (x≥lo)&&(decide (y≥lo)&&(decide (z≥lo)&&(decide (x≤1000000)&&(decide (y≤1000000)&&decide (z≤1000000)))))
theorem j1s (x y z lo:Int): ∃N,Zr (x8a x y z lo) N (y2y x y z lo)=.ret [.bool (x6c x y z lo)]:=⟨0,by
 unfold y2y x6c;cases decide (x≥lo) <;> cases decide (y≥lo) <;> cases decide (z≥lo) <;> cases decide (x≤1000000) <;> cases decide (y≤1000000) <;> rfl⟩
def fRin :List AVal→Option (AVal×Bool)
 | [.agg [.int .i64 x,.int .i64 y,.int .i64 z],.int .i64 lo]=>some (.bool (x6c x y z lo),true)
 | _=>none
theorem j4p {S:Specs} (hS:Zv prog S):Zv prog (S.with v4g fRin):=by
 refine Qe hS (by kernel_rfl) fun args v h=> ?_;unfold fRin at h;split at h
 ·rename_i x y z lo;simp only [Ae,Ad,Bl] at h;subst h;obtain ⟨N,hN⟩:=j1s x y z lo;exact ⟨_,_,(.cons (.refl _) (.cons (.refl _) .nil)),rfl,v9m x y z lo N _ hN,3,rfl⟩
 ·cases h
def y0a (x y z i:Int):Int:=bif i == 0 then x else bif i == 1 then y else z
theorem j6e (x y z i:Int): ∃N,Zr (w1d x y z i) N (y3q x y z i)=.ret [.int .i64 (y0a x y z i)]:=⟨0,by
 unfold y3q y0a;cases (i == 0) <;> cases (i == 1) <;> rfl⟩
def fCrd :List AVal→Option (AVal×Bool)
 | [.agg [.int .i64 aJ,.int .i64 aL,.int .i64 aK],.int .i64 x1]=>some (.int .i64 (y0a aJ aL aK x1),true)
 | _=>none
theorem j5j {S:Specs} (hS:Zv prog S):Zv prog (S.with w4e fCrd):=by
 refine Qe hS (by kernel_rfl) fun args v h=> ?_;unfold fCrd at h;split at h
 ·rename_i aJ aL aK x1;simp only [Ae,Ad,Bl] at h;subst h;obtain ⟨N,hN⟩:=j6e aJ aL aK x1;exact ⟨_,_,(.cons (.refl _) (.cons (.refl _) .nil)),rfl,u2k aJ aL aK x1 N _ hN,3,rfl⟩
 ·cases h
def Uy (i a x y:Int):R3:=bif i == 0 then ⟨a,x,y⟩ else bif i == 1 then ⟨x,a,y⟩ else ⟨x,y,a⟩
theorem j2k (i a x y:Int): ∃N,Zr (x8w i a x y) N (y3e i a x y)=.ret [.agg [.int .i64 (Uy i a x y).a,.int .i64 (Uy i a x y).b,.int .i64 (Uy i a x y).c]]:=⟨0,by
 unfold y3e Uy;cases i == 0 <;> cases i == 1 <;> rfl⟩
def fPut :List AVal→Option (AVal×Bool)
 | [.int .i64 i,.int .i64 a,.int .i64 x,.int .i64 y]=>some (.agg [.int .i64 (Uy i a x y).a,.int .i64 (Uy i a x y).b,.int .i64 (Uy i a x y).c],true)
 | _=>none
theorem j4w {S:Specs} (hS:Zv prog S):Zv prog (S.with u7d fPut):=by
 refine Qe hS (by kernel_rfl) fun args v h=> ?_;unfold fPut at h;split at h
 ·rename_i i a x y;simp only [Ae,Ad,Bl] at h;subst h;obtain ⟨N,hN⟩:=j2k i a x y;exact ⟨_,_,(.cons (.refl _) (.cons (.refl _) (.cons (.refl _) (.cons (.refl _) .nil)))),rfl,u0m i a x y N _ hN,3,rfl⟩
 ·cases h
def shR (x y z:Int) (r:R6):Bool:=decide (r.a≤x)&&(decide (x<r.d)&&(decide (r.b≤y)&&(decide (y<r.e)&&(decide (r.c≤z)&&decide (z<r.f)))))
def shsV (L:List R6) (x y z:Int):Bool:=L.any (shR x y z)
def rh6V (L:List R6) (x y z:Int):Bool:=shsV L x y z
def Qm (L:List R6) (x y z:Int):Bool:=decide (L.length≤100000)
theorem u5y {L:List R6} {x y z:Int} (hl:L.length≤100000): ∀(k i:Nat),i+k=L.length→ ∃N,Zr (z6n L x y z) N (.to (.h0 (i:Int)))=.ret [.bool ((L.drop i).any (shR x y z))]
 | 0,i,h=>by
  refine ⟨1,?_⟩
  grind [Zw,z6n,Zq]
 | k+1,i,h=>by
  have hi:i<L.length:=by omega
  obtain ⟨N,hN⟩:=u5y (x:=x) (y:=y) (z:=z) hl k (i+1) (by omega);refine ⟨N+1,?_⟩;rw [Zw,Yg hi,BK];have e:z6n L x y z (.h0 (i:Int))=bif shR x y z (rd L i) then .ret [.bool true] else .to (.h0 ((i+1:Nat):Int)):=by unfold shR;simp (disch:=omega) only [z6n,y0f,Zs,Zn,Zj,Zx,Zk,Ah,Ab]
  grind [Zq]
theorem j1v (L:List R6) (x y z:Int) (h:Qm L x y z=true): ∃N,Zr (z6n L x y z) N (x0z L x y z)=.ret [.bool (rh6V L x y z)]:=by obtain ⟨N,hN⟩:=u5y (x:=x) (y:=y) (z:=z) (Av h) L.length 0 (Af _);exact ⟨N,hN⟩
def fRh6 :List AVal→Option (AVal×Bool)
 | [a0,.agg [.int .i64 aO,.int .i64 aQ,.int .i64 aP]]=>match asL R6 a0 with
  | some (L0,g0,n0)=>some (.bool (rh6V L0 aO aQ aP),isT R6 n0 g0&&(Qm L0 aO aQ aP))
  | _=>none
 | _=>none
theorem j4r {S:Specs} (hS:Zv prog S):Zv prog (S.with u7c fRh6):=by
 refine Qe hS (by kernel_rfl) fun args v h=> ?_;unfold fRh6 at h;split at h
 ·rename_i a0 aO aQ aP;split at h
  ·rename_i L0 g0 n0 e0;simp only [Ae,Ad,Ac] at h;obtain ⟨rfl,ho0,hw⟩:=h;obtain ⟨N,hN⟩:=j1v L0 aO aQ aP hw;exact ⟨_,_,(.cons (Yc e0 ho0) (.cons (.refl _) .nil)),rfl,v9q L0 aO aQ aP N _ hN,3,rfl⟩
  ·cases h
 ·cases h
def x6b (L:List R6):List R6:=L
def z7b (L:List R6):Bool:=decide (L.length≤2000000)
theorem u8s (L:List R6) (h:z7b L=true): ∃N,Zr (x6l L) N (y1w L)=.ret [.dat (x6b L).length (Zz (x6b L))]:=⟨0,by
 have h:L.length≤2000000:=Av h;unfold y1w;rw [Ze (by omega)];rfl⟩
def fTwi :List AVal→Option (AVal×Bool)
 | [a0]=>match asL R6 a0 with
  | some (L0,g0,n0)=>some (.dat (x6b L0).length (Zz (x6b L0)),isT R6 n0 g0&&(z7b L0))
  | _=>none
 | _=>none
theorem j3s {S:Specs} (hS:Zv prog S):Zv prog (S.with u6v fTwi):=by
 refine Qe hS (by kernel_rfl) fun args v h=> ?_;unfold fTwi at h;split at h
 ·rename_i a0;split at h
  ·rename_i L0 g0 n0 e0;simp only [Ae,Ad,Ac] at h;obtain ⟨rfl,ho0,hw⟩:=h;obtain ⟨N,hN⟩:=u8s L0 hw;exact ⟨_,_,(.cons (Yc e0 ho0) .nil),rfl,v7f L0 N _ hN,3,rfl⟩
  ·cases h
 ·cases h
instance : DecidableEq R7:=Classical.typeDecidableEq _
def same7V (l m:List R7):Bool:=decide (l=m)
def eq7 (r s:R7):Bool:=(r.a == s.a)&&(((r.b == s.b)&&((r.c == s.c)&&((r.d == s.d)&&true)))&&(((r.e == s.e)&&((r.f == s.f)&&((r.g == s.g)&&true)))&&true))
theorem v5q (r s:R7):eq7 r s=true↔r=s:=by obtain ⟨a,b,c,d,e,f,g⟩:=r;obtain ⟨a',b',c',d',e',f',g'⟩:=s;simp [eq7,and_assoc]
def rsqV (l m:List R7):Bool:=same7V l m
def x3h (l m:List R7):Bool:=decide (l.length≤1000000)
theorem u4w (l m:List R7) (hl:l.length≤1000000) (hm:l.length=m.length): ∀(k i:Nat),i+k=l.length→ ∃N,Zr (z6h l m) N (.to (.h0 (i:Int)))=.ret [.bool (decide (l.drop i=m.drop i))]
 | 0,i,h=>by
  refine ⟨1,?_⟩
  grind [Zw,z6h,Zq]
 | k+1,i,h=>by
  have hi:i<l.length:=by omega
  obtain ⟨N,hN⟩:=u4w l m hl hm k (i+1) (by omega);refine ⟨N+1,?_⟩;rw [Zw,Yg hi,Yg (show i<m.length by omega)];have e:z6h l m (.h0 (i:Int))=bif !(eq7 (rd l i) (rd m i)) then .ret [.bool false] else .to (.h0 ((i+1:Nat):Int)):=by
   grind [z6h,eq7,Zj]
  rw [e];by_cases q:rd l i=rd m i
  ·rw [(v5q _ _).2 q,Aw,Aa,hN];simp_all
  ·rw [show eq7 (rd l i) (rd m i)=false from AZ.2 fun h=>q ((v5q _ _).1 h),Ay,Ab,Zq];simp_all
theorem j0p (l m:List R7) (h:x3h l m=true): ∃N,Zr (z6h l m) N (y2j l m)=.ret [.bool (rsqV l m)]:=by
 have hl:l.length≤1000000:=Av h;unfold y2j;by_cases hm:l.length=m.length
 ·obtain ⟨N,hN⟩:=u4w l m hl hm l.length 0 (Af _);refine ⟨N,?_⟩;rw [show ((l.length:Int) != (m.length:Int))=false by rw [hm];simp,Aa];exact hN
 ·refine ⟨0,?_⟩;rw [show ((l.length:Int) != (m.length:Int))=true by simp;omega,Ab,Zq]
  congr 3
  exact (Az fun e=>hm (by rw [e])).symm
def fRsq :List AVal→Option (AVal×Bool)
 | [a0,a1]=>match asL R7 a0,asL R7 a1 with
  | some (L0,g0,n0),some (L1,g1,n1)=>some (.bool (rsqV L0 L1),isT R7 n0 g0&&(isT R7 n1 g1&&(x3h L0 L1)))
  | _,_=>none
 | _=>none
theorem j4e {S:Specs} (hS:Zv prog S):Zv prog (S.with u7b fRsq):=by
 refine Qe hS (by kernel_rfl) fun args v h=> ?_;unfold fRsq at h;split at h
 ·rename_i a0 a1;split at h
  ·rename_i L0 g0 n0 L1 g1 n1 e0 e1;simp only [Ae,Ad,Ac] at h;obtain ⟨rfl,ho0,ho1,hw⟩:=h;obtain ⟨N,hN⟩:=j0p L0 L1 hw;exact ⟨_,_,(.cons (Yc e0 ho0) (.cons (Yc e1 ho1) .nil)),rfl,v8r L0 L1 N _ hN,3,rfl⟩
  ·cases h
 ·cases h
def z8z (a b c d e f a2 b2 c2 d2 e2 f2:Int):R6:=bif decide (Kw a a2≥Kx d d2)||(decide (Kw b b2≥Kx e e2)||decide (Kw c c2≥Kx f f2)) then ⟨0,0,0,0,0,0⟩ else ⟨Kw a a2,Kw b b2,Kw c c2,Kx d d2,Kx e e2,Kx f f2⟩
theorem j2e (a b c d e f a2 b2 c2 d2 e2 f2:Int): ∃N,Zr (x8q a b c d e f a2 b2 c2 d2 e2 f2) N (y3c a b c d e f a2 b2 c2 d2 e2 f2)=.ret [.agg [.int .i64 (z8z a b c d e f a2 b2 c2 d2 e2 f2).a,.int .i64 (z8z a b c d e f a2 b2 c2 d2 e2 f2).b,.int .i64 (z8z a b c d e f a2 b2 c2 d2 e2 f2).c,.int .i64 (z8z a b c d e f a2 b2 c2 d2 e2 f2).d,.int .i64 (z8z a b c d e f a2 b2 c2 d2 e2 f2).e,.int .i64 (z8z a b c d e f a2 b2 c2 d2 e2 f2).f]]:=⟨0,by
 unfold y3c z8z;cases decide (Kw a a2≥Kx d d2) <;> cases decide (Kw b b2≥Kx e e2) <;> cases decide (Kw c c2≥Kx f f2) <;> rfl⟩
def fRcm :List AVal→Option (AVal×Bool)
 | [.agg [.int .i64 a,.int .i64 b,.int .i64 c,.int .i64 d,.int .i64 e,.int .i64 f],.agg [.int .i64 a2,.int .i64 b2,.int .i64 c2,.int .i64 d2,.int .i64 e2,.int .i64 f2]]=>some (.agg [.int .i64 (z8z a b c d e f a2 b2 c2 d2 e2 f2).a,.int .i64 (z8z a b c d e f a2 b2 c2 d2 e2 f2).b,.int .i64 (z8z a b c d e f a2 b2 c2 d2 e2 f2).c,.int .i64 (z8z a b c d e f a2 b2 c2 d2 e2 f2).d,.int .i64 (z8z a b c d e f a2 b2 c2 d2 e2 f2).e,.int .i64 (z8z a b c d e f a2 b2 c2 d2 e2 f2).f],true)
 | _=>none
theorem j4u {S:Specs} (hS:Zv prog S):Zv prog (S.with nRcm fRcm):=by
 refine Qe hS (by kernel_rfl) fun args v h=> ?_;unfold fRcm at h;split at h
 ·rename_i a b c d e f a2 b2 c2 d2 e2 f2;simp only [Ae,Ad,Bl] at h;subst h;obtain ⟨N,hN⟩:=j2e a b c d e f a2 b2 c2 d2 e2 f2;exact ⟨_,_,(.cons (.refl _) (.cons (.refl _) .nil)),rfl,u0d a b c d e f a2 b2 c2 d2 e2 f2 N _ hN,3,rfl⟩
 ·cases h
def ribV (a b c d e f x y z:Int):Bool:=decide (a≤x)&&(decide (x<d)&&(decide (b≤y)&&(decide (y<e)&&(decide (c≤z)&&decide (z<f)))))
theorem j1t (a b c d e f x y z:Int): ∃N,Zr (x8c a b c d e f x y z) N (y2z a b c d e f x y z)=.ret [.bool (ribV a b c d e f x y z)]:=⟨0,by
 unfold y2z ribV;cases decide (a≤x) <;> cases decide (x<d) <;> cases decide (b≤y) <;> cases decide (y<e) <;> cases decide (c≤z) <;> rfl⟩
def fRib :List AVal→Option (AVal×Bool)
 | [.agg [.int .i64 aJ,.int .i64 aL,.int .i64 aK,.int .i64 aR,.int .i64 aW,.int .i64 aT],.agg [.int .i64 aO,.int .i64 aQ,.int .i64 aP]]=>some (.bool (ribV aJ aL aK aR aW aT aO aQ aP),true)
 | _=>none
theorem j4q {S:Specs} (hS:Zv prog S):Zv prog (S.with nRib fRib):=by
 refine Qe hS (by kernel_rfl) fun args v h=> ?_;unfold fRib at h;split at h
 ·rename_i aJ aL aK aR aW aT aO aQ aP;simp only [Ae,Ad,Bl] at h;subst h;obtain ⟨N,hN⟩:=j1t aJ aL aK aR aW aT aO aQ aP;exact ⟨_,_,(.cons (.refl _) (.cons (.refl _) .nil)),rfl,v9n aJ aL aK aR aW aT aO aQ aP N _ hN,3,rfl⟩
 ·cases h
def u0t (r:R6):Bool:= !decide (Kx (Kx r.a r.b) r.c<(-12))&&(!decide (Kw (Kw r.d r.e) r.f>12)&&(!decide (Kx (Kx r.d r.e) r.f<(-12))&& !decide (Kw (Kw r.a r.b) r.c>12)))
def x9d (L:List R6):Bool:=bif decide ((L.length:Int)>400) then decide ((L.length:Int)≤420) else L.all u0t&&decide ((L.length:Int)≤6)
def Kr (L:List R6):Bool:=true
theorem v3v {L:List R6} (hl:L.length≤400): ∀(k i:Nat),i+k=L.length→ ∃N,Zr (z5e L) N (.to (.h0 (i:Int)))=.ret [.bool ((L.drop i).all u0t&&decide ((L.length:Int)≤6))]
 | 0,i,h=>by refine ⟨1,?_⟩;rw [Zw,As (by omega)];simp (disch:=omega) only [z5e,Yb,Aa];rfl
 | k+1,i,h=>by
  have hi:i<L.length:=by omega
  obtain ⟨N,hN⟩:=v3v hl k (i+1) (by omega);have hw:wrap .i64 ((i:Int)+1)=((i+1:Nat):Int):=Zj (by omega);refine ⟨N+1,?_⟩;rw [Zw,Yg hi]
  grind [z5e,Zk,u0t,Zq]
theorem u0p (L:List R6) (h:Kr L=true): ∃N,Zr (z5e L) N (z8c L)=.ret [.bool (x9d L)]:=by
 unfold z8c x9d;by_cases hl:L.length≤400
 ·obtain ⟨N,hN⟩:=v3v hl L.length 0 (Af _)
  grind
 ·refine ⟨0,?_⟩;rw [Yn (by omega)];rfl
def j4y :List AVal→Option (AVal×Bool)
 | [a0]=>match asL R6 a0 with
  | some (L0,g0,n0)=>some (.bool (x9d L0),isT R6 n0 g0&&(Kr L0))
  | _=>none
 | _=>none
theorem u1w {S:Specs} (hS:Zv prog S):Zv prog (S.with w4b j4y):=by
 refine Qe hS (by kernel_rfl) fun args v h=> ?_;unfold j4y at h;split at h
 ·rename_i a0;split at h
  ·rename_i L0 g0 n0 e0;simp only [Ae,Ad,Ac] at h;obtain ⟨rfl,ho0,hw⟩:=h;obtain ⟨N,hN⟩:=u0p L0 hw;exact ⟨_,_,(.cons (Yc e0 ho0) .nil),rfl,v3w L0 N _ hN,3,rfl⟩
  ·cases h
 ·cases h
def Uw (k:Int) (l m:List R6):Int:=bif Xm l != 0 then Xm l else bif Xm m != 0 then Xm m else bif z0p k l m then 0 else 4
def Wm (k:Int) (l m:List R6):List R6:=y7f (Uw k l m) (Jg k l m)
def z0m (k:Int) (l m:List R6):Bool:=pd (jsZ l∧jsZ m)
theorem j1q (k:Int) (l m:List R6) (h:z0m k l m=true): ∃N,Zr (x7y k l m) N (y2x k l m)=.ret (z8y (Uw k l m) (Jg k l m)):=⟨0,by
 unfold y2x Uw;simp only [Zb,show∀l,Vs l=true from fun _=>rfl,show z0c k l m=true from h,Ab];rcases Yy (Xm l != 0) with q | q
 ·rw [q,Ab,Ab,Vv _ q];rfl
 rcases Yy (Xm m != 0) with q2 | q2
 ·rw [q,q2,Aa,Aa,Ab,Ab,Vv _ q2];rfl
 rw [q,q2];cases z0p k l m <;> rfl⟩
def fRjn :List AVal→Option (AVal×Bool)
 | [.int .i64 k,a1,a2]=>match asL R6 a1,asL R6 a2 with
  | some (L1,g1,n1),some (L2,g2,n2)=>some (.tup [.dat (Wm k L1 L2).length (Zz (Wm k L1 L2)),.int .i64 (Uw k L1 L2)],isT R6 n1 g1&&(isT R6 n2 g2&&(z0m k L1 L2)))
  | _,_=>none
 | _=>none
theorem j4o {S:Specs} (hS:Zv prog S):Zv prog (S.with nRjn fRjn):=by
 refine x6d hS (by kernel_rfl) fun args v h=> ?_;unfold fRjn at h;split at h
 ·rename_i k a1 a2;split at h
  ·rename_i L1 g1 n1 L2 g2 n2 e1 e2;simp only [Ae,Ad,Ac] at h;obtain ⟨rfl,ho1,ho2,hw⟩:=h;obtain ⟨N,hN⟩:=j1q k L1 L2 hw;exact ⟨_,_,(.cons (.refl _) (.cons (Yc e1 ho1) (.cons (Yc e2 ho2) .nil))),Qt _ _,v9l k L1 L2 N _ hN,3,z2n _ _⟩
  ·cases h
 ·cases h
def Vr1 :Specs:=(((((((Va.with v4g fRin).with w4e fCrd).with u7c fRh6).with u7b fRsq).with nRcm fRcm).with nRib fRib).with w4b j4y)
theorem z5y :Zv prog Vr1:=(u1w (j4q (j4u (j4e (j4r (j5j (j4p Xu)))))))
inductive rvbS where
def rvbC (aJ:Int) (aL:Int) (aK:Int) (aR:Int) (aW:Int) (aT:Int):rvbS→Cfg
 :=nofun
def x7g (aJ:Int) (aL:Int) (aK:Int) (aR:Int) (aW:Int) (aT:Int):rvbS→Xx rvbS
 :=nofun
def y2i (aJ:Int) (aL:Int) (aK:Int) (aR:Int) (aW:Int) (aT:Int):Xx rvbS:=(bif (x6c aJ aL aK (-1000000)) then (bif (x6c aR aW aT (-1000000)) then (bif (decide (aJ<aR)) then (bif (decide (aL<aW)) then (.ret [(.bool (decide (aK<aT)))]) else (.ret [(.bool false)])) else (.ret [(.bool false)])) else (.ret [(.bool false)])) else (.ret [(.bool false)]))
theorem w6n (aJ:Int) (aL:Int) (aK:Int) (aR:Int) (aW:Int) (aT:Int): ∀s,Xy prog (Zy prog 60) (rvbC aJ aL aK aR aW aT) (rvbC aJ aL aK aR aW aT s) (x7g aJ aL aK aR aW aT s)
 :=nofun
theorem x7h (aJ:Int) (aL:Int) (aK:Int) (aR:Int) (aW:Int) (aT:Int):Xy prog (Zy prog 60) (rvbC aJ aL aK aR aW aT) (Zg prog 60 [(.agg [(.int .i64 aJ),(.int .i64 aL),(.int .i64 aK),(.int .i64 aR),(.int .i64 aW),(.int .i64 aT)])] true []) (y2i aJ aL aK aR aW aT):=(lb (fun k0=>(lb (fun k1=>(lb (fun k2=>(lb (fun k3=>(lr 40 3 [1,1,1,1,0] 1 9 [(2,(.bool (decide (aK<aT))))] (sl z5y 49 [] ⟨[],[],[some [2]],[]⟩ ⟨[],[],[]⟩ (trs 24 []) (tt k3 (tt k2 (tt k1 (tt k0 nn))))))) (fun k3=>(lr 40 3 [1,1,1,1,0] 1 9 [(2,(.bool false))] (sl z5y 49 [] ⟨[],[],[some [2]],[]⟩ ⟨[],[],[]⟩ (trs 17 [false,false,false,false,false,false,false]) (tt k3 (tt k2 (tt k1 (tt k0 nn))))))))) (fun k2=>(lr 40 3 [1,1,1,1,0] 1 9 [(2,(.bool false))] (sl z5y 49 [] ⟨[],[],[some [2]],[]⟩ ⟨[],[],[]⟩ (trs 10 [false,false,false,false,false,false,false,false,false,false,false,false,false,false]) (tt k2 (tt k1 (tt k0 nn)))))))) (fun k1=>(lr 40 3 [1,1,1,1,0] 1 9 [(2,(.bool false))] (sl z5y 49 [] ⟨[],[],[some [2]],[]⟩ ⟨[],[],[]⟩ (trs 3 [false,false,false,false,false,false,false,false,false,false,false,false,false,false,false,false,false,false,false,false,false]) (tt k1 (tt k0 nn))))))) (fun k0=>(lr 40 3 [1,1,1,1,0] 1 9 [(2,(.bool false))] (sl z5y 49 [] ⟨[],[],[some [2]],[]⟩ ⟨[],[],[]⟩ [false,false,false,false,false,false,false,false,false,false,false,false,false,false,false,false,false,false,false,false,false,false,false,false] (tt k0 nn)))))
theorem v8p (aJ:Int) (aL:Int) (aK:Int) (aR:Int) (aW:Int) (aT:Int) (n:Nat) (vs:List AVal) (h:Zr (x7g aJ aL aK aR aW aT) n (y2i aJ aL aK aR aW aT)=.ret vs):Uz prog (Zy prog 60) (Zg prog 60 [(.agg [(.int .i64 aJ),(.int .i64 aL),(.int .i64 aK),(.int .i64 aR),(.int .i64 aW),(.int .i64 aT)])] true []) vs:=by have:=Zd (w6n aJ aL aK aR aW aT) n _ (x7h aJ aL aK aR aW aT);rwa [h] at this
inductive cu9S where
 | h0 (v5:List Int) (v6:Int)
def cu9C (l0:List R6) (x1:Int):cu9S→Cfg
 | .h0 v5 v6=>⟨⟨32,0,true⟩,none,(Zc prog 87 [1,1,0,1,0,0] 0),none,(Zy prog 6),⟨Yj [(0,(.dat l0.length (Zz l0))),(1,(ii x1)),(5,(.sla 0 1 0 v5.length (.un 1))),(6,(ii v6))],Wn [⟨Yk v5.length (Zz v5),3,some ⟨1,v5.length,(Zz v5)⟩⟩] 0,1,[],true⟩,[],.leaf⟩
def cu9N0 :List (Option (List Nat)):=[some [0,1,5,6]]
def cu9M0 :List (Option (List Nat)):=[]
def z9z (l0:List R6) (x1:Int):cu9S→Xx cu9S
 | .h0 v5 v6=>(bif (decide (v6<(l0.length:Int))) then (bif ((decide (0≤v6∧v6<(l0.length:Int)))&&true) then (bif (Nat.beq 1 1&&((decide (0+v5.length=v5.length))&&decide ((v5.length+2+1)*(8+1)≤room))) then (.to (.h0 (v5++[(y0a (rd l0 v6.toNat).a (rd l0 v6.toNat).b (rd l0 v6.toNat).c x1),(y0a (rd l0 v6.toNat).d (rd l0 v6.toNat).e (rd l0 v6.toNat).f x1)]) (wrap .i64 (v6+1)))) else .stuck) else .stuck) else (bif (Jp (cvT v5)) then (.ret [(.dat (z0y (cvT v5)).length (Zz (z0y (cvT v5))))]) else .stuck))
def x2b (l0:List R6) (x1:Int):Xx cu9S:=(.to (.h0 ([]:List Int) 0))
theorem w9e (l0:List R6) (x1:Int): ∀s,Xy prog (Zy prog 87) (cu9C l0 x1) (cu9C l0 x1 s) (z9z l0 x1 s)
 | .h0 v5 v6=>(lb (fun k0=>(lo fun o0=>(lo fun o1=>(sl z5y 20 [] ⟨[2],[],cu9N0,cu9M0⟩ ⟨[(5,.len (v5++[(y0a (rd l0 (tn v6)).a (rd l0 (tn v6)).b (rd l0 (tn v6)).c x1),(y0a (rd l0 (tn v6)).d (rd l0 (tn v6)).e (rd l0 (tn v6)).f x1)]).length)],[.rowed 1 (v5++[(y0a (rd l0 (tn v6)).a (rd l0 (tn v6)).b (rd l0 (tn v6)).c x1),(y0a (rd l0 (tn v6)).d (rd l0 (tn v6)).e (rd l0 (tn v6)).f x1)]).length (Zz (v5++[(y0a (rd l0 (tn v6)).a (rd l0 (tn v6)).b (rd l0 (tn v6)).c x1),(y0a (rd l0 (tn v6)).d (rd l0 (tn v6)).e (rd l0 (tn v6)).f x1)]))],[]⟩ [true] (pp (xL (v5.length+2) (v5++[(y0a (rd l0 (tn v6)).a (rd l0 (tn v6)).b (rd l0 (tn v6)).c x1),(y0a (rd l0 (tn v6)).d (rd l0 (tn v6)).e (rd l0 (tn v6)).f x1)]).length) (pp (xL (v5.length+2) (v5++[(y0a (rd l0 (tn v6)).a (rd l0 (tn v6)).b (rd l0 (tn v6)).c x1),(y0a (rd l0 (tn v6)).d (rd l0 (tn v6)).e (rd l0 (tn v6)).f x1)]).length) (pp (xS (v5.length+2) (Zh (Zz v5) 0 v5.length 1 [(ii (y0a (rd l0 (tn v6)).a (rd l0 (tn v6)).b (rd l0 (tn v6)).c x1)),(ii (y0a (rd l0 (tn v6)).d (rd l0 (tn v6)).e (rd l0 (tn v6)).f x1))]) (Zz (v5++[(y0a (rd l0 (tn v6)).a (rd l0 (tn v6)).b (rd l0 (tn v6)).c x1),(y0a (rd l0 (tn v6)).d (rd l0 (tn v6)).e (rd l0 (tn v6)).f x1)]))) (pp (pp (xF (Zh (Zz v5) 0 v5.length 1 [(ii (y0a (rd l0 (tn v6)).a (rd l0 (tn v6)).b (rd l0 (tn v6)).c x1)),(ii (y0a (rd l0 (tn v6)).d (rd l0 (tn v6)).e (rd l0 (tn v6)).f x1))])) nn) (ww o1 (ww o0 (ww o0 (tt k0 nn)))))))))))) (fun k0=>(Wy (sl z5y (C':=⟨⟨32,0,true⟩,(Vk prog 87 [1,1,1,0] 1),(Zc prog 87 [1,1,1,0] 1),none,(Zy prog 6),⟨Yj [(30,(.dat v5.length (Zz v5)))],Wn [] 0,0,[],true⟩,[],.leaf⟩) 13 [] ⟨[],[0],[some [30]],[]⟩ ⟨[(30,.frz v5.length v5.length (Zz v5) (Zz v5))],[],[]⟩ [false] (pp (xZ (z1o 1 1 0 v5.length v5.length (Zz v5)) v5.length (Zz v5)) (pp (xL v5.length v5.length) (pp (xS v5.length (Zz v5) (Zz v5)) (pp (fl v5 nn) (tt k0 nn)))))) (lo fun o0=>(lr 32 3 [1,1,1,1,0] 1 6 [(4,(.dat (z0y (cvT v5)).length (Zz (z0y (cvT v5)))))] (sl z5y 3 [] ⟨[],[],[some [4]],[]⟩ ⟨[],[],[]⟩ [] (pp (pp (xr v5) (xw o0)) nn)))))))
theorem w1c (l0:List R6) (x1:Int):Xy prog (Zy prog 87) (cu9C l0 x1) (Zg prog 87 [(.dat l0.length (Zz l0)),(.int .i64 x1)] true []) (x2b l0 x1):=(sl z5y 15 [(3,1,Zz ([]:List Int))] ⟨[0],[],cu9N0,cu9M0⟩ ⟨[(5,.grow 0 1)],[],[]⟩ [] (pp (fl ([]:List Int) nn) nn))
theorem u2j (l0:List R6) (x1:Int) (n:Nat) (vs:List AVal) (h:Zr (z9z l0 x1) n (x2b l0 x1)=.ret vs):Uz prog (Zy prog 87) (Zg prog 87 [(.dat l0.length (Zz l0)),(.int .i64 x1)] true []) vs:=by have:=Zd (w9e l0 x1) n _ (w1c l0 x1);rwa [h] at this
def rvbV (a b c d e f:Int):Bool:=x6c a b c (-1000000)&&(x6c d e f (-1000000)&&(decide (a<d)&&(decide (b<e)&&decide (c<f))))
theorem j0m (a b c d e f:Int): ∃N,Zr (x7g a b c d e f) N (y2i a b c d e f)=.ret [.bool (rvbV a b c d e f)]:=⟨0,by
 unfold y2i rvbV;cases x6c a b c (-1000000) <;> cases x6c d e f (-1000000) <;> cases decide (a<d) <;> cases decide (b<e) <;> rfl⟩
def fRvb :List AVal→Option (AVal×Bool)
 | [.agg [.int .i64 aJ,.int .i64 aL,.int .i64 aK,.int .i64 aR,.int .i64 aW,.int .i64 aT]]=>some (.bool (rvbV aJ aL aK aR aW aT),true)
 | _=>none
theorem j4d {S:Specs} (hS:Zv prog S):Zv prog (S.with nRvb fRvb):=by
 refine Qe hS (by kernel_rfl) fun args v h=> ?_;unfold fRvb at h;split at h
 ·rename_i aJ aL aK aR aW aT;simp only [Ae,Ad,Bl] at h;subst h;obtain ⟨N,hN⟩:=j0m aJ aL aK aR aW aT;exact ⟨_,_,(.cons (.refl _) .nil),rfl,v8p aJ aL aK aR aW aT N _ hN,3,rfl⟩
 ·cases h
def j5r (L:List R6) (i:Int):List Int:=L.flatMap fun r=>[y0a r.a r.b r.c i,y0a r.d r.e r.f i]
def Kh (L:List R6) (i:Int):List Int:=z0y (j5r L i)
def Uk (L:List R6) (i:Int):Bool:=decide (L.length≤1000)
theorem z6w (L:List R6) (i:Int):(j5r L i).length =2*L.length:=by
 unfold j5r
 induction L with
 | nil=>rfl
 | cons r l ih=>grind
theorem u8a (L:List R6) (x:Int) (hl:L.length≤1000): ∀(k i:Nat) (acc:List Int),i+k=L.length→acc=j5r (L.take i) x→ ∃N,Zr (z9z L x) N (.to (.h0 acc (i:Int)))=.ret [.dat (Kh L x).length (Zz (Kh L x))]
 | 0,i,acc,h,ha=>by
  refine ⟨1,?_⟩;have:i=L.length:=by omega
  subst this;rw [List.take_length] at ha;subst ha;have hn:=z6w L x;have o:Jp (j5r L x)=true:=Al (by omega);rw [Zw];simp (disch:=omega) only [z9z,Zb,Yb,o,Ab,Aa,Zq];rfl
 | k+1,i,acc,h,ha=>by
  have hi:i<L.length:=by omega
  have hn:acc.length=2*i:=by grind [z6w]
  obtain ⟨N,hN⟩:=u8a L x hl k (i+1) (acc++[y0a (rd L i).a (rd L i).b (rd L i).c x,y0a (rd L i).d (rd L i).e (rd L i).f x]) (by omega) (by
   rw [ha,A0,Au hi,Xz hi]
   grind [j5r])
  refine ⟨N+1,?_⟩;rw [Zw,←hN]
  congr 1
  have m1:decide (0+acc.length=acc.length)=true:=Al (by omega);have b1:Nat.beq 1 1=true:=rfl
  grind [z9z,Ze,Zj]
theorem j6d (L:List R6) (x:Int) (h:Uk L x=true): ∃N,Zr (z9z L x) N (x2b L x)=.ret [.dat (Kh L x).length (Zz (Kh L x))]:=by obtain ⟨N,hN⟩:=u8a L x (Av h) L.length 0 [] (Af _) rfl;exact ⟨N,hN⟩
def fCu9 :List AVal→Option (AVal×Bool)
 | [a0,.int .i64 x1]=>match asL R6 a0 with
  | some (L0,g0,n0)=>some (.dat (Kh L0 x1).length (Zz (Kh L0 x1)),isT R6 n0 g0&&(Uk L0 x1))
  | _=>none
 | _=>none
theorem j5i {S:Specs} (hS:Zv prog S):Zv prog (S.with u7h fCu9):=by
 refine Qe hS (by kernel_rfl) fun args v h=> ?_;unfold fCu9 at h;split at h
 ·rename_i a0 x1;split at h
  ·rename_i L0 g0 n0 e0;simp only [Ae,Ad,Ac] at h;obtain ⟨rfl,ho0,hw⟩:=h;obtain ⟨N,hN⟩:=j6d L0 x1 hw;exact ⟨_,_,(.cons (Yc e0 ho0) (.cons (.refl _) .nil)),rfl,u2j L0 x1 N _ hN,3,rfl⟩
  ·cases h
 ·cases h
def Vr2 :Specs:=Vr1.with nRvb fRvb
theorem Vj :Zv prog Vr2:=j4d z5y
def Vr2f :Specs:=(((Vr2.with u7h fCu9).with u7d fPut).with u6v fTwi).with nRjn fRjn
theorem Wt :Zv prog Vr2f:=j4o (j3s (j4w (j5i Vj)))
inductive rlcS where
 | h0 (v3:Int)
 | h1 (v4:Int)
 | h2 (v4:Int) (v5:Int)
 | h3 (v4:Int) (v6:Int)
def rlcC (l0:List Pa):rlcS→Cfg
 | .h0 v3=>⟨⟨93,0,true⟩,none,(Zc prog 21 [1,1,0,1,0,0] 0),none,(Zy prog 9),⟨Yj [(0,(.dat l0.length (Zz l0))),(3,(ii v3))],Wn [] 0,0,[],true⟩,[],.leaf⟩
 | .h1 v4=>⟨⟨93,0,true⟩,none,(Zc prog 21 [1,1,1,0,1,0,0] 0),none,(Zy prog 9),⟨Yj [(0,(.dat l0.length (Zz l0))),(4,(ii v4))],Wn [] 0,0,[],true⟩,[],.leaf⟩
 | .h2 v4 v5=>⟨⟨93,0,true⟩,none,(Zc prog 21 [1,1,1,0,1,0,0,1,0,0,1,0,1,0,0] 0),none,(Zy prog 9),⟨Yj [(0,(.dat l0.length (Zz l0))),(4,(ii v4)),(5,(ii v5))],Wn [] 0,0,[],true⟩,[],.leaf⟩
 | .h3 v4 v6=>⟨⟨93,0,true⟩,none,(Zc prog 21 [1,1,1,0,1,0,0,1,0,0,1,1,1,0,0] 0),none,(Zy prog 9),⟨Yj [(0,(.dat l0.length (Zz l0))),(4,(ii v4)),(6,(ii v6))],Wn [] 0,0,[],true⟩,[],.leaf⟩
def rlcN0 :List (Option (List Nat)):=[some [0,3]]
def rlcM0 :List (Option (List Nat)):=[]
def rlcN1 :List (Option (List Nat)):=[some [0,4]]
def rlcM1 :List (Option (List Nat)):=[]
def rlcN2 :List (Option (List Nat)):=[some [0,4,5]]
def rlcM2 :List (Option (List Nat)):=[]
def rlcN3 :List (Option (List Nat)):=[some [0,4,6]]
def rlcM3 :List (Option (List Nat)):=[]
def Ws (l0:List Pa):rlcS→Xx rlcS
 | .h0 v3=>(bif (decide (v3<(l0.length:Int))) then (bif ((decide (0≤v3∧v3<(l0.length:Int)))&&true) then (bif (Vs (cvT (rd l0 v3.toNat).s)) then (bif ((Xm (cvT (rd l0 v3.toNat).s)) != 0) then (.ret [(.int .i64 (Xm (cvT (rd l0 v3.toNat).s)))]) else (.to (.h0 (wrap .i64 (v3+1))))) else .stuck) else .stuck) else (.to (.h1 0)))
 | .h1 v4=>(bif (decide (v4<(l0.length:Int))) then (bif ((decide (0≤v4∧v4<(l0.length:Int)))&&true) then (bif (!(rvbV (rd l0 v4.toNat).a (rd l0 v4.toNat).b (rd l0 v4.toNat).c (rd l0 v4.toNat).d (rd l0 v4.toNat).e (rd l0 v4.toNat).f)) then (.ret [(.int .i64 8)]) else (.to (.h2 v4 0))) else .stuck) else (.ret [(.int .i64 0)]))
 | .h2 v4 v5=>(bif ((decide (0≤v4∧v4<(l0.length:Int)))&&true) then (bif (decide (v5<(((rd l0 v4.toNat).s.length :Nat):Int))) then (bif ((decide (0≤v5∧v5<(((rd l0 v4.toNat).s.length :Nat):Int)))&&true) then (bif (!((((z8z (rd (rd l0 v4.toNat).s v5.toNat).a (rd (rd l0 v4.toNat).s v5.toNat).b (rd (rd l0 v4.toNat).s v5.toNat).c (rd (rd l0 v4.toNat).s v5.toNat).d (rd (rd l0 v4.toNat).s v5.toNat).e (rd (rd l0 v4.toNat).s v5.toNat).f (rd l0 v4.toNat).a (rd l0 v4.toNat).b (rd l0 v4.toNat).c (rd l0 v4.toNat).d (rd l0 v4.toNat).e (rd l0 v4.toNat).f).a == (rd (rd l0 v4.toNat).s v5.toNat).a)&&(((z8z (rd (rd l0 v4.toNat).s v5.toNat).a (rd (rd l0 v4.toNat).s v5.toNat).b (rd (rd l0 v4.toNat).s v5.toNat).c (rd (rd l0 v4.toNat).s v5.toNat).d (rd (rd l0 v4.toNat).s v5.toNat).e (rd (rd l0 v4.toNat).s v5.toNat).f (rd l0 v4.toNat).a (rd l0 v4.toNat).b (rd l0 v4.toNat).c (rd l0 v4.toNat).d (rd l0 v4.toNat).e (rd l0 v4.toNat).f).b == (rd (rd l0 v4.toNat).s v5.toNat).b)&&(((z8z (rd (rd l0 v4.toNat).s v5.toNat).a (rd (rd l0 v4.toNat).s v5.toNat).b (rd (rd l0 v4.toNat).s v5.toNat).c (rd (rd l0 v4.toNat).s v5.toNat).d (rd (rd l0 v4.toNat).s v5.toNat).e (rd (rd l0 v4.toNat).s v5.toNat).f (rd l0 v4.toNat).a (rd l0 v4.toNat).b (rd l0 v4.toNat).c (rd l0 v4.toNat).d (rd l0 v4.toNat).e (rd l0 v4.toNat).f).c == (rd (rd l0 v4.toNat).s v5.toNat).c)&&true)))&&((((z8z (rd (rd l0 v4.toNat).s v5.toNat).a (rd (rd l0 v4.toNat).s v5.toNat).b (rd (rd l0 v4.toNat).s v5.toNat).c (rd (rd l0 v4.toNat).s v5.toNat).d (rd (rd l0 v4.toNat).s v5.toNat).e (rd (rd l0 v4.toNat).s v5.toNat).f (rd l0 v4.toNat).a (rd l0 v4.toNat).b (rd l0 v4.toNat).c (rd l0 v4.toNat).d (rd l0 v4.toNat).e (rd l0 v4.toNat).f).d == (rd (rd l0 v4.toNat).s v5.toNat).d)&&(((z8z (rd (rd l0 v4.toNat).s v5.toNat).a (rd (rd l0 v4.toNat).s v5.toNat).b (rd (rd l0 v4.toNat).s v5.toNat).c (rd (rd l0 v4.toNat).s v5.toNat).d (rd (rd l0 v4.toNat).s v5.toNat).e (rd (rd l0 v4.toNat).s v5.toNat).f (rd l0 v4.toNat).a (rd l0 v4.toNat).b (rd l0 v4.toNat).c (rd l0 v4.toNat).d (rd l0 v4.toNat).e (rd l0 v4.toNat).f).e == (rd (rd l0 v4.toNat).s v5.toNat).e)&&(((z8z (rd (rd l0 v4.toNat).s v5.toNat).a (rd (rd l0 v4.toNat).s v5.toNat).b (rd (rd l0 v4.toNat).s v5.toNat).c (rd (rd l0 v4.toNat).s v5.toNat).d (rd (rd l0 v4.toNat).s v5.toNat).e (rd (rd l0 v4.toNat).s v5.toNat).f (rd l0 v4.toNat).a (rd l0 v4.toNat).b (rd l0 v4.toNat).c (rd l0 v4.toNat).d (rd l0 v4.toNat).e (rd l0 v4.toNat).f).f == (rd (rd l0 v4.toNat).s v5.toNat).f)&&true)))&&true))) then (.ret [(.int .i64 8)]) else (.to (.h2 v4 (wrap .i64 (v5+1))))) else .stuck) else (.to (.h3 v4 0))) else .stuck)
 | .h3 v4 v6=>(bif (decide (v6<v4)) then (bif ((decide (0≤v4∧v4<(l0.length:Int)))&&true) then (bif ((decide (0≤v6∧v6<(l0.length:Int)))&&true) then (bif (!((((z8z (rd l0 v4.toNat).a (rd l0 v4.toNat).b (rd l0 v4.toNat).c (rd l0 v4.toNat).d (rd l0 v4.toNat).e (rd l0 v4.toNat).f (rd l0 v6.toNat).a (rd l0 v6.toNat).b (rd l0 v6.toNat).c (rd l0 v6.toNat).d (rd l0 v6.toNat).e (rd l0 v6.toNat).f).a == 0)&&(((z8z (rd l0 v4.toNat).a (rd l0 v4.toNat).b (rd l0 v4.toNat).c (rd l0 v4.toNat).d (rd l0 v4.toNat).e (rd l0 v4.toNat).f (rd l0 v6.toNat).a (rd l0 v6.toNat).b (rd l0 v6.toNat).c (rd l0 v6.toNat).d (rd l0 v6.toNat).e (rd l0 v6.toNat).f).b == 0)&&(((z8z (rd l0 v4.toNat).a (rd l0 v4.toNat).b (rd l0 v4.toNat).c (rd l0 v4.toNat).d (rd l0 v4.toNat).e (rd l0 v4.toNat).f (rd l0 v6.toNat).a (rd l0 v6.toNat).b (rd l0 v6.toNat).c (rd l0 v6.toNat).d (rd l0 v6.toNat).e (rd l0 v6.toNat).f).c == 0)&&true)))&&((((z8z (rd l0 v4.toNat).a (rd l0 v4.toNat).b (rd l0 v4.toNat).c (rd l0 v4.toNat).d (rd l0 v4.toNat).e (rd l0 v4.toNat).f (rd l0 v6.toNat).a (rd l0 v6.toNat).b (rd l0 v6.toNat).c (rd l0 v6.toNat).d (rd l0 v6.toNat).e (rd l0 v6.toNat).f).d == 0)&&(((z8z (rd l0 v4.toNat).a (rd l0 v4.toNat).b (rd l0 v4.toNat).c (rd l0 v4.toNat).d (rd l0 v4.toNat).e (rd l0 v4.toNat).f (rd l0 v6.toNat).a (rd l0 v6.toNat).b (rd l0 v6.toNat).c (rd l0 v6.toNat).d (rd l0 v6.toNat).e (rd l0 v6.toNat).f).e == 0)&&(((z8z (rd l0 v4.toNat).a (rd l0 v4.toNat).b (rd l0 v4.toNat).c (rd l0 v4.toNat).d (rd l0 v4.toNat).e (rd l0 v4.toNat).f (rd l0 v6.toNat).a (rd l0 v6.toNat).b (rd l0 v6.toNat).c (rd l0 v6.toNat).d (rd l0 v6.toNat).e (rd l0 v6.toNat).f).f == 0)&&true)))&&true))) then (.ret [(.int .i64 8)]) else (.to (.h3 v4 (wrap .i64 (v6+1))))) else .stuck) else .stuck) else (.to (.h1 (wrap .i64 (v4+1)))))
def z4x (l0:List Pa):Xx rlcS:=(bif (decide ((l0.length:Int)>50)) then (.ret [(.int .i64 4)]) else (.to (.h0 0)))
theorem w7b (l0:List Pa): ∀s,Xy prog (Zy prog 21) (rlcC l0) (rlcC l0 s) (Ws l0 s)
 | .h0 v3=>(lb (fun k0=>(lo fun aI=>(lo fun bD=>(lb (fun k1=>(lr 93 21 [1,1,0,1,0,0,1,0,0,1,0,0] 1 9 [(2,(ii (Xm (cvT (rd l0 (tn v3)).s))))] (sl Vj 33 [] ⟨[],[],[some [2]],[]⟩ ⟨[],[],[]⟩ (bl 2 3) (pp (pp (xI R6 (rd l0 (tn v3)).s.length (Zz (rd l0 (tn v3)).s)) (xw bD)) (ww aI (tt k1 (pp (pp (xI R6 (rd l0 (tn v3)).s.length (Zz (rd l0 (tn v3)).s)) (xw bD)) (ww aI (tt k0 nn))))))))) (fun k1=>(sl Vj 31 [] ⟨[],[],rlcN0,rlcM0⟩ ⟨[],[],[]⟩ (bl 2 1) (tt k1 (pp (pp (xI R6 (rd l0 (tn v3)).s.length (Zz (rd l0 (tn v3)).s)) (xw bD)) (ww aI (tt k0 nn)))))))))) (fun k0=>(sl Vj 17 [] ⟨[],[],rlcN1,rlcM1⟩ ⟨[],[],[]⟩ [false] (tt k0 nn))))
 | .h1 v4=>(lb (fun k0=>(lo fun aI=>(lb (fun k1=>(lr 93 21 [1,1,1,0,1,0,0,1,0,0,0,1,0,0] 1 9 [(2,(ii 8))] (sl Vj 28 [] ⟨[],[],[some [2]],[]⟩ ⟨[],[],[]⟩ (bl 2 3) (tt k1 (ww aI (tt k0 nn)))))) (fun k1=>(sl Vj 32 [] ⟨[],[],rlcN2,rlcM2⟩ ⟨[],[],[]⟩ (bl 2 1) (tt k1 (ww aI (tt k0 nn)))))))) (fun k0=>(lr 93 3 [1,1,1,1,0] 1 9 [(2,(ii 0))] (sl Vj 14 [] ⟨[],[],[some [2]],[]⟩ ⟨[],[],[]⟩ [false] (tt k0 nn)))))
 | .h2 v4 v5=>(lo fun bH=>(lb (fun k0=>(lo fun aI=>(lb (fun k1=>(lr 93 21 [1,1,1,0,1,0,0,1,0,0,1,0,1,0,0,1,0,0,1,0,0] 1 9 [(2,(ii 8))] (sl Vj 23 [] ⟨[],[],[some [2]],[]⟩ ⟨[],[],[]⟩ (bl 2 3) (tt k1 (ww aI (ww bH (ww bH (ww aI (ww bH (tt k0 (ww bH nn))))))))))) (fun k1=>(sl Vj 27 [] ⟨[],[],rlcN2,rlcM2⟩ ⟨[],[],[]⟩ (bl 2 1) (tt k1 (ww aI (ww bH (ww bH (ww aI (ww bH (tt k0 (ww bH nn))))))))))))) (fun k0=>(sl Vj 20 [] ⟨[],[],rlcN3,rlcM3⟩ ⟨[],[],[]⟩ [false] (tt k0 (ww bH nn))))))
 | .h3 v4 v6=>(lb (fun k0=>(lo fun aI=>(lo fun bD=>(lb (fun k1=>(lr 93 21 [1,1,1,0,1,0,0,1,0,0,1,1,1,0,0,1,0,0,1,0,0] 1 9 [(2,(ii 8))] (sl Vj 18 [] ⟨[],[],[some [2]],[]⟩ ⟨[],[],[]⟩ (bl 2 3) (tt k1 (ww bD (ww aI (tt k0 nn))))))) (fun k1=>(sl Vj 22 [] ⟨[],[],rlcN3,rlcM3⟩ ⟨[],[],[]⟩ (bl 2 1) (tt k1 (ww bD (ww aI (tt k0 nn)))))))))) (fun k0=>(sl Vj 16 [] ⟨[],[],rlcN1,rlcM1⟩ ⟨[],[],[]⟩ [false] (tt k0 nn))))
theorem x7v (l0:List Pa):Xy prog (Zy prog 21) (rlcC l0) (Zg prog 21 [(.dat l0.length (Zz l0))] true []) (z4x l0):=(lb (fun k0=>(lr 93 21 [1,0,1,0,0] 1 9 [(2,(ii 4))] (sl Vj 16 [] ⟨[],[],[some [2]],[]⟩ ⟨[],[],[]⟩ [true] (tt k0 nn)))) (fun k0=>(sl Vj 20 [] ⟨[],[],rlcN0,rlcM0⟩ ⟨[],[],[]⟩ [false] (tt k0 nn))))
theorem w3b (l0:List Pa) (n:Nat) (vs:List AVal) (h:Zr (Ws l0) n (z4x l0)=.ret vs):Uz prog (Zy prog 21) (Zg prog 21 [(.dat l0.length (Zz l0))] true []) vs:=by have:=Zd (w7b l0) n _ (x7v l0);rwa [h] at this
inductive rlmS where
 | h0 (v5:Int)
def rlmC (l0:List Pa) (l1:List Pa):rlmS→Cfg
 | .h0 v5=>⟨⟨42,0,true⟩,none,(Zc prog 12 [1,1,0,1,0,0] 0),none,(Zy prog 6),⟨Yj [(0,(.dat l0.length (Zz l0))),(1,(.dat l1.length (Zz l1))),(5,(ii v5))],Wn [] 0,0,[],true⟩,[],.leaf⟩
def rlmN0 :List (Option (List Nat)):=[some [0,1,5]]
def rlmM0 :List (Option (List Nat)):=[]
def z3z (l0:List Pa) (l1:List Pa):rlmS→Xx rlmS
 | .h0 v5=>(bif (decide (v5<(l0.length:Int))) then (bif ((decide (0≤v5∧v5<(l0.length:Int)))&&true) then (bif ((decide (0≤v5∧v5<(l1.length:Int)))&&true) then (bif (!((((rd l0 v5.toNat).a == (rd l1 v5.toNat).a)&&(((rd l0 v5.toNat).b == (rd l1 v5.toNat).b)&&(((rd l0 v5.toNat).c == (rd l1 v5.toNat).c)&&true)))&&((((rd l0 v5.toNat).d == (rd l1 v5.toNat).d)&&(((rd l0 v5.toNat).e == (rd l1 v5.toNat).e)&&(((rd l0 v5.toNat).f == (rd l1 v5.toNat).f)&&true)))&&true))) then (.ret [(.bool false)]) else (bif (Vn (cvT (rd l0 v5.toNat).s) (cvT (rd l1 v5.toNat).s)) then (bif (!(Ke (cvT (rd l0 v5.toNat).s) (cvT (rd l1 v5.toNat).s))) then (.ret [(.bool false)]) else (.to (.h0 (wrap .i64 (v5+1))))) else .stuck)) else .stuck) else .stuck) else (.ret [(.bool true)]))
def y2u (l0:List Pa) (l1:List Pa):Xx rlmS:=(bif ((l0.length:Int) != (l1.length:Int)) then (.ret [(.bool false)]) else (.to (.h0 0)))
theorem w7a (l0:List Pa) (l1:List Pa): ∀s,Xy prog (Zy prog 12) (rlmC l0 l1) (rlmC l0 l1 s) (z3z l0 l1 s)
 | .h0 v5=>(lb (fun k0=>(lo fun aI=>(lo fun bD=>(lb (fun k1=>(lr 42 12 [1,1,0,1,0,0,1,0,0,1,0,0] 1 6 [(4,(.bool false))] (sl Vj 19 [] ⟨[],[],[some [4]],[]⟩ ⟨[],[],[]⟩ (trs 14 []) (tt k1 (ww bD (ww aI (tt k0 nn))))))) (fun k1=>(lo fun bS=>(lb (fun k2=>(lr 42 12 [1,1,0,1,0,0,1,0,0,1,0,0] 1 6 [(4,(.bool false))] (sl Vj 19 [] ⟨[],[],[some [4]],[]⟩ ⟨[],[],[]⟩ (bl 14 8193) (tt k2 (pp (pp (xI R6 (rd l0 (tn v5)).s.length (Zz (rd l0 (tn v5)).s)) (pp (xI R6 (rd l1 (tn v5)).s.length (Zz (rd l1 (tn v5)).s)) (xw bS))) (ww bD (ww aI (tt k1 (ww bD (ww aI (tt k0 nn))))))))))) (fun k2=>(sl Vj 23 [] ⟨[],[],rlmN0,rlmM0⟩ ⟨[],[],[]⟩ (bl 14 1) (tt k2 (pp (pp (xI R6 (rd l0 (tn v5)).s.length (Zz (rd l0 (tn v5)).s)) (pp (xI R6 (rd l1 (tn v5)).s.length (Zz (rd l1 (tn v5)).s)) (xw bS))) (ww bD (ww aI (tt k1 (ww bD (ww aI (tt k0 nn))))))))))))))))) (fun k0=>(lr 42 3 [1,1,1,1,0] 1 6 [(4,(.bool true))] (sl Vj 14 [] ⟨[],[],[some [4]],[]⟩ ⟨[],[],[]⟩ [false] (tt k0 nn)))))
theorem x7u (l0:List Pa) (l1:List Pa):Xy prog (Zy prog 12) (rlmC l0 l1) (Zg prog 12 [(.dat l0.length (Zz l0)),(.dat l1.length (Zz l1))] true []) (y2u l0 l1):=(lb (fun k0=>(lr 42 12 [1,0,1,0,0] 1 6 [(4,(.bool false))] (sl Vj 18 [] ⟨[],[],[some [4]],[]⟩ ⟨[],[],[]⟩ [true] (tt k0 nn)))) (fun k0=>(sl Vj 22 [] ⟨[],[],rlmN0,rlmM0⟩ ⟨[],[],[]⟩ [false] (tt k0 nn))))
theorem v9i (l0:List Pa) (l1:List Pa) (n:Nat) (vs:List AVal) (h:Zr (z3z l0 l1) n (y2u l0 l1)=.ret vs):Uz prog (Zy prog 12) (Zg prog 12 [(.dat l0.length (Zz l0)),(.dat l1.length (Zz l1))] true []) vs:=by have:=Zd (w7a l0 l1) n _ (x7u l0 l1);rwa [h] at this
inductive rlnS where
 | h0 (v3:Int)
def rlnC (l0:List Pa):rlnS→Cfg
 | .h0 v3=>⟨⟨53,0,true⟩,none,(Zc prog 9 [1,1,0,1,0,0] 0),none,(Zy prog 9),⟨Yj [(0,(.dat l0.length (Zz l0))),(3,(ii v3))],Wn [] 0,0,[],true⟩,[],.leaf⟩
def rlnN0 :List (Option (List Nat)):=[some [0,3]]
def rlnM0 :List (Option (List Nat)):=[]
def z0l (l0:List Pa):rlnS→Xx rlnS
 | .h0 v3=>(bif (decide (v3<(l0.length:Int))) then (bif ((decide (0≤v3∧v3<(l0.length:Int)))&&true) then (bif (decide ((((rd l0 v3.toNat).s.length :Nat):Int)>6)) then (.ret [(.bool false)]) else (bif (Kr (cvT (rd l0 v3.toNat).s)) then (bif (!(x9d (cvT (rd l0 v3.toNat).s))) then (.ret [(.bool false)]) else (bif (!(x6c (rd l0 v3.toNat).a (rd l0 v3.toNat).b (rd l0 v3.toNat).c (-2000000))) then (.ret [(.bool false)]) else (bif (!(x6c (rd l0 v3.toNat).d (rd l0 v3.toNat).e (rd l0 v3.toNat).f (-2000000))) then (.ret [(.bool false)]) else (.to (.h0 (wrap .i64 (v3+1))))))) else .stuck)) else .stuck) else (.ret [(.bool (decide ((l0.length:Int)≤6)))]))
def y2t (l0:List Pa):Xx rlnS:=(bif (decide ((l0.length:Int)>50)) then (.ret [(.bool (decide ((l0.length:Int)≤55)))]) else (.to (.h0 0)))
theorem w6z (l0:List Pa): ∀s,Xy prog (Zy prog 9) (rlnC l0) (rlnC l0 s) (z0l l0 s)
 | .h0 v3=>(lb (fun k0=>(lo fun aI=>(lb (fun k1=>(lr 53 9 [1,1,0,1,0,0,1,0,0,1,1,0,0] 1 9 [(2,(.bool false))] (sl Vj 58 [] ⟨[],[],[some [2]],[]⟩ ⟨[],[],[]⟩ (trs 17 []) (tt k1 (ww aI (ww aI (tt k0 nn))))))) (fun k1=>(lo fun bS=>(lb (fun k2=>(lr 53 9 [1,1,0,1,0,0,1,0,0,1,1,0,0] 1 9 [(2,(.bool false))] (sl Vj 58 [] ⟨[],[],[some [2]],[]⟩ ⟨[],[],[]⟩ (bl 17 130817) (tt k2 (pp (pp (xI R6 (rd l0 (tn v3)).s.length (Zz (rd l0 (tn v3)).s)) (xw bS)) (ww aI (tt k1 (ww aI (ww aI (tt k0 nn)))))))))) (fun k2=>(lb (fun k3=>(lr 53 9 [1,1,0,1,0,0,1,0,0,1,1,0,0] 1 9 [(2,(.bool false))] (sl Vj 58 [] ⟨[],[],[some [2]],[]⟩ ⟨[],[],[]⟩ (bl 17 126977) (tt k3 (tt k2 (pp (pp (xI R6 (rd l0 (tn v3)).s.length (Zz (rd l0 (tn v3)).s)) (xw bS)) (ww aI (tt k1 (ww aI (ww aI (tt k0 nn))))))))))) (fun k3=>(lb (fun k4=>(lr 53 9 [1,1,0,1,0,0,1,0,0,1,1,0,0] 1 9 [(2,(.bool false))] (sl Vj 58 [] ⟨[],[],[some [2]],[]⟩ ⟨[],[],[]⟩ (bl 17 65537) (tt k4 (tt k3 (tt k2 (pp (pp (xI R6 (rd l0 (tn v3)).s.length (Zz (rd l0 (tn v3)).s)) (xw bS)) (ww aI (tt k1 (ww aI (ww aI (tt k0 nn)))))))))))) (fun k4=>(sl Vj 62 [] ⟨[],[],rlnN0,rlnM0⟩ ⟨[],[],[]⟩ (bl 17 1) (tt k4 (tt k3 (tt k2 (pp (pp (xI R6 (rd l0 (tn v3)).s.length (Zz (rd l0 (tn v3)).s)) (xw bS)) (ww aI (tt k1 (ww aI (ww aI (tt k0 nn))))))))))))))))))))) (fun k0=>(lr 53 3 [1,1,1,1,0] 1 9 [(2,(.bool (decide ((l0.length:Int)≤6))))] (sl Vj 17 [] ⟨[],[],[some [2]],[]⟩ ⟨[],[],[]⟩ [false] (tt k0 nn)))))
theorem x7t (l0:List Pa):Xy prog (Zy prog 9) (rlnC l0) (Zg prog 9 [(.dat l0.length (Zz l0))] true []) (y2t l0):=(lb (fun k0=>(lr 53 9 [1,0,1,0,0] 1 9 [(2,(.bool (decide ((l0.length:Int)≤55))))] (sl Vj 19 [] ⟨[],[],[some [2]],[]⟩ ⟨[],[],[]⟩ [true] (tt k0 nn)))) (fun k0=>(sl Vj 20 [] ⟨[],[],rlnN0,rlnM0⟩ ⟨[],[],[]⟩ [false] (tt k0 nn))))
theorem v9h (l0:List Pa) (n:Nat) (vs:List AVal) (h:Zr (z0l l0) n (y2t l0)=.ret vs):Uz prog (Zy prog 9) (Zg prog 9 [(.dat l0.length (Zz l0))] true []) vs:=by have:=Zd (w6z l0) n _ (x7t l0);rwa [h] at this
-- start: index into an array (choices [false, false, false])
inductive algS where
def algC (aJ:Int) (aO:Int) (aQ:Int) (aP:Int):algS→Cfg
 :=nofun
def w1r (aJ:Int) (aO:Int) (aQ:Int) (aP:Int):algS→Xx algS
 :=nofun
def y3u (aJ:Int) (aO:Int) (aQ:Int) (aP:Int):Xx algS:=(bif (decide (aJ=Int.ofNat 0)) then (.ret [(.int .i64 aO)]) else (bif (decide (aJ=Int.ofNat 1)) then (.ret [(.int .i64 aQ)]) else (bif (decide (aJ=Int.ofNat 2)) then (.ret [(.int .i64 aP)]) else .stuck)))
theorem w9q (aJ:Int) (aO:Int) (aQ:Int) (aP:Int): ∀s,Xy prog (Zy prog 81) (algC aJ aO aQ aP) (algC aJ aO aQ aP s) (w1r aJ aO aQ aP s)
 :=nofun
theorem w1s (aJ:Int) (aO:Int) (aQ:Int) (aP:Int):Xy prog (Zy prog 81) (algC aJ aO aQ aP) (Zg prog 81 [(.agg [(.int .i64 aJ)]),(.agg [(.int .i64 aO),(.int .i64 aQ),(.int .i64 aP)])] true []) (y3u aJ aO aQ aP):=(lb (fun k0=>(lr 15 3 [1,1,1,1,0] 1 6 [(4,(ii aO))] (sl Xu 20 [] ⟨[],[],[some [4]],[]⟩ ⟨[],[],[]⟩ [false] (ww k0 nn)))) (fun k0=>(lb (fun k1=>(lr 15 3 [1,1,1,1,0] 1 6 [(4,(ii aQ))] (sl Xu 20 [] ⟨[],[],[some [4]],[]⟩ ⟨[],[],[]⟩ [true,false] (ww k1 nn)))) (fun k1=>(lb (fun k2=>(lr 15 3 [1,1,1,1,0] 1 6 [(4,(ii aP))] (sl Xu 20 [] ⟨[],[],[some [4]],[]⟩ ⟨[],[],[]⟩ [true,true,false] (ww k2 nn)))) (fun k2=>trivial))))))
theorem u2v (aJ:Int) (aO:Int) (aQ:Int) (aP:Int) (n:Nat) (vs:List AVal) (h:Zr (w1r aJ aO aQ aP) n (y3u aJ aO aQ aP)=.ret vs):Uz prog (Zy prog 81) (Zg prog 81 [(.agg [(.int .i64 aJ)]),(.agg [(.int .i64 aO),(.int .i64 aQ),(.int .i64 aP)])] true []) vs:=by have:=Zd (w9q aJ aO aQ aP) n _ (w1s aJ aO aQ aP);rwa [h] at this
-- start: index into an array (choices [false, false, false, false])
inductive fltS where
def fltC (aJ:Int) (aO:Int) (aQ:Int) (aP:Int):fltS→Cfg
 :=nofun
def w0k (aJ:Int) (aO:Int) (aQ:Int) (aP:Int):fltS→Xx fltS
 :=nofun
def y3n (aJ:Int) (aO:Int) (aQ:Int) (aP:Int):Xx fltS:=(bif (aJ == 0) then (.ret [(.int .i64 aQ),(.int .i64 aP)]) else (bif (decide (aJ=Int.ofNat 0)) then (.ret [(.int .i64 aO),(.int .i64 0)]) else (bif (decide (aJ=Int.ofNat 1)) then (.ret [(.int .i64 aO),(.int .i64 aP)]) else (bif (decide (aJ=Int.ofNat 2)) then (.ret [(.int .i64 aO),(.int .i64 aQ)]) else .stuck))))
theorem w8p (aJ:Int) (aO:Int) (aQ:Int) (aP:Int): ∀s,Xy prog (Zy prog 82) (fltC aJ aO aQ aP) (fltC aJ aO aQ aP s) (w0k aJ aO aQ aP s)
 :=nofun
theorem w0l (aJ:Int) (aO:Int) (aQ:Int) (aP:Int):Xy prog (Zy prog 82) (fltC aJ aO aQ aP) (Zg prog 82 [(.agg [(.int .i64 aJ)]),(.agg [(.int .i64 aO),(.int .i64 aQ),(.int .i64 aP)])] true []) (y3n aJ aO aQ aP):=(lb (fun k0=>(lr 23 82 [1,0,1,0,0] 1 16 [(4,(ii aQ)),(5,(ii aP))] (sl Xu 17 [] ⟨[],[],[some [4,5]],[]⟩ ⟨[],[],[]⟩ [true] (tt k0 nn)))) (fun k0=>(lb (fun k1=>(lr 23 3 [1,1,1,1,0] 1 16 [(4,(ii aO)),(5,(ii 0))] (sl Xu 18 [] ⟨[],[],[some [4,5]],[]⟩ ⟨[],[],[]⟩ [false,false] (ww k1 (tt k0 nn))))) (fun k1=>(lb (fun k2=>(lr 23 3 [1,1,1,1,0] 1 16 [(4,(ii aO)),(5,(ii aP))] (sl Xu 18 [] ⟨[],[],[some [4,5]],[]⟩ ⟨[],[],[]⟩ [false,true,false] (ww k2 (tt k0 nn))))) (fun k2=>(lb (fun k3=>(lr 23 3 [1,1,1,1,0] 1 16 [(4,(ii aO)),(5,(ii aQ))] (sl Xu 18 [] ⟨[],[],[some [4,5]],[]⟩ ⟨[],[],[]⟩ [false,true,true,false] (ww k3 (tt k0 nn))))) (fun k3=>trivial))))))))
theorem u1r (aJ:Int) (aO:Int) (aQ:Int) (aP:Int) (n:Nat) (vs:List AVal) (h:Zr (w0k aJ aO aQ aP) n (y3n aJ aO aQ aP)=.ret vs):Uz prog (Zy prog 82) (Zg prog 82 [(.agg [(.int .i64 aJ)]),(.agg [(.int .i64 aO),(.int .i64 aQ),(.int .i64 aP)])] true []) vs:=by have:=Zd (w8p aJ aO aQ aP) n _ (w0l aJ aO aQ aP);rwa [h] at this
-- start: index into an array (choices [false, false, false])
inductive bckS where
def bckC (aJ:Int) (x1:Int) (x2:Int) (x3:Int):bckS→Cfg
 :=nofun
def w1n (aJ:Int) (x1:Int) (x2:Int) (x3:Int):bckS→Xx bckS
 :=nofun
def y3s (aJ:Int) (x1:Int) (x2:Int) (x3:Int):Xx bckS:=(bif (decide (aJ=Int.ofNat 0)) then (.ret [(.agg [(.int .i64 x1),(.int .i64 x2),(.int .i64 x3)])]) else (bif (decide (aJ=Int.ofNat 1)) then (.ret [(.agg [(.int .i64 x2),(.int .i64 x1),(.int .i64 x3)])]) else (bif (decide (aJ=Int.ofNat 2)) then (.ret [(.agg [(.int .i64 x2),(.int .i64 x3),(.int .i64 x1)])]) else .stuck)))
theorem w9o (aJ:Int) (x1:Int) (x2:Int) (x3:Int): ∀s,Xy prog (Zy prog 80) (bckC aJ x1 x2 x3) (bckC aJ x1 x2 x3 s) (w1n aJ x1 x2 x3 s)
 :=nofun
theorem w1o (aJ:Int) (x1:Int) (x2:Int) (x3:Int):Xy prog (Zy prog 80) (bckC aJ x1 x2 x3) (Zg prog 80 [(.agg [(.int .i64 aJ)]),(.int .i64 x1),(.int .i64 x2),(.int .i64 x3)] true []) (y3s aJ x1 x2 x3):=(lb (fun k0=>(Kp ⟨⟨25,0,true⟩,none,(Zc prog 3 [1,1,1,1,0] 1),none,(Zy prog 80),⟨Yj [(8,(.ptr 0 0))],Wn [⟨[(ii x1),(ii x2),(ii x3)],50,none⟩] 0,1,[],true⟩,[],.leaf⟩ (sl Xu 25 [] ⟨[1],[],[some [8]],[]⟩ ⟨[],[],[]⟩ [false] (ww k0 nn)) rfl (by kernel_rfl))) (fun k0=>(lb (fun k1=>(Kp ⟨⟨25,0,true⟩,none,(Zc prog 3 [1,1,1,1,0] 1),none,(Zy prog 80),⟨Yj [(8,(.ptr 0 0))],Wn [⟨[(ii x2),(ii x1),(ii x3)],50,none⟩] 0,1,[],true⟩,[],.leaf⟩ (sl Xu 25 [] ⟨[1],[],[some [8]],[]⟩ ⟨[],[],[]⟩ [true,false] (ww k1 nn)) rfl (by kernel_rfl))) (fun k1=>(lb (fun k2=>(Kp ⟨⟨25,0,true⟩,none,(Zc prog 3 [1,1,1,1,0] 1),none,(Zy prog 80),⟨Yj [(8,(.ptr 0 0))],Wn [⟨[(ii x2),(ii x3),(ii x1)],50,none⟩] 0,1,[],true⟩,[],.leaf⟩ (sl Xu 25 [] ⟨[1],[],[some [8]],[]⟩ ⟨[],[],[]⟩ [true,true,false] (ww k2 nn)) rfl (by kernel_rfl))) (fun k2=>trivial))))))
theorem u2r (aJ:Int) (x1:Int) (x2:Int) (x3:Int) (n:Nat) (vs:List AVal) (h:Zr (w1n aJ x1 x2 x3) n (y3s aJ x1 x2 x3)=.ret vs):Uz prog (Zy prog 80) (Zg prog 80 [(.agg [(.int .i64 aJ)]),(.int .i64 x1),(.int .i64 x2),(.int .i64 x3)] true []) vs:=by have:=Zd (w9o aJ x1 x2 x3) n _ (w1o aJ x1 x2 x3);rwa [h] at this
inductive insS where
def insC (aJ:Int) (aL:Int) (aK:Int) (aR:Int) (aW:Int) (aT:Int) (aO:Int) (aQ:Int) (aP:Int) (bP:Int) (bQ:Int) (bO:Int):insS→Cfg
 :=nofun
def x9z (aJ:Int) (aL:Int) (aK:Int) (aR:Int) (aW:Int) (aT:Int) (aO:Int) (aQ:Int) (aP:Int) (bP:Int) (bQ:Int) (bO:Int):insS→Xx insS
 :=nofun
def y3j (aJ:Int) (aL:Int) (aK:Int) (aR:Int) (aW:Int) (aT:Int) (aO:Int) (aQ:Int) (aP:Int) (bP:Int) (bQ:Int) (bO:Int):Xx insS:=(bif (decide (aJ≥aO)) then (bif (decide (aL≥aQ)) then (bif (decide (aK≥aP)) then (bif (decide (aR≤bP)) then (bif (decide (aW≤bQ)) then (.ret [(.bool (decide (aT≤bO)))]) else (.ret [(.bool false)])) else (.ret [(.bool false)])) else (.ret [(.bool false)])) else (.ret [(.bool false)])) else (.ret [(.bool false)]))
theorem w8k (aJ:Int) (aL:Int) (aK:Int) (aR:Int) (aW:Int) (aT:Int) (aO:Int) (aQ:Int) (aP:Int) (bP:Int) (bQ:Int) (bO:Int): ∀s,Xy prog (Zy prog 54) (insC aJ aL aK aR aW aT aO aQ aP bP bQ bO) (insC aJ aL aK aR aW aT aO aQ aP bP bQ bO s) (x9z aJ aL aK aR aW aT aO aQ aP bP bQ bO s)
 :=nofun
theorem w0a (aJ:Int) (aL:Int) (aK:Int) (aR:Int) (aW:Int) (aT:Int) (aO:Int) (aQ:Int) (aP:Int) (bP:Int) (bQ:Int) (bO:Int):Xy prog (Zy prog 54) (insC aJ aL aK aR aW aT aO aQ aP bP bQ bO) (Zg prog 54 [(.agg [(.int .i64 aJ),(.int .i64 aL),(.int .i64 aK),(.int .i64 aR),(.int .i64 aW),(.int .i64 aT)]),(.agg [(.int .i64 aO),(.int .i64 aQ),(.int .i64 aP),(.int .i64 bP),(.int .i64 bQ),(.int .i64 bO)])] true []) (y3j aJ aL aK aR aW aT aO aQ aP bP bQ bO):=(lb (fun k0=>(lb (fun k1=>(lb (fun k2=>(lb (fun k3=>(lb (fun k4=>(lr 57 3 [1,1,1,1,0] 1 6 [(4,(.bool (decide (aT≤bO))))] (sl Xu 62 [] ⟨[],[],[some [4]],[]⟩ ⟨[],[],[]⟩ (trs 35 []) (tt k4 (tt k3 (tt k2 (tt k1 (tt k0 nn)))))))) (fun k4=>(lr 57 3 [1,1,1,1,0] 1 6 [(4,(.bool false))] (sl Xu 62 [] ⟨[],[],[some [4]],[]⟩ ⟨[],[],[]⟩ (trs 28 [false,false,false,false,false,false,false]) (tt k4 (tt k3 (tt k2 (tt k1 (tt k0 nn)))))))))) (fun k3=>(lr 57 3 [1,1,1,1,0] 1 6 [(4,(.bool false))] (sl Xu 62 [] ⟨[],[],[some [4]],[]⟩ ⟨[],[],[]⟩ (trs 21 [false,false,false,false,false,false,false,false,false,false,false,false,false,false]) (tt k3 (tt k2 (tt k1 (tt k0 nn))))))))) (fun k2=>(lr 57 3 [1,1,1,1,0] 1 6 [(4,(.bool false))] (sl Xu 62 [] ⟨[],[],[some [4]],[]⟩ ⟨[],[],[]⟩ (trs 14 [false,false,false,false,false,false,false,false,false,false,false,false,false,false,false,false,false,false,false,false,false]) (tt k2 (tt k1 (tt k0 nn)))))))) (fun k1=>(lr 57 3 [1,1,1,1,0] 1 6 [(4,(.bool false))] (sl Xu 62 [] ⟨[],[],[some [4]],[]⟩ ⟨[],[],[]⟩ (trs 7 [false,false,false,false,false,false,false,false,false,false,false,false,false,false,false,false,false,false,false,false,false,false,false,false,false,false,false,false]) (tt k1 (tt k0 nn))))))) (fun k0=>(lr 57 3 [1,1,1,1,0] 1 6 [(4,(.bool false))] (sl Xu 62 [] ⟨[],[],[some [4]],[]⟩ ⟨[],[],[]⟩ [false,false,false,false,false,false,false,false,false,false,false,false,false,false,false,false,false,false,false,false,false,false,false,false,false,false,false,false,false,false,false,false,false,false,false] (tt k0 nn)))))
theorem u1n (aJ:Int) (aL:Int) (aK:Int) (aR:Int) (aW:Int) (aT:Int) (aO:Int) (aQ:Int) (aP:Int) (bP:Int) (bQ:Int) (bO:Int) (n:Nat) (vs:List AVal) (h:Zr (x9z aJ aL aK aR aW aT aO aQ aP bP bQ bO) n (y3j aJ aL aK aR aW aT aO aQ aP bP bQ bO)=.ret vs):Uz prog (Zy prog 54) (Zg prog 54 [(.agg [(.int .i64 aJ),(.int .i64 aL),(.int .i64 aK),(.int .i64 aR),(.int .i64 aW),(.int .i64 aT)]),(.agg [(.int .i64 aO),(.int .i64 aQ),(.int .i64 aP),(.int .i64 bP),(.int .i64 bQ),(.int .i64 bO)])] true []) vs:=by have:=Zd (w8k aJ aL aK aR aW aT aO aQ aP bP bQ bO) n _ (w0a aJ aL aK aR aW aT aO aQ aP bP bQ bO);rwa [h] at this
inductive meeS where
def meeC (aJ:Int) (aL:Int) (aK:Int) (aR:Int) (aW:Int) (aT:Int) (aO:Int) (aQ:Int) (aP:Int) (bP:Int) (bQ:Int) (bO:Int):meeS→Cfg
 :=nofun
def x9g (aJ:Int) (aL:Int) (aK:Int) (aR:Int) (aW:Int) (aT:Int) (aO:Int) (aQ:Int) (aP:Int) (bP:Int) (bQ:Int) (bO:Int):meeS→Xx meeS
 :=nofun
def y3f (aJ:Int) (aL:Int) (aK:Int) (aR:Int) (aW:Int) (aT:Int) (aO:Int) (aQ:Int) (aP:Int) (bP:Int) (bQ:Int) (bO:Int):Xx meeS:=(bif (decide (aJ<bP)) then (bif (decide (aO<aR)) then (bif (decide (aL<bQ)) then (bif (decide (aQ<aW)) then (bif (decide (aK<bO)) then (.ret [(.bool (decide (aP<aT)))]) else (.ret [(.bool false)])) else (.ret [(.bool false)])) else (.ret [(.bool false)])) else (.ret [(.bool false)])) else (.ret [(.bool false)]))
theorem w7x (aJ:Int) (aL:Int) (aK:Int) (aR:Int) (aW:Int) (aT:Int) (aO:Int) (aQ:Int) (aP:Int) (bP:Int) (bQ:Int) (bO:Int): ∀s,Xy prog (Zy prog 56) (meeC aJ aL aK aR aW aT aO aQ aP bP bQ bO) (meeC aJ aL aK aR aW aT aO aQ aP bP bQ bO s) (x9g aJ aL aK aR aW aT aO aQ aP bP bQ bO s)
 :=nofun
theorem x9h (aJ:Int) (aL:Int) (aK:Int) (aR:Int) (aW:Int) (aT:Int) (aO:Int) (aQ:Int) (aP:Int) (bP:Int) (bQ:Int) (bO:Int):Xy prog (Zy prog 56) (meeC aJ aL aK aR aW aT aO aQ aP bP bQ bO) (Zg prog 56 [(.agg [(.int .i64 aJ),(.int .i64 aL),(.int .i64 aK),(.int .i64 aR),(.int .i64 aW),(.int .i64 aT)]),(.agg [(.int .i64 aO),(.int .i64 aQ),(.int .i64 aP),(.int .i64 bP),(.int .i64 bQ),(.int .i64 bO)])] true []) (y3f aJ aL aK aR aW aT aO aQ aP bP bQ bO):=(lb (fun k0=>(lb (fun k1=>(lb (fun k2=>(lb (fun k3=>(lb (fun k4=>(lr 57 3 [1,1,1,1,0] 1 6 [(4,(.bool (decide (aP<aT))))] (sl Xu 62 [] ⟨[],[],[some [4]],[]⟩ ⟨[],[],[]⟩ (trs 35 []) (tt k4 (tt k3 (tt k2 (tt k1 (tt k0 nn)))))))) (fun k4=>(lr 57 3 [1,1,1,1,0] 1 6 [(4,(.bool false))] (sl Xu 62 [] ⟨[],[],[some [4]],[]⟩ ⟨[],[],[]⟩ (trs 28 [false,false,false,false,false,false,false]) (tt k4 (tt k3 (tt k2 (tt k1 (tt k0 nn)))))))))) (fun k3=>(lr 57 3 [1,1,1,1,0] 1 6 [(4,(.bool false))] (sl Xu 62 [] ⟨[],[],[some [4]],[]⟩ ⟨[],[],[]⟩ (trs 21 [false,false,false,false,false,false,false,false,false,false,false,false,false,false]) (tt k3 (tt k2 (tt k1 (tt k0 nn))))))))) (fun k2=>(lr 57 3 [1,1,1,1,0] 1 6 [(4,(.bool false))] (sl Xu 62 [] ⟨[],[],[some [4]],[]⟩ ⟨[],[],[]⟩ (trs 14 [false,false,false,false,false,false,false,false,false,false,false,false,false,false,false,false,false,false,false,false,false]) (tt k2 (tt k1 (tt k0 nn)))))))) (fun k1=>(lr 57 3 [1,1,1,1,0] 1 6 [(4,(.bool false))] (sl Xu 62 [] ⟨[],[],[some [4]],[]⟩ ⟨[],[],[]⟩ (trs 7 [false,false,false,false,false,false,false,false,false,false,false,false,false,false,false,false,false,false,false,false,false,false,false,false,false,false,false,false]) (tt k1 (tt k0 nn))))))) (fun k0=>(lr 57 3 [1,1,1,1,0] 1 6 [(4,(.bool false))] (sl Xu 62 [] ⟨[],[],[some [4]],[]⟩ ⟨[],[],[]⟩ [false,false,false,false,false,false,false,false,false,false,false,false,false,false,false,false,false,false,false,false,false,false,false,false,false,false,false,false,false,false,false,false,false,false,false] (tt k0 nn)))))
theorem u0x (aJ:Int) (aL:Int) (aK:Int) (aR:Int) (aW:Int) (aT:Int) (aO:Int) (aQ:Int) (aP:Int) (bP:Int) (bQ:Int) (bO:Int) (n:Nat) (vs:List AVal) (h:Zr (x9g aJ aL aK aR aW aT aO aQ aP bP bQ bO) n (y3f aJ aL aK aR aW aT aO aQ aP bP bQ bO)=.ret vs):Uz prog (Zy prog 56) (Zg prog 56 [(.agg [(.int .i64 aJ),(.int .i64 aL),(.int .i64 aK),(.int .i64 aR),(.int .i64 aW),(.int .i64 aT)]),(.agg [(.int .i64 aO),(.int .i64 aQ),(.int .i64 aP),(.int .i64 bP),(.int .i64 bQ),(.int .i64 bO)])] true []) vs:=by have:=Zd (w7x aJ aL aK aR aW aT aO aQ aP bP bQ bO) n _ (x9h aJ aL aK aR aW aT aO aQ aP bP bQ bO);rwa [h] at this
def axO (a:Int):Bool:=decide (a=Int.ofNat 0)||(decide (a=Int.ofNat 1)||decide (a=Int.ofNat 2))
def w9r (a x y z:Int):Int:=bif decide (a=Int.ofNat 0) then x else bif decide (a=Int.ofNat 1) then y else z
def z2d (a _ _ _:Int):Bool:=axO a
theorem j6n (a x y z:Int) (h:z2d a x y z=true): ∃N,Zr (w1r a x y z) N (y3u a x y z)=.ret [.int .i64 (w9r a x y z)]:=⟨0,by
 revert h;unfold z2d axO y3u w9r;cases decide (a=Int.ofNat 0) <;> cases decide (a=Int.ofNat 1) <;> cases decide (a=Int.ofNat 2) <;> intro h <;> first | rfl | cases h⟩
def z2a (a x y _z:Int):Int:=bif decide (a=Int.ofNat 0) then y else x
def z1z (a _x y z:Int):Int:=bif decide (a=Int.ofNat 0) then z else bif decide (a=Int.ofNat 1) then z else y
def z1y (a _ _ _:Int):Bool:=axO a
theorem j3l (a x y z:Int) (h:z1y a x y z=true): ∃N,Zr (w0k a x y z) N (y3n a x y z)=.ret [.int .i64 (z2a a x y z),.int .i64 (z1z a x y z)]:=⟨0,by
 revert h;have e:(a == 0)=decide (a=Int.ofNat 0):=rfl;unfold z1y axO y3n z2a z1z;rw [e];cases decide (a=Int.ofNat 0) <;> cases decide (a=Int.ofNat 1) <;> cases decide (a=Int.ofNat 2) <;> intro h <;> first | rfl | cases h⟩
def j6l (a p x y:Int):R3:=bif decide (a=Int.ofNat 0) then ⟨p,x,y⟩ else bif decide (a=Int.ofNat 1) then ⟨x,p,y⟩ else ⟨x,y,p⟩
def y6i (a _ _ _:Int):Bool:=axO a
theorem j6k (a p x y:Int) (h:y6i a p x y=true): ∃N,Zr (w1n a p x y) N (y3s a p x y)=.ret [.agg [.int .i64 (j6l a p x y).a,.int .i64 (j6l a p x y).b,.int .i64 (j6l a p x y).c]]:=⟨0,by
 revert h;unfold y6i axO y3s j6l;cases decide (a=Int.ofNat 0) <;> cases decide (a=Int.ofNat 1) <;> cases decide (a=Int.ofNat 2) <;> intro h <;> first | rfl | cases h⟩
def fAlg :List AVal→Option (AVal×Bool)
 | [.agg [.int .i64 aJ],.agg [.int .i64 aO,.int .i64 aQ,.int .i64 aP]]=>some (.int .i64 (w9r aJ aO aQ aP),z2d aJ aO aQ aP)
 | _=>none
theorem j5n {S:Specs} (hS:Zv prog S):Zv prog (S.with u7j fAlg):=by
 refine Qe hS (by kernel_rfl) fun args v h=> ?_;unfold fAlg at h;split at h
 ·rename_i aJ aO aQ aP;simp only [Ae,Ad,Ac] at h;obtain ⟨rfl,hw⟩:=h;obtain ⟨N,hN⟩:=j6n aJ aO aQ aP hw;exact ⟨_,_,(.cons (.refl _) (.cons (.refl _) .nil)),rfl,u2v aJ aO aQ aP N _ hN,3,rfl⟩
 ·cases h
def fFlt :List AVal→Option (AVal×Bool)
 | [.agg [.int .i64 aJ],.agg [.int .i64 aO,.int .i64 aQ,.int .i64 aP]]=>some (.tup [.int .i64 (z2a aJ aO aQ aP),.int .i64 (z1z aJ aO aQ aP)],z1y aJ aO aQ aP)
 | _=>none
theorem j5e {S:Specs} (hS:Zv prog S):Zv prog (S.with nFlat fFlt):=by
 refine Qe hS (by kernel_rfl) fun args v h=> ?_;unfold fFlt at h;split at h
 ·rename_i aJ aO aQ aP;simp only [Ae,Ad,Ac] at h;obtain ⟨rfl,hw⟩:=h;obtain ⟨N,hN⟩:=j3l aJ aO aQ aP hw;exact ⟨_,_,(.cons (.refl _) (.cons (.refl _) .nil)),rfl,u1r aJ aO aQ aP N _ hN,3,rfl⟩
 ·cases h
def fBck :List AVal→Option (AVal×Bool)
 | [.agg [.int .i64 a],.int .i64 p,.int .i64 x,.int .i64 y]=>some (.agg [.int .i64 (j6l a p x y).a,.int .i64 (j6l a p x y).b,.int .i64 (j6l a p x y).c],y6i a p x y)
 | _=>none
theorem j5m {S:Specs} (hS:Zv prog S):Zv prog (S.with nBack fBck):=by
 refine Qe hS (by kernel_rfl) fun args v h=> ?_;unfold fBck at h;split at h
 ·rename_i a p x y;simp only [Ae,Ad] at h;obtain ⟨rfl,hw⟩:=h;obtain ⟨N,hN⟩:=j6k a p x y hw;exact ⟨_,_,(.cons (.refl _) (.cons (.refl _) (.cons (.refl _) (.cons (.refl _) .nil)))),rfl,u2r a p x y N _ hN,3,rfl⟩
 ·cases h
def u7u (a b c d e f a2 b2 c2 d2 e2 f2:Int):Bool:=decide (a≥a2)&&(decide (b≥b2)&&(decide (c≥c2)&&(decide (d≤d2)&&(decide (e≤e2)&&decide (f≤f2)))))
theorem j3g (a b c d e f a2 b2 c2 d2 e2 f2:Int): ∃N,Zr (x9z a b c d e f a2 b2 c2 d2 e2 f2) N (y3j a b c d e f a2 b2 c2 d2 e2 f2)=.ret [.bool (u7u a b c d e f a2 b2 c2 d2 e2 f2)]:=⟨0,by
 unfold y3j u7u;cases decide (a≥a2) <;> cases decide (b≥b2) <;> cases decide (c≥c2) <;> cases decide (d≤d2) <;> cases decide (e≤e2) <;> cases decide (f≤f2) <;> rfl⟩
def u7k (a b c d e f a2 b2 c2 d2 e2 f2:Int):Bool:=decide (a<d2)&&(decide (a2<d)&&(decide (b<e2)&&(decide (b2<e)&&(decide (c<f2)&&decide (c2<f)))))
theorem j2u (a b c d e f a2 b2 c2 d2 e2 f2:Int): ∃N,Zr (x9g a b c d e f a2 b2 c2 d2 e2 f2) N (y3f a b c d e f a2 b2 c2 d2 e2 f2)=.ret [.bool (u7k a b c d e f a2 b2 c2 d2 e2 f2)]:=⟨0,by
 unfold y3f u7k;cases decide (a<d2) <;> cases decide (a2<d) <;> cases decide (b<e2) <;> cases decide (b2<e) <;> cases decide (c<f2) <;> cases decide (c2<f) <;> rfl⟩
def fIns :List AVal→Option (AVal×Bool)
 | [.agg [.int .i64 aJ,.int .i64 aL,.int .i64 aK,.int .i64 aR,.int .i64 aW,.int .i64 aT],.agg [.int .i64 aO,.int .i64 aQ,.int .i64 aP,.int .i64 bP,.int .i64 bQ,.int .i64 bO]]=>some (.bool (u7u aJ aL aK aR aW aT aO aQ aP bP bQ bO),true)
 | _=>none
theorem j5b {S:Specs} (hS:Zv prog S):Zv prog (S.with w3w fIns):=by
 refine Qe hS (by kernel_rfl) fun args v h=> ?_;unfold fIns at h;split at h
 ·rename_i aJ aL aK aR aW aT aO aQ aP bP bQ bO;simp only [Ae,Ad,Bl] at h;subst h;obtain ⟨N,hN⟩:=j3g aJ aL aK aR aW aT aO aQ aP bP bQ bO;exact ⟨_,_,(.cons (.refl _) (.cons (.refl _) .nil)),rfl,u1n aJ aL aK aR aW aT aO aQ aP bP bQ bO N _ hN,3,rfl⟩
 ·cases h
def fMee :List AVal→Option (AVal×Bool)
 | [.agg [.int .i64 aJ,.int .i64 aL,.int .i64 aK,.int .i64 aR,.int .i64 aW,.int .i64 aT],.agg [.int .i64 aO,.int .i64 aQ,.int .i64 aP,.int .i64 bP,.int .i64 bQ,.int .i64 bO]]=>some (.bool (u7k aJ aL aK aR aW aT aO aQ aP bP bQ bO),true)
 | _=>none
theorem j4z {S:Specs} (hS:Zv prog S):Zv prog (S.with u7a fMee):=by
 refine Qe hS (by kernel_rfl) fun args v h=> ?_;unfold fMee at h;split at h
 ·rename_i aJ aL aK aR aW aT aO aQ aP bP bQ bO;simp only [Ae,Ad,Bl] at h;subst h;obtain ⟨N,hN⟩:=j2u aJ aL aK aR aW aT aO aQ aP bP bQ bO;exact ⟨_,_,(.cons (.refl _) (.cons (.refl _) .nil)),rfl,u0x aJ aL aK aR aW aT aO aQ aP bP bQ bO N _ hN,3,rfl⟩
 ·cases h
def Vb :Specs:=(((((Va.with u7j fAlg).with nFlat fFlt).with nBack fBck).with w3w fIns).with u7a fMee)
theorem Kc :Zv prog Vb:=(j4z (j5b (j5m (j5e (j5n Xu)))))
inductive sctS where
 | h0 (v8:List R4) (v17:Int)
abbrev y7z (v8:List R4) (aJ:Int) (l1:List R6) (v17:Int):=(v8++[(R4.mk (z2a aJ (rd l1 (tn v17)).a (rd l1 (tn v17)).b (rd l1 (tn v17)).c) (z1z aJ (rd l1 (tn v17)).a (rd l1 (tn v17)).b (rd l1 (tn v17)).c) (z2a aJ (rd l1 (tn v17)).d (rd l1 (tn v17)).e (rd l1 (tn v17)).f) (z1z aJ (rd l1 (tn v17)).d (rd l1 (tn v17)).e (rd l1 (tn v17)).f))])
abbrev u4h (v8:List R4) (aJ:Int) (l1:List R6) (v17:Int):=(Zh (Zz v8) 0 v8.length 4 [(ii (z2a aJ (rd l1 (tn v17)).a (rd l1 (tn v17)).b (rd l1 (tn v17)).c)),(ii (z1z aJ (rd l1 (tn v17)).a (rd l1 (tn v17)).b (rd l1 (tn v17)).c)),(ii (z2a aJ (rd l1 (tn v17)).d (rd l1 (tn v17)).e (rd l1 (tn v17)).f)),(ii (z1z aJ (rd l1 (tn v17)).d (rd l1 (tn v17)).e (rd l1 (tn v17)).f))])
def sctC (aJ:Int) (l1:List R6) (x2:Int):sctS→Cfg
 | .h0 v8 v17=>⟨⟨62,0,true⟩,none,(Zc prog 47 [1,1,0,1,0,0] 0),none,(Zy prog 10),⟨Yj [(2,(ii x2)),(3,(.ptr 0 0)),(8,(.sla 1 4 0 v8.length (.un 4))),(15,(.dat l1.length (Zz l1))),(16,(ii (l1.length:Int))),(17,(ii v17))],Wn [⟨[(ii aJ)],79,none⟩,⟨Yk v8.length (Zz v8),116,some ⟨4,v8.length,(Zz v8)⟩⟩] 0,2,[],true⟩,[],.leaf⟩
def v7z :List (Option (List Nat)):=[some [2,3,8,15,16,17]]
def v8a :List (Option (List Nat)):=[]
def z3s (aJ:Int) (l1:List R6) (x2:Int):sctS→Xx sctS
 | .h0 v8 v17=>(bif (decide (v17<(l1.length:Int))) then (bif ((decide (0≤v17∧v17<(l1.length:Int)))&&true) then (bif (z2d aJ (rd l1 v17.toNat).a (rd l1 v17.toNat).b (rd l1 v17.toNat).c) then (bif (decide ((w9r aJ (rd l1 v17.toNat).a (rd l1 v17.toNat).b (rd l1 v17.toNat).c)≤x2)) then (bif (z2d aJ (rd l1 v17.toNat).d (rd l1 v17.toNat).e (rd l1 v17.toNat).f) then (bif (decide (x2<(w9r aJ (rd l1 v17.toNat).d (rd l1 v17.toNat).e (rd l1 v17.toNat).f))) then (bif (z1y aJ (rd l1 v17.toNat).a (rd l1 v17.toNat).b (rd l1 v17.toNat).c) then (bif (z1y aJ (rd l1 v17.toNat).d (rd l1 v17.toNat).e (rd l1 v17.toNat).f) then (bif (Nat.beq 4 4&&((decide (0+v8.length=v8.length))&&decide ((v8.length+1+1)*(32+1)≤room))) then (.to (.h0 (v8++[(R4.mk (z2a aJ (rd l1 v17.toNat).a (rd l1 v17.toNat).b (rd l1 v17.toNat).c) (z1z aJ (rd l1 v17.toNat).a (rd l1 v17.toNat).b (rd l1 v17.toNat).c) (z2a aJ (rd l1 v17.toNat).d (rd l1 v17.toNat).e (rd l1 v17.toNat).f) (z1z aJ (rd l1 v17.toNat).d (rd l1 v17.toNat).e (rd l1 v17.toNat).f))]) (wrap .i64 (v17+1)))) else .stuck) else .stuck) else .stuck) else (.to (.h0 v8 (wrap .i64 (v17+1))))) else .stuck) else (.to (.h0 v8 (wrap .i64 (v17+1))))) else .stuck) else .stuck) else (bif (Uu (cvT v8)) then (.ret [(.dat (Zm (cvT v8)).length (Zz (Zm (cvT v8)))),(.int .i64 (Yo (cvT v8)))]) else .stuck))
def x0o (aJ:Int) (l1:List R6) (x2:Int):Xx sctS:=(.to (.h0 ([]:List R4) 0))
theorem w6e (aJ:Int) (l1:List R6) (x2:Int): ∀s,Xy prog (Zy prog 47) (sctC aJ l1 x2) (sctC aJ l1 x2 s) (z3s aJ l1 x2 s)
 | .h0 v8 v17=>(lb (fun k0=>(lo fun aI=>(lo fun bD=>(lb (fun k1=>(lo fun bS=>(lb (fun k2=>(lo fun o0=>(lo fun o1=>(lo fun o2=>(sl Kc 75 [] ⟨[0,4],[],v7z,v8a⟩ ⟨[(8,.len (y7z v8 aJ l1 v17).length)],[.keep,.rowed 4 (y7z v8 aJ l1 v17).length (Zz (y7z v8 aJ l1 v17))],[]⟩ (trs 8 []) (pp (xL (v8.length+1) (y7z v8 aJ l1 v17).length) (pp (xL (v8.length+1) (y7z v8 aJ l1 v17).length) (pp (xS (v8.length+1) (u4h v8 aJ l1 v17) (Zz (y7z v8 aJ l1 v17))) (pp (pp (xF (u4h v8 aJ l1 v17)) nn) (ww o2 (ww o1 (ww o0 (tt k2 (ww bS (tt k1 (ww bD (ww aI (tt k0 nn)))))))))))))))))) (fun k2=>(sl Kc 41 [] ⟨[0,1],[],v7z,v8a⟩ ⟨[],[],[]⟩ (trs 7 [false]) (pp (fl v8 nn) (tt k2 (ww bS (tt k1 (ww bD (ww aI (tt k0 nn)))))))))))) (fun k1=>(sl Kc 41 [] ⟨[0,1],[],v7z,v8a⟩ ⟨[],[],[]⟩ (bl 8 1) (pp (fl v8 nn) (tt k1 (ww bD (ww aI (tt k0 nn))))))))))) (fun k0=>(Wy (sl Kc (C':=⟨⟨62,0,true⟩,(Vk prog 47 [1,1,1,0] 1),(Zc prog 47 [1,1,1,0] 1),none,(Zy prog 10),⟨Yj [(58,(.dat v8.length (Zz v8)))],Wn [] 0,0,[],true⟩,[],.leaf⟩) 10 [] ⟨[],[1],[some [58]],[]⟩ ⟨[(58,.frz v8.length v8.length (Zz v8) (Zz v8))],[],[]⟩ [false] (pp (xZ (z1o 4 4 0 v8.length v8.length (Zz v8)) v8.length (Zz v8)) (pp (xL v8.length v8.length) (pp (xS v8.length (Zz v8) (Zz v8)) (pp (fl v8 nn) (tt k0 nn)))))) (lo fun o0=>(lr 62 3 [1,1,1,1,0] 1 10 [(6,(.dat (Zm (cvT v8)).length (Zz (Zm (cvT v8))))),(7,(ii (Yo (cvT v8))))] (sl Kc 6 [] ⟨[],[],[some [6,7]],[]⟩ ⟨[],[],[]⟩ [] (pp (pp (xr v8) (xw o0)) nn)))))))
theorem x6y (aJ:Int) (l1:List R6) (x2:Int):Xy prog (Zy prog 47) (sctC aJ l1 x2) (Zg prog 47 [(.agg [(.int .i64 aJ)]),(.dat l1.length (Zz l1)),(.int .i64 x2)] true []) (x0o aJ l1 x2):=(sl Kc 19 [(116,4,Zz ([]:List R4))] ⟨[0,1],[],v7z,v8a⟩ ⟨[(8,.grow 1 4)],[],[]⟩ [] (pp (fl ([]:List R4) nn) nn))
theorem v7y (aJ:Int) (l1:List R6) (x2:Int) (n:Nat) (vs:List AVal) (h:Zr (z3s aJ l1 x2) n (x0o aJ l1 x2)=.ret vs):Uz prog (Zy prog 47) (Zg prog 47 [(.agg [(.int .i64 aJ)]),(.dat l1.length (Zz l1)),(.int .i64 x2)] true []) vs:=by have:=Zd (w6e aJ l1 x2) n _ (x6y aJ l1 x2);rwa [h] at this
inductive swhS where
 | h0 (v4:List R6) (v10:Int)
def swhC (l0:List Pa):swhS→Cfg
 | .h0 v4 v10=>⟨⟨26,0,true⟩,none,(Zc prog 44 [1,1,0,1,0,0] 0),none,(Zy prog 14),⟨Yj [(4,(.dat v4.length (Zz v4))),(8,(.dat l0.length (Zz l0))),(9,(ii (l0.length:Int))),(10,(ii v10))],Wn [] 0,0,[],true⟩,[],.leaf⟩
def swhN0 :List (Option (List Nat)):=[some [4,8,9,10]]
def swhM0 :List (Option (List Nat)):=[]
def z6b (l0:List Pa):swhS→Xx swhS
 | .h0 v4 v10=>(bif (decide (v10<(l0.length:Int))) then (bif ((decide (0≤v10∧v10<(l0.length:Int)))&&true) then (bif (z4s .u (cvT v4) (cvT (rd l0 v10.toNat).s)) then (bif ((z3r .u (cvT v4) (cvT (rd l0 v10.toNat).s)) != 0) then (.ret [.nils,(.int .i64 (z3r .u (cvT v4) (cvT (rd l0 v10.toNat).s)))]) else (.to (.h0 (z2i .u (cvT v4) (cvT (rd l0 v10.toNat).s)) (wrap .i64 (v10+1))))) else .stuck) else .stuck) else (.ret [(.dat v4.length (Zz v4)),(.int .i64 0)]))
def x0c (l0:List Pa):Xx swhS:=(.to (.h0 ([]:List R6) 0))
theorem w5n (l0:List Pa): ∀s,Xy prog (Zy prog 44) (swhC l0) (swhC l0 s) (z6b l0 s)
 | .h0 v4 v10=>(lb (fun k0=>(lo fun aI=>(lo fun bD=>(lb (fun k1=>(lr 26 44 [1,1,0,1,0,0,1,1,0,0,1,1,1,1,0,0] 1 14 [(2,.nils),(3,(ii (z3r .u (cvT v4) (cvT (rd l0 (tn v10)).s))))] (sl Kc 44 [] ⟨[],[],[some [2,3]],[]⟩ ⟨[],[],[]⟩ (bl 2 3) (tt k1 (pp (pp (xr v4) (pp (xI R6 (rd l0 (tn v10)).s.length (Zz (rd l0 (tn v10)).s)) (xw bD))) (ww aI (tt k0 nn))))))) (fun k1=>(sl Kc 45 [] ⟨[],[],swhN0,swhM0⟩ ⟨[],[],[]⟩ (bl 2 1) (tt k1 (pp (pp (xr v4) (pp (xI R6 (rd l0 (tn v10)).s.length (Zz (rd l0 (tn v10)).s)) (xw bD))) (ww aI (tt k0 nn)))))))))) (fun k0=>(lr 26 3 [1,1,1,1,0] 1 14 [(2,(.dat v4.length (Zz v4))),(3,(ii 0))] (sl Kc 13 [] ⟨[],[],[some [2,3]],[]⟩ ⟨[],[],[]⟩ [false] (tt k0 nn)))))
theorem x6n (l0:List Pa):Xy prog (Zy prog 44) (swhC l0) (Zg prog 44 [(.dat l0.length (Zz l0))] true []) (x0c l0):=(sl Kc 18 [] ⟨[],[],swhN0,swhM0⟩ ⟨[(4,.list 0 (Zz ([]:List R6)))],[],[]⟩ [] nn)
theorem v7g (l0:List Pa) (n:Nat) (vs:List AVal) (h:Zr (z6b l0) n (x0c l0)=.ret vs):Uz prog (Zy prog 44) (Zg prog 44 [(.dat l0.length (Zz l0))] true []) vs:=by have:=Zd (w5n l0) n _ (x6n l0);rwa [h] at this
end Go.Am
end
