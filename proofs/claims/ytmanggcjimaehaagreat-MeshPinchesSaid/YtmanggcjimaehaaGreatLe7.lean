/- A part of a proof: several texts in one. -/
import Derived.Test.YtmanggcjimaehaaGreatLe6
import Derived.WideShapes
import Derived.ChangeShapes
set_option maxRecDepth 1000000
set_option maxHeartbeats 8000000
set_option linter.unusedVariables false
set_option linter.unusedSimpArgs false
noncomputable section
namespace Go.Am
open IntKind (wrap)
open Go.Proofs Go.Sort Go.Shelf Go.RowKit Go.Lib
abbrev F3 :=Int→Int→Int→Int
def Bd (c:F3):Prop:= ∀x y z,c x y z≠0→fn3 x y z
theorem u1l (lo:Int) (n:Nat):(x6z lo n).Pairwise (· < ·):=
 List.pairwise_map.2 (List.pairwise_lt_range.imp fun {a b} h=>by omega)
theorem w4d (lo:Int) (n:Nat) (x:Int):x∈x6z lo n↔lo≤x∧x<lo+(n:Int):=by
 unfold x6z;rw [AO];constructor
 ·rintro ⟨k,hk,rfl⟩;have:=A2.1 hk;omega
 ·intro h;exact ⟨(x - lo).toNat,A2.2 (by omega),by omega⟩
theorem u5g (g:Int→Int): ∀(m:Nat) (A:Int),sm (List.range m) (fun i:Nat=>g (A+(m:Int) - 1 - (i:Int)))=sm (List.range m) fun i:Nat=>g (A+(i:Int))
 | 0,_=>rfl
 | m+1,A=>by
  have ih:=u5g g m (A+1);have e:(sm (List.range (m+1)) fun i:Nat=>g (A+(i:Int)))=g A+sm (List.range m) fun i:Nat=>g (A+1+(i:Int)):=by
   rw [List.range_succ_eq_map,Xd,x4b]
   congr 1
   ·congr 1;omega
   ·exact Zp fun i _=>by congr 1;omega
  rw [e,←ih,BD,Uy,Xd,z1e,A5,Int.add_comm (g A)]
  congr 1
  ·exact Zp fun i _=>by congr 1;omega
  ·congr 1;omega
section
variable {p:List Int} (hp:PtS p)
include hp
theorem v9l {g:Int→Int} {A:Int} {m:Nat} (h1: -1000005≤A) (h2:A+(m:Int)≤1000005) (hg: ∀x,g x≠0→A≤x∧x<A+(m:Int)):sm p g=sm (List.range m) fun i:Nat=>g (A+(i:Int)):=by rw [←hp.sum g (x6z A m) (u1l A m) (fun x hx=>by have:=(w4d A m x).1 hx;omega) fun x hx=>AL fun k=>hx ((w4d A m x).2 (hg x k))];exact x4b _ _ _
theorem sm_re (s:Bool) (k:Int) {g:Int→Int} (h1: ∀x,g x≠0→ -1000000≤x∧x≤1000000) (h2: ∀x,g (sg s x+k)≠0→ -1000000≤x∧x≤1000000):sm p (fun x=>g (sg s x+k))=sm p g:=by
 by_cases hn: ∀x,g x=0
 ·rw [Zp (g:=fun _=>0) fun x _=>hn _,Wc,Zp (g:=fun _=>0) fun x _=>hn _,Wc]
 ·have hn: ∃x,g x≠0:=AL fun k=>hn fun x=>AL fun j=>k ⟨x,j⟩;obtain ⟨x0,hx0⟩:=hn;have b0:=h1 x0 hx0;cases s with
  | true=>
   have c0:=h2 (x0 - k) (by show g (x0 - k+k)≠0;rwa [Int.sub_add_cancel]);have sup: ∀x,g x≠0→max (-1000000) (-1000000+k)≤x∧x≤min 1000000 (1000000+k):=fun x hx=>by have a:=h1 x hx;have b:=h2 (x - k) (by show g (x - k+k)≠0;rwa [Int.sub_add_cancel]);omega
   rw [v9l hp (g:=g) (A:=max (-1000000) (-1000000+k)) (m:=(min 1000000 (1000000+k) - max (-1000000) (-1000000+k)+1).toNat) (by omega) (by omega) fun x hx=>by have:=sup x hx;omega];show sm p (fun x=>g (x+k))=_;rw [v9l hp (g:=fun x=>g (x+k)) (A:=max (-1000000) (-1000000+k) - k) (m:=(min 1000000 (1000000+k) - max (-1000000) (-1000000+k)+1).toNat) (by omega) (by omega) fun x hx=>by have:=sup (x+k) hx;omega];exact Zp fun i _=>by congr 1;omega
  | false=>
   have c0:=h2 (k - x0) (by show g (-(k - x0)+k)≠0;rwa [show -(k - x0)+k=x0 by omega]);have sup: ∀x,g x≠0→max (-1000000) (k - 1000000)≤x∧x≤min 1000000 (k+1000000):=fun x hx=>by have a:=h1 x hx;have b:=h2 (k - x) (by show g (-(k - x)+k)≠0;rwa [show -(k - x)+k=x by omega]);omega
   rw [v9l hp (g:=g) (A:=max (-1000000) (k - 1000000)) (m:=(min 1000000 (k+1000000) - max (-1000000) (k - 1000000)+1).toNat) (by omega) (by omega) fun x hx=>by have:=sup x hx;omega,←u5g];show sm p (fun x=>g (-x+k))=_;rw [v9l hp (g:=fun x=>g (-x+k)) (A:=k - min 1000000 (k+1000000)) (m:=(min 1000000 (k+1000000) - max (-1000000) (k - 1000000)+1).toNat) (by omega) (by omega) fun x hx=>by have:=sup (-x+k) hx;omega];exact Zp fun i _=>by congr 1;omega
theorem S3_re (s:Bool) (k:Int) {G:F3} (h1: ∀x y z,G x y z≠0→ -1000000≤x∧x≤1000000) (h2: ∀x y z,G (sg s x+k) y z≠0→ -1000000≤x∧x≤1000000):S3 p (fun x y z=>G (sg s x+k) y z)=S3 p G:=by
 have nz: ∀x,(sm p fun y=>sm p fun z=>G x y z)≠0→ ∃y z,G x y z≠0:=fun x h=>AL fun k=>h (by
  rw [Zp (g:=fun _=>0) fun y _=>by rw [Zp (g:=fun _=>0) fun z _=>AL fun j=>k ⟨y,z,j⟩,Wc],Wc])
 exact sm_re hp s k (g:=fun x=>sm p fun y=>sm p fun z=>G x y z) (fun x h=>by obtain ⟨y,z,j⟩:=nz x h;exact h1 x y z j) fun x h=>by obtain ⟨y,z,j⟩:=nz _ h;exact h2 x y z j
end
def w7b (c:F3):F3:=fun x y z=>c y x z
def v1j (c:F3):F3:=fun x y z=>c x z y
def mv1 (s:Bool) (k:Int) (c:F3):F3:=fun x y z=>c (ptT s k x) y z
def mv2 (s:Bool) (k:Int) (c:F3):F3:=fun x y z=>c x (ptT s k y) z
def mv3 (s:Bool) (k:Int) (c:F3):F3:=fun x y z=>c x y (ptT s k z)
theorem w2z (p:List Int) (G:F3):S3 p (fun x y z=>G y x z)=S3 p G:=Um p p _
theorem w2y (p:List Int) (G:F3):S3 p (fun x y z=>G x z y)=S3 p G:=Zp fun x _=>Um p p _
structure j7h (W:F3→Int):Prop where
 s12: ∀c,W (w7b c)=W c
 s23: ∀c,W (v1j c)=W c
 t1: ∀s k c,Bd c→Bd (mv1 s k c)→W (mv1 s k c)=W c
theorem Bd.s12 {c:F3} (h:Bd c):Bd (w7b c):=fun x y z k=>by have:=h y x z k;unfold fn3 at*;omega
theorem Bd.s23 {c:F3} (h:Bd c):Bd (v1j c):=fun x y z k=>by have:=h x z y k;unfold fn3 at*;omega
namespace j7h
variable {W:F3→Int} (h:j7h W)
include h
theorem t2 (s:Bool) (k:Int) (c:F3) (h1:Bd c) (h2:Bd (mv2 s k c)):W (mv2 s k c)=W c:=by have e:mv2 s k c=w7b (mv1 s k (w7b c)):=rfl;rw [e,h.s12,h.t1 s k _ h1.s12 (by rw [e] at h2;exact h2.s12),h.s12]
theorem t3 (s:Bool) (k:Int) (c:F3) (h1:Bd c) (h2:Bd (mv3 s k c)):W (mv3 s k c)=W c:=by have e:mv3 s k c=v1j (mv2 s k (v1j c)):=rfl;rw [e,h.s23,h.t2 s k _ h1.s23 (by rw [e] at h2;exact h2.s23),h.s23]
theorem perm (p:P6) (c:F3):W (fun x y z=>c (p.a x y z) (p.b x y z) (p.c x y z))=W c:=by
 cases p
 ·rfl
 ·exact h.s23 c
 ·exact h.s12 c
 ·exact (h.s12 (v1j c)).trans (h.s23 c)
 ·exact (h.s23 (w7b c)).trans (h.s12 c)
 ·exact (h.s12 (v1j (w7b c))).trans ((h.s23 (w7b c)).trans (h.s12 c))
theorem place (p:P6) (s1 s2 s3:Bool) (a b e:Int) {c:F3} (hc:Bd c) (h1: ∀x y z,c (ptT s1 a x) y z≠0→ -1000000≤x∧x≤1000000) (h2: ∀x y z,c x (ptT s2 b y) z≠0→ -1000000≤y∧y≤1000000) (h3: ∀x y z,c x y (ptT s3 e z)≠0→ -1000000≤z∧z≤1000000):
  W (fun x y z=>c (ptT s1 a (p.a x y z)) (ptT s2 b (p.b x y z)) (ptT s3 e (p.c x y z)))=W c:=by
 have b3:Bd (mv3 s3 e c):=fun x y z k=>⟨(hc _ _ _ k).1,(hc _ _ _ k).2.1,h3 _ _ _ k⟩
 have b2:Bd (mv2 s2 b (mv3 s3 e c)):=fun x y z k=>⟨(hc _ _ _ k).1,h2 _ _ _ k,h3 _ _ _ k⟩
 have b1:Bd (mv1 s1 a (mv2 s2 b (mv3 s3 e c))):=fun x y z k=>⟨h1 _ _ _ k,h2 _ _ _ k,h3 _ _ _ k⟩
 refine (h.perm p (mv1 s1 a (mv2 s2 b (mv3 s3 e c)))).trans ?_;rw [h.t1 _ _ _ b2 b1,h.t2 _ _ _ b3 b2,h.t3 _ _ _ hc b3]
end j7h
theorem v4t (a b c d:Int):w8r a b d c=w8r a b c d:=by unfold w8r;rw [BM (1 - d),BM d c]
theorem w4g (a b c d:Int):w8r d c b a=w8r a b c d:=by unfold w8r;rw [BM d c,BM b a,BM (1 - b),BM (1 - d),Int.add_comm]
theorem x9k {a b c d:Int} (h:w8r a b c d≠0):b≠0∨d≠0:=by
 by_cases k:b=0
 ·refine .inr fun j=>h ?_;unfold w8r;rw [k,j];simp
 ·exact .inl k
def lz (c:F3):F3:=fun x y z=>w8r (c (x - 1) (y - 1) z) (c x y z) (c (x - 1) y z) (c x (y - 1) z)
def ly (c:F3):F3:=fun x y z=>w8r (c (x - 1) y (z - 1)) (c x y z) (c (x - 1) y z) (c x y (z - 1))
def lx (c:F3):F3:=fun x y z=>w8r (c x (y - 1) (z - 1)) (c x y z) (c x (y - 1) z) (c x y (z - 1))
def PT (p:List Int) (c:F3):Int:=S3 p (lx c)+S3 p (ly c)+S3 p (lz c)
def nX (c:F3):F3:=fun x y z=>c (x - 1) y z*c x y z
def nY (c:F3):F3:=fun x y z=>c x (y - 1) z*c x y z
def nZ (c:F3):F3:=fun x y z=>c x y (z - 1)*c x y z
def NB (p:List Int) (c:F3):Int:=S3 p (nX c)+S3 p (nY c)+S3 p (nZ c)
theorem z9j {p:List Int} (hp:PtS p) (s:Bool) (k j:Int) {G H:F3} (e: ∀x y z,H x y z=G (sg s x+j) y z) (h1: ∀x y z,G x y z≠0→ -1000000≤x∧x≤1000000) (h2: ∀x y z,H x y z≠0→ -1000000≤x∧x≤1000000):S3 p H=S3 p G:=by rw [x3n e];exact S3_re hp s j h1 fun x y z k=>h2 x y z (by rw [e];exact k)
theorem lx_x {c:F3} (h:Bd c) (x y z:Int) (k:lx c x y z≠0): -1000000≤x∧x≤1000000:=(x9k k).elim (fun j=>(h _ _ _ j).1) fun j=>(h _ _ _ j).1
theorem ly_x {c:F3} (h:Bd c) (x y z:Int) (k:ly c x y z≠0): -1000000≤x∧x≤1000000:=(x9k k).elim (fun j=>(h _ _ _ j).1) fun j=>(h _ _ _ j).1
theorem lz_x {c:F3} (h:Bd c) (x y z:Int) (k:lz c x y z≠0): -1000000≤x∧x≤1000000:=(x9k k).elim (fun j=>(h _ _ _ j).1) fun j=>(h _ _ _ j).1
theorem j2s {a b:Int} (h:a*b≠0):b≠0:=fun k=>h (by rw [k,Int.mul_zero])
theorem PT_inv {p:List Int} (hp:PtS p):j7h (PT p):=by
 refine ⟨fun c=> ?_,fun c=> ?_,fun s k c h1 h2=> ?_⟩
 ·unfold PT;rw [show S3 p (lx (w7b c))=S3 p (ly c) from w2z p (ly c),show S3 p (ly (w7b c))=S3 p (lx c) from w2z p (lx c),show S3 p (lz (w7b c))=S3 p (lz c) from (x3n fun x y z=>v4t _ _ _ _).trans (w2z p (lz c))];omega
 ·unfold PT;rw [show S3 p (lx (v1j c))=S3 p (lx c) from (x3n fun x y z=>v4t _ _ _ _).trans (w2y p (lx c)),show S3 p (ly (v1j c))=S3 p (lz c) from w2y p (lz c),show S3 p (lz (v1j c))=S3 p (ly c) from w2y p (ly c)];omega
 ·unfold PT;have a1:=lx_x h1;have a2:=ly_x h1;have a3:=lz_x h1;have b1:=lx_x h2;have b2:=ly_x h2;have b3:=lz_x h2;cases s with
  | true=>
   have e: ∀x,x - 1+k=x+k - 1:=fun x=>by omega
   rw [z9j hp true k k (G:=lx c) (H:=lx (mv1 true k c)) (fun x y z=>rfl) a1 b1,
    z9j hp true k k (G:=ly c) (H:=ly (mv1 true k c)) (fun x y z=>by simp only [ly,mv1,ptT,sg,e]) a2 b2,
    z9j hp true k k (G:=lz c) (H:=lz (mv1 true k c)) (fun x y z=>by simp only [lz,mv1,ptT,sg,e]) a3 b3]
  | false=>
   have e1: ∀x,-(x - 1)+k - 1= -x+k:=fun x=>by omega
   have e2: ∀x,-x+(k - 1)= -x+k - 1:=fun x=>by omega
   rw [z9j hp false k (k - 1) (G:=lx c) (H:=lx (mv1 false k c)) (fun x y z=>by simp only [lx,mv1,ptT,sg,e2]) a1 b1,
    z9j hp false k k (G:=ly c) (H:=ly (mv1 false k c)) (fun x y z=>by simp only [ly,mv1,ptT,sg,e1];exact w4g _ _ _ _) a2 b2,
    z9j hp false k k (G:=lz c) (H:=lz (mv1 false k c)) (fun x y z=>by simp only [lz,mv1,ptT,sg,e1];exact w4g _ _ _ _) a3 b3]
theorem NB_inv {p:List Int} (hp:PtS p):j7h (NB p):=by
 refine ⟨fun c=> ?_,fun c=> ?_,fun s k c h1 h2=> ?_⟩
 ·unfold NB;rw [show S3 p (nX (w7b c))=S3 p (nY c) from w2z p (nY c),show S3 p (nY (w7b c))=S3 p (nX c) from w2z p (nX c),show S3 p (nZ (w7b c))=S3 p (nZ c) from w2z p (nZ c)];omega
 ·unfold NB;rw [show S3 p (nX (v1j c))=S3 p (nX c) from w2y p (nX c),show S3 p (nY (v1j c))=S3 p (nZ c) from w2y p (nZ c),show S3 p (nZ (v1j c))=S3 p (nY c) from w2y p (nY c)];omega
 ·unfold NB;have a: ∀{c:F3},Bd c→ ∀x y z (g:Int),g*c x y z≠0→ -1000000≤x∧x≤1000000:=fun h x y z g k=>(h _ _ _ (j2s k)).1;cases s with
  | true=>
   have e: ∀x,x - 1+k=x+k - 1:=fun x=>by omega
   rw [z9j hp true k k (G:=nX c) (H:=nX (mv1 true k c)) (fun x y z=>by simp only [nX,mv1,ptT,sg,e]) (fun x y z=>a h1 x y z _) (fun x y z=>a h2 x y z _),
    z9j hp true k k (G:=nY c) (H:=nY (mv1 true k c)) (fun x y z=>rfl) (fun x y z=>a h1 x y z _) (fun x y z=>a h2 x y z _),
    z9j hp true k k (G:=nZ c) (H:=nZ (mv1 true k c)) (fun x y z=>rfl) (fun x y z=>a h1 x y z _) (fun x y z=>a h2 x y z _)]
  | false=>
   have e1: ∀x,-(x - 1)+k - 1= -x+k:=fun x=>by omega
   have e2: ∀x,-x+(k - 1)= -x+k - 1:=fun x=>by omega
   rw [z9j hp false k k (G:=nX c) (H:=nX (mv1 false k c)) (fun x y z=>by simp only [nX,mv1,ptT,sg,e1];exact BM _ _) (fun x y z=>a h1 x y z _) (fun x y z=>a h2 x y z _),
    z9j hp false k (k - 1) (G:=nY c) (H:=nY (mv1 false k c)) (fun x y z=>by simp only [nY,mv1,ptT,sg,e2]) (fun x y z=>a h1 x y z _) (fun x y z=>a h2 x y z _),
    z9j hp false k (k - 1) (G:=nZ c) (H:=nZ (mv1 false k c)) (fun x y z=>by simp only [nZ,mv1,ptT,sg,e2]) (fun x y z=>a h1 x y z _) (fun x y z=>a h2 x y z _)]
theorem VL_inv {p:List Int} (hp:PtS p):j7h (S3 p):=by
 refine ⟨fun c=>w2z p c,fun c=>w2y p c,fun s k c h1 h2=> ?_⟩;cases s with
 | true=>exact z9j hp true k k (G:=c) (fun x y z=>rfl) (fun x y z k=>(h1 _ _ _ k).1) fun x y z k=>(h2 _ _ _ k).1
 | false=>exact z9j hp false k (k - 1) (G:=c) (fun x y z=>by simp only [mv1,ptT,sg];congr 1;omega) (fun x y z k=>(h1 _ _ _ k).1) fun x y z k=>(h2 _ _ _ k).1
theorem w4f {p:List Int} (hp:PtS p) {L:List R6} (h:Sol L):y3f .x L L.length+y3f .y L L.length+y3f .z L L.length=PT p (cnt L):=by
 rw [x9j hp h,x9j hp h,x9j hp h];unfold PT PQ;have e: ∀(q:Ax) (G:F3),(∀u w x,w8q q L u w x=G (q.to x u w).1 (q.to x u w).2.1 (q.to x u w).2.2)→(sm p fun u=>sm p fun w=>sm p fun x=>w8q q L u w x)=S3 p G:=fun q G hG=>by refine Eq.trans ?_ (w6z p q fun v=>G v.1 v.2.1 v.2.2);exact Zp fun u _=>Zp fun w _=>Zp fun x _=>hG u w x
 have ic:=fun q u w x=>y0h h.ap q u w x;rw [e .x (lx (cnt L)) fun u w x=>by unfold w8q;rw [ic,ic,ic,ic];rfl,e .y (ly (cnt L)) fun u w x=>by unfold w8q;rw [ic,ic,ic,ic];rfl,e .z (lz (cnt L)) fun u w x=>by unfold w8q;rw [ic,ic,ic,ic];rfl]
theorem NB_E2 {p:List Int} (hp:PtS p) {L:List R6} (h:Sol L):E2 0 L L+E2 2 L L+E2 4 L L=NB p (cnt L):=by
 unfold NB;have e: ∀(q:Ax) (G:F3),(∀u w t,cnt (L.map (nx (2*q.ix))) (q.to t u w).1 (q.to t u w).2.1 (q.to t u w).2.2*cnt L (q.to t u w).1 (q.to t u w).2.1 (q.to t u w).2.2=G (q.to t u w).1 (q.to t u w).2.1 (q.to t u w).2.2)→E2 (2*q.ix) L L=S3 p G:=fun q G hG=>by rw [E2_S3 hp.pts (2*q.ix) (by cases q <;> decide) L h.val,←w6z p q fun v=>cnt (L.map (nx (2*q.ix))) v.1 v.2.1 v.2.2*cnt L v.1 v.2.1 v.2.2];refine Eq.trans ?_ (w6z p q fun v=>G v.1 v.2.1 v.2.2);exact Zp fun u _=>Zp fun w _=>Zp fun x _=>hG u w x
 rw [←e .x (nX (cnt L)) fun u w t=>by rw [w6m];rfl,←e .y (nY (cnt L)) fun u w t=>by rw [w6m];rfl,←e .z (nZ (cnt L)) fun u w t=>by rw [w6m];rfl];rfl
theorem x9h {L:List R6} {t a b c:Int} (h0:0≤t) (h24:t<24) (ha:fn3 a b c) (hL:Yo L=0) (h:Ka L t a b c=0):
  Yo (Wi L t a b c)=0∧ ∀{W:F3→Int},j7h W→W (cnt L)=W (cnt (Wi L t a b c)):=by
 obtain ⟨p,s1,s2,s3,ht⟩:=v1w t h0 h24;obtain ⟨k1,k2,k3⟩:=v4p ht h24 ha hL h;refine ⟨k1,fun {W} hW=> ?_⟩;have sL:=Sol.of hL;have sP:=Sol.of k1;have nz: ∀(X:List R6),Sol X→ ∀x y z,cnt X x y z≠0→inS X x y z:=fun X hX x y z k=>AL fun j=>k ((x0q _ hX.ap x y z).2 j);have e:cnt L=fun x y z=>cnt (Wi L t a b c) (ptT s1 a (p.a x y z)) (ptT s2 b (p.b x y z)) (ptT s3 c (p.c x y z)):=by
  funext x y z
  by_cases g:inS L x y z
  ·rw [(x0q L sL.ap x y z).1 g,(x0q _ sP.ap _ _ _).1 ((k2 x y z).2 g)]
  ·rw [(x0q L sL.ap x y z).2 g,(x0q _ sP.ap _ _ _).2 fun j=>g ((k2 x y z).1 j)]
 have fin: ∀r∈L,fn3 (p.a r.a r.b r.c) (p.b r.a r.b r.c) (p.c r.a r.b r.c)∧fn3 (p.a r.d r.e r.f) (p.b r.d r.e r.f) (p.c r.d r.e r.f):=fun r hr=>by obtain ⟨f1,f2⟩:=w6d (sL.val r hr);exact ⟨p.fine f1,p.fine f2⟩
 rw [e];refine hW.place p s1 s2 s3 a b c (fun x y z k=> ?_) (fun x y z k=> ?_) (fun x y z k=> ?_) (fun x y z k=> ?_)
 ·have:=sP.bnd (nz _ sP _ _ _ k);unfold fn3;omega
 ·obtain ⟨r,hr,j,_,_⟩:=k3 _ _ _ (nz _ sP _ _ _ k);have:=(pt_T ..).1 j;have f:=fin r hr;unfold fn3 at f;omega
 ·obtain ⟨r,hr,_,j,_⟩:=k3 _ _ _ (nz _ sP _ _ _ k);have:=(pt_T ..).1 j;have f:=fin r hr;unfold fn3 at f;omega
 ·obtain ⟨r,hr,_,_,j⟩:=k3 _ _ _ (nz _ sP _ _ _ k);have:=(pt_T ..).1 j;have f:=fin r hr;unfold fn3 at f;omega
open Go.Proofs
open Go.Sort Go.Shelf Go.RowKit Go.Lib
theorem x7q {α:Type} {f g:α→Int}: ∀{l:List α},(∀x∈l,Cg (f x) (g x))→Cg (sm l f) (sm l g)
 | [],_=>Cg.refl 0
 | x::l,h=>by rw [Xd,Xd];exact (h x (by simp)).add (x7q fun y hy=>h y (by simp [hy]))
theorem j7b (q:Ax) (s:Bool) (p:Int) (t:R4):Cg (a7 (qd q s p t)) ((t.c - t.a)*(t.d - t.b)):=by have k:Cg (wrap .i64 (wrap .i64 (t.c - t.a)*wrap .i64 (t.d - t.b))) ((t.c - t.a)*(t.d - t.b)):=Cg.w ((Cg.wrap _).mul (Cg.wrap _));cases q <;> cases s <;> exact k
theorem u9l (q:Ax) (s:Bool) (p:Int) (t:R4):cd7 q.ix (qd q s p t)=p:=by cases q <;> cases s <;> rfl
theorem j0n (f:R7→Int) (q:Ax) (s:Bool) (L:List R6):sm (dM q s L) f=sm (plQ q L) fun p=>sm (Wn q L p s) fun t=>f (qd q s p t):=by show sm ((plQ q L).flatMap fun p=>(Wn q L p s).map (qd q s p)) f=_;rw [w7o];exact Zp fun p _=>x4b _ _ _
theorem v1h (q:Ax) (s:Bool) (L:List R6):Cg (sm (dM q s L) a7) (z0q (fun _=>1) q s L):=by rw [j0n];refine x7q fun p _=> ?_;rw [Cx];exact x7q fun t _=>j7b q s p t
theorem v7_up (q:Ax) (L:List R6):Cg (sm (dM q true L) (w6w q.ix)) (z0q id q true L):=by
 rw [j0n];refine x7q fun p _=> ?_;have e: ∀t,w6w q.ix (qd q true p t)=p*a7 (qd q true p t):=fun t=>by unfold w6w;rw [u9l,show ((qd q true p t).a == 2*q.ix)=true by rw [qd_a];cases q <;> rfl,Ab,BM]
 rw [Zp fun t _=>e t,z2v];exact (Cg.refl p).mul (x7q fun t _=>j7b q true p t)
theorem v7_dn (q:Ax) (L:List R6):Cg (sm (dM q false L) (w6w q.ix)) (-z0q id q false L):=by
 have hn: ∀(l:List Int) (f:Int→Int),-sm l f=sm l fun x=> -f x:=fun l f=>by
  induction l with
  | nil=>rfl
  | cons x l ih=>rw [Xd,Xd,←ih];omega
 unfold z0q;rw [j0n,hn];refine x7q fun p _=> ?_;have e: ∀t,w6w q.ix (qd q false p t)= -p*a7 (qd q false p t):=fun t=>by unfold w6w;rw [u9l,show ((qd q false p t).a == 2*q.ix)=false by rw [qd_a];cases q <;> rfl,show ((qd q false p t).a == 2*q.ix+1)=true by rw [qd_a];cases q <;> rfl,Aa,Ab,BM,Int.neg_mul]
 rw [Zp fun t _=>e t,z2v,show -(id p*A4 (Wn q L p false))= -p*A4 (Wn q L p false) from (Int.neg_mul ..).symm];exact (Cg.refl (-p)).mul (x7q fun t _=>j7b q false p t)
theorem y1x {q q':Ax} (h:q'≠q) (s:Bool) (L:List R6):sm (dM q' s L) (w6w q.ix)=0:=by
 rw [Zp (g:=fun _=>0),Wc];intro r hr;have e:=dM_a hr;unfold w6w;have h1:r.a≠2*q.ix∧r.a≠2*q.ix+1:=by
  rw [e];cases q <;> cases q' <;> cases s <;> first | exact absurd rfl h | exact ⟨by decide,by decide⟩
 rw [show (r.a == 2*q.ix)=false from u9p h1.1,show (r.a == 2*q.ix+1)=false from u9p h1.2];rfl
section
variable {L:List R6} (h:Yo L=0) (hz:y9t L=0)
include h hz
theorem w5f (q:Ax):Cg (sm (Jh L) (w6w q.ix)) (sm L bxV):=by
 rw [←v9e h hz q];have two:=(v7_up q L).add (v7_dn q L);rw [←Int.sub_eq_add_neg] at two;unfold Jh;simp only [Uy];cases q
 ·rw [y1x (q:=.x) (q':=.y) (by simp),y1x (q:=.x) (q':=.y) (by simp),y1x (q:=.x) (q':=.z) (by simp),y1x (q:=.x) (q':=.z) (by simp)]
  simpa only [A5] using two
 ·rw [y1x (q:=.y) (q':=.x) (by simp),y1x (q:=.y) (q':=.x) (by simp),y1x (q:=.y) (q':=.z) (by simp),y1x (q:=.y) (q':=.z) (by simp)]
  simpa only [A5,BN] using two
 ·rw [y1x (q:=.z) (q':=.x) (by simp),y1x (q:=.z) (q':=.x) (by simp),y1x (q:=.z) (q':=.y) (by simp),y1x (q:=.z) (q':=.y) (by simp)]
  simpa only [A5,BN] using two
end
section
variable {L:List R6} (h:Yo L=0) (hl:L.length≤20)
include h hl
end
theorem w3c (n:Nat):y6q n=0∨y6q n=4:=by
 unfold y6q;cases decide ((n:Int)>400)
 ·exact .inl rfl
 ·exact .inr rfl
theorem u4s {l:List R4} (hv: ∀r∈l,Wh r=true):Xw l=0∨Xw l=4:=by
 unfold Xw;rw [At.2 hv];cases decide (400<l.length)
 ·exact w3c _
 ·exact .inr rfl
theorem z4_slm {l:List R6} (hv: ∀r∈l,Jf r=true):Vd l=0∨Vd l=4:=by
 have e: ∀k i,eF l k i=0∨eF l k i=4:=fun k=>by
  induction k with
  | zero=>exact fun _=>.inl rfl
  | succ k ih=>
   intro i;show (bif w6p l (rd (D6.cuts l) i) then Xw (D6.inn l (rd (D6.cuts l) i)) else eF l k (i+1))=0∨(bif w6p l (rd (D6.cuts l) i) then Xw (D6.inn l (rd (D6.cuts l) i)) else eF l k (i+1))=4;cases w6p l (rd (D6.cuts l) i)
   ·exact ih _
   ·exact u4s (y0r hv _)
 unfold Vd;rw [At.2 hv];cases decide (400<l.length)
 ·cases okF l ((D6.cuts l).length - 1) 0
  ·exact e _ _
  ·exact w3c _
 ·exact .inr rfl
theorem u4t (o:Op) {a b:List R4} (la:a.length≤400) (lb:b.length≤400) (va: ∀r∈a,Wh r=true) (vb: ∀r∈b,Wh r=true) (ca:Wz.can a) (cb:Wz.can b):rgE o a b=0∨rgE o a b=4:=by
 have sc: ∀(l:List R4) (x:Int),l.length≤400→(∀r∈l,Wh r=true)→Wz.can l→y7o (D4.inn l x)=0:=fun l x hl hv hc=>
  (y2r _).2 ⟨AG (D4.inn_length l x) hl,Vq hv x,z8l hc x⟩
 have hz: ∀x,rgA o a b x=0∨rgA o a b x=4:=fun x=>by unfold rgA spE;rw [sc a x la va ca,sc b x lb vb cb];exact w3c _
 have hf: ∀cs k i,x7a (rgA o a b) cs k i=0∨x7a (rgA o a b) cs k i=4:=fun cs k=>by
  induction k with
  | zero=>exact fun _=>.inl rfl
  | succ k ih=>
   intro i;show (bif rgA o a b (rd cs i) != 0 then rgA o a b (rd cs i) else x7a (rgA o a b) cs k (i+1))=0∨(bif rgA o a b (rd cs i) != 0 then rgA o a b (rd cs i) else x7a (rgA o a b) cs k (i+1))=4;rcases hz (rd cs i) with h | h <;> rw [h]
   ·exact ih _
   ·exact .inr rfl
 unfold rgE;rw [y3b la va ca,y3b lb vb cb];show eJ _ _=0∨eJ _ _=4;unfold eJ;rcases hf (D4.cuts (a++b)) ((D4.cuts (a++b)).length - 1) 0 with h | h <;> rw [h]
 ·exact w3c _
 ·exact .inr rfl
theorem j2a {l:List R4} (h:Xw l=0):(Zc l).length ≤400:=by obtain ⟨h1,h2,h3⟩:=y4v h;unfold Xw at h;rw [Ay (by omega),At.2 h2,Aa,Ab] at h;rw [h3];exact y6p h
section
variable {L:List R6} (hv: ∀r∈L,Jf r=true)
include hv
theorem w5h (q:Ax) {x:Int} (hx:Uo q L x=0):Wz.can (Yg q L x)∧(∀r∈Yg q L x,Wh r=true)∧(Yg q L x).length ≤400:=by have _u:=hv;obtain ⟨m1,m2,m3⟩:=y4v (l:=z1t q L x) hx;obtain ⟨c,pt⟩:=Kt m2 m1;have hl:=j2a hx;unfold Yg;rw [m3] at hl ⊢;exact ⟨c,Qk c fun u v k=>z1b m2 ((pt _).1 k),hl⟩
theorem z4_mfc (q:Ax) (p:Int) (s:Bool):Vi q L p s=0∨Vi q L p s=4:=by
 have z: ∀x,Uo q L x=0∨Uo q L x=4:=fun x=>u4s (w1v q hv x);unfold Vi w5e;rcases z (wrap .i64 (p - 1)) with h1 | h1 <;> rw [h1]
 ·rcases z p with h2 | h2 <;> rw [h2]
  ·obtain ⟨a1,a2,a3⟩:=w5h hv q h1;obtain ⟨b1,b2,b3⟩:=w5h hv q h2;cases s with
   | true=>exact u4t .d a3 b3 a2 b2 a1 b1
   | false=>exact u4t .d b3 a3 b2 a2 b1 a1
  ·exact .inr rfl
 ·exact .inr rfl
theorem z4_mmd :y9t L=0∨y9t L=4:=by
 have e: ∀(E:Int→Int),(∀p,E p=0∨E p=4)→ ∀l,w6g E l=0∨w6g E l=4:=fun E hE l=>by
  induction l with
  | nil=>exact .inl rfl
  | cons p l ih=>
   unfold w6g;rcases hE p with h | h <;> rw [h]
   ·exact ih
   ·exact .inr rfl
 have d: ∀q s,z7h q s L=0∨z7h q s L=4:=fun q s=>e _ (fun p=>z4_mfc hv q p s) _;unfold y9t;rcases d .x true with h | h <;> rw [h]
 rotate_left
 ·exact .inr rfl
 rcases d .x false with h | h <;> rw [h]
 rotate_left
 ·exact .inr rfl
 rcases d .y true with h | h <;> rw [h]
 rotate_left
 ·exact .inr rfl
 rcases d .y false with h | h <;> rw [h]
 rotate_left
 ·exact .inr rfl
 rcases d .z true with h | h <;> rw [h]
 rotate_left
 ·exact .inr rfl
 rcases d .z false with h | h <;> rw [h]
 rotate_left
 ·exact .inr rfl
 cases decide ((((Jh L).length :Nat):Int)>3000)
 ·exact .inl rfl
 ·exact .inr rfl
theorem y1k (hz:y9t L=0):z6h (Jh L)=0∧Vx (Jh L)=true:=by
 have hn:(Jh L).length ≤3000:=by
  have h:=hz;unfold y9t at h;have h:=(Ur h).2;have h:=(Ur h).2;have h:=(Ur h).2;have h:=(Ur h).2;have h:=(Ur h).2;have h:=(Ur h).2;by_cases g:(((Jh L).length :Nat):Int)>3000
  ·rw [Ah g] at h;cases h
  ·omega
 have mem: ∀r∈Jh L,∃q s p t,p∈plQ q L∧t∈Wn q L p s∧r=qd q s p t:=fun r hr=>by
  have go: ∀q s,r∈dM q s L→ ∃q s p t,p∈plQ q L∧t∈Wn q L p s∧r=qd q s p t:=fun q s k=>by obtain ⟨p,hp,k⟩:=AP.1 k;obtain ⟨t,ht,rfl⟩:=AO.1 k;exact ⟨q,s,p,t,hp,ht,rfl⟩
  unfold Jh at hr;simp only [AD] at hr;rcases hr with ((((hr | hr) | hr) | hr) | hr) | hr <;> exact go _ _ hr
 have fv: ∀q s p,p∈plQ q L→ ∀t∈Wn q L p s,Wh t=true:=fun q s p hp=>by
  obtain ⟨c,pts⟩:=v5w hv q s p (w4e hv q hp) (w5c hv hz q s hp);refine Qk c fun u w k=> ?_;have k:=(pts u w).1 k;cases s with
  | true=>exact (y5y hv hz q k.1).2
  | false=>exact (y5y hv hz q k.1).2
 constructor
 ·unfold z6h;rw [Ay (by omega),At.2 fun r hr=> ?_];rfl;obtain ⟨q,s,p,t,hp,ht,rfl⟩:=mem r hr;exact v1u q s (w4e hv q hp) (fv q s p hp t ht)
 ·refine At.2 fun r hr=> ?_;obtain ⟨q,s,p,t,hp,ht,rfl⟩:=mem r hr;rw [qd_a];cases q <;> cases s <;> rfl
end
theorem v8k {L:List R6} (h:Yo L=0) (hz:y9t L=0):Cg (sm (Jh L) a7) (6*sm L bxV - 2*(E2 0 L L+E2 2 L L+E2 4 L L)):=by
 have e:z0q (fun _=>1) .x true L+z0q (fun _=>1) .x false L+z0q (fun _=>1) .y true L+z0q (fun _=>1) .y false L+z0q (fun _=>1) .z true L+z0q (fun _=>1) .z false L=6*sm L bxV - 2*(E2 0 L L+E2 2 L L+E2 4 L L):=by rw [(z1x h hz .x).1,(z1x h hz .x).2,(z1x h hz .y).1,(z1x h hz .y).2,(z1x h hz .z).1,(z1x h hz .z).2];show sm L bxV - E2 0 L L+(sm L bxV - E2 0 L L)+(sm L bxV - E2 2 L L)+(sm L bxV - E2 2 L L)+(sm L bxV - E2 4 L L)+(sm L bxV - E2 4 L L)=_;omega
 rw [←e];unfold Jh;simp only [Uy];exact (((((v1h .x true L).add (v1h .x false L)).add (v1h .y true L)).add (v1h .y false L)).add (v1h .z true L)).add (v1h .z false L)
theorem v4q {L:List R6} {t a b c:Int} (h0:0≤t) (h24:t<24) (ha:fn3 a b c) (hL:Yo L=0) (h:Ka L t a b c≠0):Ka L t a b c=16∨Ka L t a b c=4:=by
 obtain ⟨p,s1,s2,s3,ht⟩:=v1w t h0 h24;have hv:=(Wx hL).2.1;have hk:=x2t ht h24 ha;have e:Ka L t a b c=bif L.all (okP t a b c) then Vd (L.map (bxP t a b c)) else 16:=by unfold Ka;rw [hL,hk];rfl
 cases g:L.all (okP t a b c) with
 | false=>rw [e,g];exact .inl rfl
 | true=>
  rw [e,g,Ab] at h ⊢;have hb: ∀m∈L.map (bxP t a b c),Jf m=true:=fun m hm=>by obtain ⟨r,hr,rfl⟩:=AO.1 hm;obtain ⟨e1,e2⟩:=w6o ht h24 ha (hv r hr) (At.1 g r hr);rw [e1];exact e2
  rcases z4_slm hb with k | k
  ·exact (h k).elim
  ·exact .inr k
theorem rin_fn {x y z:Int} (h:v1k x y z (-1000000)=true):fn3 x y z:=by simp only [v1k,Ac,Al] at h;unfold fn3;omega
theorem mpp_run (L:List R6) (t a b c:Int) (h0:0≤t): ∃N,Yz (x9p L t a b c) N (y3i L t a b c)=.ret [.bool true]:=⟨0,by
 unfold y3i;have o1:z8o L=true:=rfl;have n0:((0:Int) != 0)=false:=rfl;rcases Yp (j4g L) with q | q
 rotate_left
 ·simp only [Zm,o1,q,AH,Ab];rfl
 obtain ⟨hl,h⟩:=j4e q;rcases Yp (j2g t a b c != 0) with q2 | q2
 ·simp only [Zm,o1,q,q2,AC,Ab,Aa];rfl
 rcases Yp (v1k a b c (-1000)) with q3 | q3
 rotate_left
 ·simp only [Zm,o1,q,q2,q3,AC,AH,Ab,Aa];rfl
 rcases Yp (v1k (wrap .i64 ((-1)*a)) (wrap .i64 ((-1)*b)) (wrap .i64 ((-1)*c)) (-1000)) with q4 | q4
 rotate_left
 ·simp only [Zm,o1,q,q2,q3,q4,AC,AH,Ab,Aa];rfl
 have hk:t<24∧fn3 a b c:=by
  have q2:j2g t a b c=0:=by simpa using q2
  unfold j2g at q2;by_cases g:t≥24
  ·rw [Ah g] at q2;cases q2
  ·rw [Ay g,Aa] at q2;cases k:v1k a b c (-1000000) with
   | true=>exact ⟨by omega,rin_fn k⟩
   | false=>rw [k] at q2;cases q2
 have op:y5d L t a b c=true:=rfl;rcases Yp (Ka L t a b c != 0) with q5 | q5
 ·rcases v4q h0 hk.1 hk.2 h (by simpa using q5) with e | e
  ·simp only [Zm,o1,op,q,q2,q3,q4,q5,e,AC,Ab,Aa,show ((16:Int) == 16)=true from rfl,show ((16:Int) != 0)=true from rfl];rfl
  ·simp only [Zm,o1,op,q,q2,q3,q4,q5,e,AC,Ab,Aa,show ((4:Int) == 16)=false from rfl,show ((4:Int) == 4)=true from rfl,show ((4:Int) != 0)=true from rfl];rfl
 have q5':Ka L t a b c=0:=by simpa using q5
 obtain ⟨hP,same⟩:=x9h h0 hk.1 hk.2 h q5';obtain ⟨p,hp⟩:=v4n;have sL:=Sol.of h;have sP:=Sol.of hP;obtain ⟨_,hv,_,hL⟩:=Wx h;obtain ⟨hz,hn⟩:=z8h hv hl hL;obtain ⟨m1,m0⟩:=v4y h hl;obtain ⟨c0,co⟩:=y1k sL.val hz;have x1:z8g L=0:=h;have x2:z8g (Wi L t a b c)=0:=hP;have x0:z2e L=z2e (Wi L t a b c):=by unfold z2e;rw [h,hP,w4f hp sL,w4f hp sP,same (PT_inv hp)]
 generalize hPe:Wi L t a b c=P at*;have g1: ∀l,z0o l=true:=fun _=>rfl;have g2: ∀l,z2f l=true:=fun _=>rfl;have ne:(z2e P != z2e P)=false:=by simp
 have f1:z2g P=y9t P:=by unfold z2g z4d;rw [hP];rfl
 rcases z4_mmd sP.val with hz2 | hz2
 rotate_left
 ·simp only [Zm,hPe,o1,op,g1,g2,q,q2,q3,q4,q5,x1,x2,x0,m1,f1,hz2,ne,n0,AC,Ab,Aa,show ((4:Int) != 0)=true from rfl,show ((4:Int) != 4)=false from rfl];rfl
 have f0:Yu P=Jh P:=by unfold Yu Js;rw [hP,hz2];rfl
 obtain ⟨d0,d1⟩:=y1k sP.val hz2;have vol:sm L bxV=sm P bxV:=by rw [w3d hp.pts sL,w3d hp.pts sP];exact same (VL_inv hp)
 have nb:E2 0 L L+E2 2 L L+E2 4 L L=E2 0 P P+E2 2 P P+E2 4 P P:=by rw [NB_E2 hp sL,NB_E2 hp sP];exact same (NB_inv hp)
 have a1: ∀{M:List R7},z6h M=0→x0a M=0:=fun h=>h;have a0:z6i (Jh L)=z6i (Jh P):=by unfold z6i;rw [c0,d0];refine Cg.eq ((v8k h hz).trans ?_);rw [vol,nb];exact (v8k hP hz2).symm
 have v1: ∀{M:List R7},z6h M=0→y5n M 0=0:=fun h=>by unfold y5n;rw [h];rfl
 have v0:z4e (Jh L) 0=z4e (Jh P) 0:=by unfold z4e;rw [c0,d0];refine Cg.eq ((w5f h hz .x).trans ?_);rw [vol];exact (w5f hP hz2 .x).symm
 have w1:z2k (Jh L)=true:=co;have w2:z2k (Jh P)=true:=d1;have w3:z2j (Jh L) 0=true:=co;have w4:z2j (Jh P) 0=true:=d1;have b0:((0:Int) == 0)=true:=rfl;have b1:(z6i (Jh P) == z6i (Jh P))=true:=by simp
 have b2:(z4e (Jh P) 0 == z4e (Jh P) 0)=true:=by simp
 simp only [Zm,hPe,o1,op,g1,g2,q,q2,q3,q4,q5,x1,x2,x0,m1,m0,f1,f0,hz2,ne,n0,a1 c0,a1 d0,a0,v1 c0,v1 d0,v0,w1,w2,w3,w4,b0,b1,b2,AC,Ab,Aa];rfl⟩
section
variable {P:Program} {w:World} {base:Nat}
theorem u4g {u:TypeId} {k:IntKind} {v:Value} (hu:P.underlying u=some (.int k)) (h:Cell.okWide P w .any base u v): ∃n,v=.int k n∧k.has n=true:=by simp only [Cell.okWide,hu] at h;cases v <;> simp_all [Cell.ok]
theorem w3s : ∀(us:List TypeId) (ks:List IntKind) (cs:List Value),cs.length=us.length→us.map P.underlying=ks.map (fun k=>some (.int k))→
  (∀(i:Nat) (v:Value),cs[i]? =some v→ ∃u,us[i]? =some u∧Cell.okWide P w .any base u v)→
  ∃ns:List Int,ns.length=ks.length∧cs=List.zipWith Value.int ks ns∧ ∀p∈List.zip ks ns,p.1.has p.2=true
 | [],[],[],_,_,_=>⟨[],rfl,rfl,fun p hp=>by cases hp⟩
 | u::us,k::ks,c::cs,hl,hk,h=>by
  simp only [AW,List.cons.injEq] at hk;obtain ⟨u',hu',hc⟩:=h 0 c rfl;obtain rfl:u=u':=Af hu';obtain ⟨n,rfl,hn⟩:=u4g hk.1 hc;obtain ⟨ns,h1,h2,h3⟩:=w3s us ks cs (by simpa using hl) hk.2 fun i v hi=>h (i+1) v hi;refine ⟨n::ns,by simp [h1],by rw [h2];rfl,fun p hp=> ?_⟩;rw [List.zip_cons_cons,AA] at hp;rcases hp with rfl | hp
  ·exact hn
  ·exact h3 p hp
 | [],_::_,_,_,hk,_=>by simp at hk
 | _::_,[],_,_,hk,_=>by simp at hk
 | _::_,_::_,[],hl,_,_=>by simp at hl
 | [],[],_::_,hl,_,_=>by simp at hl
def aggT (P:Program) (t:TypeId):Bool:=match P.underlying t with | some (.struct _) | some (.array _ _)=>true | _=>false
theorem open_agg_ints {t:TypeId} {us:List TypeId} {ks:List IntKind} {v:Value} (hs:aggT P t=true) (hc:P.cellTypes P.depth t=some us) (hn:P.cellsOf t=us.length)
  (hk:us.map P.underlying=ks.map (fun k=>some (.int k))) (hv:Value.okWide P w .any base t v):
  ∃ns:List Int,ns.length=ks.length∧v=.agg (List.zipWith Value.int ks ns).toArray ∧ ∀p∈List.zip ks ns,p.1.has p.2=true:=by
 have h: ∃cs,v=.agg cs∧cs.size=P.cellsOf t∧Row.okWide P w .any base t cs:=by
  unfold Value.okWide at hv;unfold aggT at hs;split at hv
  ·exact hv
  ·exact hv
  ·rename_i h1 h2;split at hs
   ·rename_i fs h;exact absurd h (h1 fs)
   ·rename_i a b h;exact absurd h (h2 a b)
   ·cases hs
 obtain ⟨cs,rfl,hsz,ts,hts,_,hrow⟩:=h;obtain rfl:us=ts:=Af (hc.symm.trans hts);have hl:cs.toList.length=us.length:=by simpa using hsz.trans hn
 obtain ⟨ns,h1,h2,h3⟩:=w3s us ks cs.toList hl hk fun i v hi=>by
  have hi':cs[i]? =some v:=by simpa using hi
  obtain ⟨u,hu,hc⟩:=hrow i v hi';have hlt:i<us.length:=by
   have:=(AI.mp hi').1
   simpa [←hl] using this
  rw [Nat.mod_eq_of_lt hlt] at hu;exact ⟨u,hu,hc⟩
 exact ⟨ns,h1,by rw [←h2],h3⟩
theorem vrel_ints {ρ:Rho} (ks:List IntKind) (ns:List Int):VRel ρ (.agg (List.zipWith AVal.int ks ns)) (.agg (List.zipWith Value.int ks ns).toArray):=by refine .agg _ _ (by simp) fun i h1 h2=> ?_;simp only [List.getElem_zipWith,List.getElem_toArray];exact .int _ _
end
end Go.Am
end
