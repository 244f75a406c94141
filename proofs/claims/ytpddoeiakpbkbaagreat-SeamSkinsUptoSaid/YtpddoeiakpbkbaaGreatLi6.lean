/- A part of a proof: several texts in one. -/
import Derived.Test.YtpddoeiakpbkbaaGreatLi5
set_option maxRecDepth 1000000
set_option maxHeartbeats 8000000
set_option linter.unusedVariables false
set_option linter.unusedSimpArgs false
noncomputable section
namespace Go.Am
open IntKind (wrap)
open Go.Proofs.Tryz
open Go.Proofs Go.Sort Go.Shelf Go.RowKit Go.Lib
theorem j2b (q:Op) (a b:List R6):(z4z q a b).length ≤400:=by
 unfold z4z z4t;rcases Yx (slE q a b != 0) with g | g
 ·rw [g];exact AD _
 ·rw [g,Aa];have h:slE q a b=0:=by simpa using g
  unfold slE at h;rcases Yx (Yd a != 0) with g1 | g1
  ·rw [g1,Ab] at h;rw [h] at g1;cases g1
  rcases Yx (Yd b != 0) with g2 | g2
  ·rw [g1,g2,Aa,Ab] at h;rw [h] at g2;cases g2
  rw [g1,g2,Aa,Aa] at h;unfold eJ at h;revert h;generalize y9c (slA q a b) _ _ _=e;intro h;rcases Yx (e != 0) with g3 | g3
  ·rw [g3,Ab] at h;rw [h] at g3;cases g3
  ·rw [g3,Aa] at h;exact y0l h
theorem x3p (q:Op) (a b:List R4):(Wk q a b).length ≤400:=by
 unfold Wk z4t;rcases Yx (rgE q a b != 0) with g | g
 ·rw [g];exact AD _
 ·rw [g,Aa];have h:rgE q a b=0:=by simpa using g
  unfold rgE at h;rcases Yx (y2y a != 0) with g1 | g1
  ·rw [g1,Ab] at h;rw [h] at g1;cases g1
  rcases Yx (y2y b != 0) with g2 | g2
  ·rw [g1,g2,Aa,Ab] at h;rw [h] at g2;cases g2
  rw [g1,g2,Aa,Aa] at h;unfold eJ at h;revert h;generalize y9c (rgA q a b) _ _ _=e;intro h;rcases Yx (e != 0) with g3 | g3
  ·rw [g3,Ab] at h;rw [h] at g3;cases g3
  ·rw [g3,Aa] at h;exact y0l h
theorem v2i : ∀(l:List Pa) (acc:List R6),acc.length≤400→(whL acc l).length ≤400
 | [],_,h=>h
 | x::r,acc,_=>v2i r _ (j2b .u acc x.s)
theorem j1j (l:List Pa):(Yv l).length ≤400:=by
 unfold Yv z4t;cases whE [] l != 0
 ·exact v2i l [] (AD _)
 ·exact AD _
theorem x3b : ∀{l:List Pa},skE l=0→ ∀x∈l,Yd x.s=0
 | [],_,x,hx=>by cases hx
 | y::l,h,x,hx=>by
  unfold skE at h;rcases Yx (Yd y.s != 0) with q | q
  ·rw [q,Ab] at h;rw [h] at q;cases q
  ·rw [q,Aa] at h;rcases AI.1 hx with rfl | hx
   ·simpa using q
   ·exact x3b h x hx
theorem w4y {l:List Pa} (h:z2l l=0):l.length≤50∧skE l=0∧skG l l.length 0=0:=by
 unfold z2l at h;by_cases g:50<l.length
 ·rw [Ai g] at h;cases h
 ·rw [An g,Aa] at h;rcases Yx (skE l != 0) with q | q
  ·rw [q,Ab] at h;rw [h] at q;cases q
  ·rw [q,Aa] at h;exact ⟨by omega,by simpa using q,h⟩
theorem x3a {l:List Pa} (h:z2l l=0) {i:Nat} (hi:i<l.length):Yd (rd l i).s =0∧(rd l i).s.length ≤400:=by have e:=x3b (w4y h).2.1 (rd l i) (by rw [Yi hi];exact AM hi);exact ⟨e,z5w (by rw [e];rfl)⟩
def dhA (d:Int):Int:=wrap .i64 (Int.tdiv d 2)
def qdA (d a p:Int) (t:R4):R7:=⟨wrap IntKind.u8 d,(z3g a p t.a t.b).a,(z3g a p t.a t.b).b,(z3g a p t.a t.b).c,(z3g a p t.c t.d).a,(z3g a p t.c t.d).b,(z3g a p t.c t.d).c⟩
def Jc (a:Int) (L:List R6):List Int:=L.flatMap fun r=>[y2j a r.a r.b r.c,y2j a r.d r.e r.f]
theorem Jq (a:Int) (L:List R6):(Jc a L).length =2*L.length:=by
 induction L with
 | nil=>rfl
 | cons r l ih=>show (_::_::Jc a l).length =_;simp only [AU,ih];omega
def plA (a:Int) (L:List R6):List Int:=Js (Jc a L)
theorem z0s (a:Int) (L:List R6):(plA a L).length ≤2*L.length:=by have h1:=Ju (Xf (Jc a L));have h2:=compact_length_le (Xf (Jc a L));rw [Vr,Jq] at h2;exact h2
def y5u (E:Int→Int):List Int→Int
 | []=>0
 | p::r=>bif E p != 0 then E p else y5u E r
def z4u (M:Int→Int→List R4) (d:Int) (ps:List Int):List R7:=ps.flatMap fun p=>(M d p).map (qdA d (dhA d) p)
theorem z8d {M:Int→Int→List R4} (hM: ∀d p,(M d p).length ≤400) (d:Int): ∀ps,(z4u M d ps).length ≤400*ps.length
 | []=>Ar _
 | p::ps=>by have:=z8d hM d ps;have h:=hM d p;show ((M d p).map (qdA d (dhA d) p)++z4u M d ps).length ≤_;rw [Aw,A6,AU];omega
def w7i (E:Int→Int→Int) (S:List R6):Nat→Nat→Int
 | 0,_=>0
 | k+1,d=>bif y5u (E (d:Int)) (plA (dhA (d:Int)) S) != 0 then y5u (E (d:Int)) (plA (dhA (d:Int)) S) else w7i E S k (d+1)
def y5y (M:Int→Int→List R4) (S:List R6):Nat→Nat→List R7
 | 0,_=>[]
 | k+1,d=>z4u M (d:Int) (plA (dhA (d:Int)) S)++y5y M S k (d+1)
def v9t (E:Int→Int→Int) (M:Int→Int→List R4) (S:List R6):Int:=bif w7i E S 6 0 != 0 then w7i E S 6 0 else bif decide (((y5y M S 6 0).length :Int)>3000) then 4 else 0
def x5i (d p:Int):Int:=bif Int.tmod d 2 == 1 then p else wrap .i64 (p - 1)
def y5i (d p:Int):Int:=bif Int.tmod d 2 == 1 then wrap .i64 (p - 1) else p
theorem x2i {d:Nat} (h:d<6):axO (dhA (d:Int))=true:=by
 have:d=0∨d=1∨d=2∨d=3∨d=4∨d=5:=by omega
 rcases this with rfl | rfl | rfl | rfl | rfl | rfl <;> rfl
def y4f (S A:List R6) (d p:Int):Int:=bif Wy (dhA d) S (x5i d p) == 0 then (bif Wy (dhA d) A (y5i d p) != 0 then Wy (dhA d) A (y5i d p) else Ki .d (Za (dhA d) S (x5i d p)) (Za (dhA d) A (y5i d p))) else Wy (dhA d) S (x5i d p)
def z6t (S A:List R6) (d p:Int):List R4:=Wk .d (Za (dhA d) S (x5i d p)) (Za (dhA d) A (y5i d p))
def y3z (S T:List R6) (b:R6) (d p:Int):Int:=bif Wy (dhA d) S (x5i d p) == 0 then
  (bif Wy (dhA d) [b] (y5i d p) != 0 then 4 else bif Wy (dhA d) T (y5i d p) != 0 then 4 else bif Ki .d (Za (dhA d) [b] (y5i d p)) (Za (dhA d) T (y5i d p)) != 0 then Ki .d (Za (dhA d) [b] (y5i d p)) (Za (dhA d) T (y5i d p)) else
   Ki .e (Za (dhA d) S (x5i d p)) (Wk .d (Za (dhA d) [b] (y5i d p)) (Za (dhA d) T (y5i d p))))
 else Wy (dhA d) S (x5i d p)
def z6o (S T:List R6) (b:R6) (d p:Int):List R4:=Wk .e (Za (dhA d) S (x5i d p)) (Wk .d (Za (dhA d) [b] (y5i d p)) (Za (dhA d) T (y5i d p)))
theorem bif3 {α:Type} (x0 x1 x2:Int) (R:Int→α) (T:α):(bif x0 == 0 then (bif x1 != 0 then R x1 else bif x2 != 0 then R x2 else T) else R x0)=bif (bif x0 == 0 then (bif x1 != 0 then x1 else x2) else x0) != 0 then R (bif x0 == 0 then (bif x1 != 0 then x1 else x2) else x0) else T:=by
 have e:(x0 != 0)= !(x0 == 0):=rfl;cases h:(x0 == 0) with
 | false=>simp only [Aa,e,h,AG,Ab]
 | true=>
  simp only [Ab];cases h1:(x1 != 0) with
  | true=>simp only [Ab,h1]
  | false=>simp only [Aa]
theorem bif5 {α:Type} (x0 x1 x2 x3 x4:Int) (R:Int→α) (T:α):(bif x0 == 0 then (bif x1 != 0 then R 4 else bif x2 != 0 then R 4 else bif x3 != 0 then R x3 else bif x4 != 0 then R x4 else T) else R x0)=bif (bif x0 == 0 then (bif x1 != 0 then 4 else bif x2 != 0 then 4 else bif x3 != 0 then x3 else x4) else x0) != 0 then R (bif x0 == 0 then (bif x1 != 0 then 4 else bif x2 != 0 then 4 else bif x3 != 0 then x3 else x4) else x0) else T:=by
 have e:(x0 != 0)= !(x0 == 0):=rfl;have e4:((4:Int) != 0)=true:=rfl;cases h:(x0 == 0) with
 | false=>simp only [Aa,e,h,AG,Ab]
 | true=>
  simp only [Ab];cases h1:(x1 != 0) with
  | true=>simp only [Ab,e4]
  | false=>
   cases h2:(x2 != 0) with
   | true=>simp only [Ab,Aa,e4]
   | false=>
    cases h3:(x3 != 0) with
    | true=>simp only [Ab,Aa,h3]
    | false=>simp only [Aa]
section
variable (l:List Pa) (x1:Int) (hx:0≤x1∧x1<(l.length:Int)) (hS:(rd l x1.toNat).s.length ≤400)
include hx hS
theorem u6s (d:Int) (hd:axO (dhA d)=true) (out:List R7): ∀(k j:Nat) (acc:List Int),j+k=(rd l x1.toNat).s.length →acc=Jc (dhA d) ((rd l x1.toNat).s.take j)→
  ∃n,∀N,Yy (Wc l x1) (N+n) (.to (.h1 acc (j:Int) d (dhA d) (dhA d) out d (dhA d)))=Yy (Wc l x1) N (.to (.h2 (plA (dhA d) (rd l x1.toNat).s).length ((plA (dhA d) (rd l x1.toNat).s).length :Int) 0 d out d (dhA d) (Wo (Xf (Jc (dhA d) (rd l x1.toNat).s)))))
 | 0,j,acc,h,h'=>by
  have _u:=hS;have _v:=hx;have e:acc=Jc (dhA d) (rd l x1.toNat).s :=by rw [h',AP (by omega)]
  subst e;have hle:=Jq (dhA d) (rd l x1.toNat).s;refine ⟨1,fun N=> ?_⟩;rw [Zv];simp (disch:=omega) only [Wc,Kv,z0t,y2f,Zt,Yu,Yp,Av,Ab,Aa];rfl
 | k+1,j,acc,h,h'=>by
  have hle:acc.length≤2*j:=by rw [h',Jq,AZ];omega
  have oA: ∀x y z,Uk (dhA d) x y z=true:=fun _ _ _=>hd;obtain ⟨n,hn⟩:=u6s d hd out k (j+1) (acc++Jc (dhA d) [rd (rd l x1.toNat).s j]) (by omega) (by
   rw [h',Bg];have:(rd l x1.toNat).s[j]? =some (rd (rd l x1.toNat).s j):=by rw [Yi (show j<(rd l x1.toNat).s.length by omega)];exact Ao _
   rw [this];simp [Jc])
  refine ⟨n+1,fun N=> ?_⟩;rw [←AB,Zv,←hn N];simp (disch:=omega) only [Wc,oA,Zg,Zq,Zi,Zf,Yb,Yu,Yp,Zh,Zk,Zx,Yc,Zj,Ag,Av,Ah,Aj,Ab,Aa];rfl
theorem u6q (d:Int) (hd:axO (dhA d)=true) (p:Int) (R:List R4) (hR:R.length≤400) (n5:Nat) (v6 v7:Int) (P:List Int): ∀(k j:Nat) (out:List R7),j+k=R.length→out.length≤10000000+j→
  ∃n,∀N,Yy (Wc l x1) (N+n) (.to (.h3 p R (R.length:Int) (j:Int) n5 v6 v7 d out d (dhA d) P))=Yy (Wc l x1) N (.to (.h2 n5 v6 (wrap .i64 (v7+1)) d (out++(R.drop j).map (qdA d (dhA d) p)) d (dhA d) P))
 | 0,j,out,h,h'=>by have _u:=hS;have _v:=hx;refine ⟨1,fun N=> ?_⟩;rw [Au (by omega),Bd,Az,Zv];simp (disch:=omega) only [Wc,Zt,Aa]
 | k+1,j,out,h,h'=>by
  have hj:j<R.length:=by omega
  have oB: ∀x y z,Ks (dhA d) x y z=true:=fun _ _ _=>hd;obtain ⟨n,hn⟩:=u6q d hd p R hR n5 v6 v7 P k (j+1) (out++[qdA d (dhA d) p (rd R j)]) (by omega) (by simp only [Aw,Bo];omega);refine ⟨n+1,fun N=> ?_⟩;rw [Yg hj,AY,←AB,Zv,show out++qdA d (dhA d) p (rd R j)::(R.drop (j+1)).map (qdA d (dhA d) p)=(out++[qdA d (dhA d) p (rd R j)])++(R.drop (j+1)).map (qdA d (dhA d) p) by simp,←hn N];simp (disch:=omega) only [Wc,oB,Zg,Zq,Zi,Zf,Yb,Yu,Yp,Zh,Zk,Zx,show Nat.beq 7 7=true from rfl,Zj,Ag,Av,Ah,Aj,Ab,Aa];rfl
theorem skn_eS (d:Nat) (hd6:d<6) (i:Nat) (hi:i<(plA (dhA (d:Int)) (rd l x1.toNat).s).length) (out:List R7):Wc l x1 (.h2 (plA (dhA (d:Int)) (rd l x1.toNat).s).length ((plA (dhA (d:Int)) (rd l x1.toNat).s).length :Int) (i:Int) (d:Int) out (d:Int) (dhA (d:Int)) (Wo (Xf (Jc (dhA (d:Int)) (rd l x1.toNat).s))))=bif (y4f (rd l x1.toNat).s (Yv l)) (d:Int) (rd (plA (dhA (d:Int)) (rd l x1.toNat).s) i) != 0 then .ret [.nils,.int .i64 ((y4f (rd l x1.toNat).s (Yv l)) (d:Int) (rd (plA (dhA (d:Int)) (rd l x1.toNat).s) i))] else
   .to (.h3 (rd (plA (dhA (d:Int)) (rd l x1.toNat).s) i) ((z6t (rd l x1.toNat).s (Yv l)) (d:Int) (rd (plA (dhA (d:Int)) (rd l x1.toNat).s) i)) (((z6t (rd l x1.toNat).s (Yv l)) (d:Int) (rd (plA (dhA (d:Int)) (rd l x1.toNat).s) i)).length :Int) ((0:Nat):Int) (plA (dhA (d:Int)) (rd l x1.toNat).s).length ((plA (dhA (d:Int)) (rd l x1.toNat).s).length :Int) (i:Int) (d:Int) out (d:Int) (dhA (d:Int)) (Wo (Xf (Jc (dhA (d:Int)) (rd l x1.toNat).s)))):=by
  have _v:=hx;have hd:=x2i hd6;have hp:=z0s (dhA (d:Int)) (rd l x1.toNat).s;have hpl:(Wo (Xf (Jc (dhA (d:Int)) (rd l x1.toNat).s))).length =2*(rd l x1.toNat).s.length :=by rw [Ju,Vr,Jq]
  have r0:rd (Wo (Xf (Jc (dhA (d:Int)) (rd l x1.toNat).s))) i=rd (plA (dhA (d:Int)) (rd l x1.toNat).s) i:=z6y _ _ hi;have o: ∀L p,L.length≤400→Xt (dhA (d:Int)) L p=true:=fun L p hL=>by show (axO (dhA (d:Int))&&decide (L.length≤1000))=true;rw [hd,Ai (by omega)];rfl
  have oS: ∀p,Xt (dhA (d:Int)) (rd l x1.toNat).s p=true:=fun p=>o _ _ hS;have oW: ∀p,Xt (dhA (d:Int)) (Yv l) p=true:=fun p=>o _ _ (j1j l);have ow:Qf l=Qf l:=rfl;have oR: ∀q a b,Ky q a b=true:=fun _ _ _=>rfl;rcases Yx (Int.tmod (d:Int) 2 == 1) with q | q
  ·simp (disch:=omega) only [Wc,q,r0,oS,oW,oR,Zg,Zq,Zi,Zf,Yb,Yu,Yp,Zj,Ag,Av,Ah,Aj,Ab,Aa,y4f,z6t,x5i,y5i];exact bif3 _ _ _ (fun e=>Xu.ret [.nils,.int .i64 e]) _
  ·simp (disch:=omega) only [Wc,q,r0,oS,oW,oR,Zg,Zq,Zi,Zf,Yb,Yu,Yp,Zj,Ag,Av,Ah,Aj,Ab,Aa,y4f,z6t,x5i,y5i];exact bif3 _ _ _ (fun e=>Xu.ret [.nils,.int .i64 e]) _
theorem u6r (d:Nat) (hd6:d<6): ∀(k i:Nat) (out:List R7),i+k=(plA (dhA (d:Int)) (rd l x1.toNat).s).length →out.length+400*k≤8000000→
  (y5u ((y4f (rd l x1.toNat).s (Yv l)) (d:Int)) ((plA (dhA (d:Int)) (rd l x1.toNat).s).drop i)=0→ ∃n,∀N,Yy (Wc l x1) (N+n) (.to (.h2 (plA (dhA (d:Int)) (rd l x1.toNat).s).length ((plA (dhA (d:Int)) (rd l x1.toNat).s).length :Int) (i:Int) (d:Int) out (d:Int) (dhA (d:Int)) (Wo (Xf (Jc (dhA (d:Int)) (rd l x1.toNat).s)))))=Yy (Wc l x1) N (.to (.h0 ((d+1:Nat):Int) (out++z4u (z6t (rd l x1.toNat).s (Yv l)) (d:Int) ((plA (dhA (d:Int)) (rd l x1.toNat).s).drop i)))))∧
  ((y5u ((y4f (rd l x1.toNat).s (Yv l)) (d:Int)) ((plA (dhA (d:Int)) (rd l x1.toNat).s).drop i) != 0)=true→ ∃n,∀N,Yy (Wc l x1) (N+n) (.to (.h2 (plA (dhA (d:Int)) (rd l x1.toNat).s).length ((plA (dhA (d:Int)) (rd l x1.toNat).s).length :Int) (i:Int) (d:Int) out (d:Int) (dhA (d:Int)) (Wo (Xf (Jc (dhA (d:Int)) (rd l x1.toNat).s)))))=.ret [.nils,.int .i64 (y5u ((y4f (rd l x1.toNat).s (Yv l)) (d:Int)) ((plA (dhA (d:Int)) (rd l x1.toNat).s).drop i))])
 | 0,i,out,h,h'=>by rw [Au (show (plA (dhA (d:Int)) (rd l x1.toNat).s).length ≤i by omega)];refine ⟨fun _=>⟨1,fun N=> ?_⟩,fun e=>by cases e⟩;rw [show z4u (z6t (rd l x1.toNat).s (Yv l)) (d:Int) []=[] from rfl,Az,Zv];simp (disch:=omega) only [Wc,Zt,Zk,Zx,Aa]
 | k+1,i,out,h,h'=>by
  have hi:i<(plA (dhA (d:Int)) (rd l x1.toNat).s).length :=by omega
  have hp:=z0s (dhA (d:Int)) (rd l x1.toNat).s;rw [Yg hi];have eE:y5u ((y4f (rd l x1.toNat).s (Yv l)) (d:Int)) (rd (plA (dhA (d:Int)) (rd l x1.toNat).s) i::(plA (dhA (d:Int)) (rd l x1.toNat).s).drop (i+1))=bif (y4f (rd l x1.toNat).s (Yv l)) (d:Int) (rd (plA (dhA (d:Int)) (rd l x1.toNat).s) i) != 0 then (y4f (rd l x1.toNat).s (Yv l)) (d:Int) (rd (plA (dhA (d:Int)) (rd l x1.toNat).s) i) else y5u ((y4f (rd l x1.toNat).s (Yv l)) (d:Int)) ((plA (dhA (d:Int)) (rd l x1.toNat).s).drop (i+1)):=rfl;have eM:z4u (z6t (rd l x1.toNat).s (Yv l)) (d:Int) (rd (plA (dhA (d:Int)) (rd l x1.toNat).s) i::(plA (dhA (d:Int)) (rd l x1.toNat).s).drop (i+1))=((z6t (rd l x1.toNat).s (Yv l)) (d:Int) (rd (plA (dhA (d:Int)) (rd l x1.toNat).s) i)).map (qdA (d:Int) (dhA (d:Int)) (rd (plA (dhA (d:Int)) (rd l x1.toNat).s) i))++z4u (z6t (rd l x1.toNat).s (Yv l)) (d:Int) ((plA (dhA (d:Int)) (rd l x1.toNat).s).drop (i+1)):=rfl;rw [eE,eM];have eS:=skn_eS l x1 hx hS d hd6 i hi out;rcases Yx ((y4f (rd l x1.toNat).s (Yv l)) (d:Int) (rd (plA (dhA (d:Int)) (rd l x1.toNat).s) i) != 0) with z | z
  ·rw [z,Ab];refine ⟨fun e=>(by rw [e] at z;cases z),fun _=>⟨1,fun N=> ?_⟩⟩;rw [Zv,eS,z,Ab,Zp]
  ·rw [z,Aa];have hm:((z6t (rd l x1.toNat).s (Yv l)) (d:Int) (rd (plA (dhA (d:Int)) (rd l x1.toNat).s) i)).length ≤400:=x3p _ _ _;obtain ⟨n2,h2⟩:=u6q l x1 hx hS (d:Int) (x2i hd6) (rd (plA (dhA (d:Int)) (rd l x1.toNat).s) i) ((z6t (rd l x1.toNat).s (Yv l)) (d:Int) (rd (plA (dhA (d:Int)) (rd l x1.toNat).s) i)) hm (plA (dhA (d:Int)) (rd l x1.toNat).s).length ((plA (dhA (d:Int)) (rd l x1.toNat).s).length :Int) (i:Int) (Wo (Xf (Jc (dhA (d:Int)) (rd l x1.toNat).s))) ((z6t (rd l x1.toNat).s (Yv l)) (d:Int) (rd (plA (dhA (d:Int)) (rd l x1.toNat).s) i)).length 0 out (Ag _) (by omega);rw [AX] at h2;obtain ⟨a1,a2⟩:=u6r d hd6 k (i+1) (out++((z6t (rd l x1.toNat).s (Yv l)) (d:Int) (rd (plA (dhA (d:Int)) (rd l x1.toNat).s) i)).map (qdA (d:Int) (dhA (d:Int)) (rd (plA (dhA (d:Int)) (rd l x1.toNat).s) i))) (by omega) (by rw [Aw,A6];omega);have ew:wrap .i64 ((i:Int)+1)=((i+1:Nat):Int):=by rw [Zk (by omega)];exact Zx i
   have st: ∀N,Yy (Wc l x1) (N+n2+1) (.to (.h2 (plA (dhA (d:Int)) (rd l x1.toNat).s).length ((plA (dhA (d:Int)) (rd l x1.toNat).s).length :Int) (i:Int) (d:Int) out (d:Int) (dhA (d:Int)) (Wo (Xf (Jc (dhA (d:Int)) (rd l x1.toNat).s)))))=Yy (Wc l x1) N (.to (.h2 (plA (dhA (d:Int)) (rd l x1.toNat).s).length ((plA (dhA (d:Int)) (rd l x1.toNat).s).length :Int) ((i+1:Nat):Int) (d:Int) (out++((z6t (rd l x1.toNat).s (Yv l)) (d:Int) (rd (plA (dhA (d:Int)) (rd l x1.toNat).s) i)).map (qdA (d:Int) (dhA (d:Int)) (rd (plA (dhA (d:Int)) (rd l x1.toNat).s) i))) (d:Int) (dhA (d:Int)) (Wo (Xf (Jc (dhA (d:Int)) (rd l x1.toNat).s))))):=fun N=>by rw [←ew,←h2 N,Zv,eS,z,Aa]
   refine ⟨fun e=> ?_,fun e=> ?_⟩
   ·obtain ⟨n,hn⟩:=a1 e;refine ⟨n+n2+1,fun N=> ?_⟩;rw [←AL,←hn N,←st (N+n),AB N,AB N,AB n]
   ·obtain ⟨n,hn⟩:=a2 e;refine ⟨n+n2+1,fun N=> ?_⟩;rw [←hn N,←st (N+n),AB N,AB N,AB n]
theorem u6t : ∀(k d:Nat) (out:List R7),d+k=6→out.length≤400000*d→
  ∃n,Yy (Wc l x1) n (.to (.h0 (d:Int) out))=.ret (z6p (bif w7i (y4f (rd l x1.toNat).s (Yv l)) (rd l x1.toNat).s k d != 0 then w7i (y4f (rd l x1.toNat).s (Yv l)) (rd l x1.toNat).s k d else bif decide (((out++y5y (z6t (rd l x1.toNat).s (Yv l)) (rd l x1.toNat).s k d).length :Int)>3000) then 4 else 0) (out++y5y (z6t (rd l x1.toNat).s (Yv l)) (rd l x1.toNat).s k d))
 | 0,d,out,h,h'=>by refine ⟨1,?_⟩;rw [Zv,show y5y (z6t (rd l x1.toNat).s (Yv l)) (rd l x1.toNat).s 0 d=[] from rfl,Az];simp (disch:=omega) only [Wc,Zt,Aa];show Yy (Wc l x1) 0 _=.ret (z6p (bif decide ((out.length:Int)>3000) then 4 else 0) out);cases decide ((out.length:Int)>3000) <;> rfl
 | k+1,d,out,h,h'=>by
  have hp:=z0s (dhA (d:Int)) (rd l x1.toNat).s;obtain ⟨n1,h1⟩:=u6s l x1 hx hS (d:Int) (x2i (show d<6 by omega)) out (rd l x1.toNat).s.length 0 [] (Ag _) rfl;obtain ⟨a1,a2⟩:=u6r l x1 hx hS d (by omega) (plA (dhA (d:Int)) (rd l x1.toNat).s).length 0 out (Ag _) (by omega);rw [AX] at a1 a2;have e0:Wc l x1 (.h0 (d:Int) out)=.to (.h1 [] ((0:Nat):Int) (d:Int) (dhA (d:Int)) (dhA (d:Int)) out (d:Int) (dhA (d:Int))):=by simp (disch:=omega) only [Wc,Zi,Ab];rfl
  have eE:w7i (y4f (rd l x1.toNat).s (Yv l)) (rd l x1.toNat).s (k+1) d=bif y5u ((y4f (rd l x1.toNat).s (Yv l)) (d:Int)) (plA (dhA (d:Int)) (rd l x1.toNat).s) != 0 then y5u ((y4f (rd l x1.toNat).s (Yv l)) (d:Int)) (plA (dhA (d:Int)) (rd l x1.toNat).s) else w7i (y4f (rd l x1.toNat).s (Yv l)) (rd l x1.toNat).s k (d+1):=rfl;have eN:y5y (z6t (rd l x1.toNat).s (Yv l)) (rd l x1.toNat).s (k+1) d=z4u (z6t (rd l x1.toNat).s (Yv l)) (d:Int) (plA (dhA (d:Int)) (rd l x1.toNat).s)++y5y (z6t (rd l x1.toNat).s (Yv l)) (rd l x1.toNat).s k (d+1):=rfl;rw [eE,eN];rcases Yx (y5u ((y4f (rd l x1.toNat).s (Yv l)) (d:Int)) (plA (dhA (d:Int)) (rd l x1.toNat).s) != 0) with z | z
  ·obtain ⟨n2,h2⟩:=a2 z;refine ⟨0+n2+n1+1,?_⟩;rw [Zv,e0,h1 (0+n2),z,Ab,Wx _ (by rw [z,Ab];exact z),z,Ab];exact h2 0
  ·obtain ⟨n2,h2⟩:=a1 (by simpa using z);have hl:=z8d (M:=(z6t (rd l x1.toNat).s (Yv l))) (fun _ _=>x3p _ _ _) (d:Int) (plA (dhA (d:Int)) (rd l x1.toNat).s);obtain ⟨n3,h3⟩:=u6t k (d+1) (out++z4u (z6t (rd l x1.toNat).s (Yv l)) (d:Int) (plA (dhA (d:Int)) (rd l x1.toNat).s)) (by omega) (by rw [Aw];omega);refine ⟨n3+n2+n1+1,?_⟩;rw [Zv,e0,h1 (n3+n2),z,Aa,←AL];exact (h2 n3).trans h3
end
section
variable (l:List Pa) (x1 x2:Int) (hx:0≤x1∧x1<(l.length:Int)) (hS:(rd l x1.toNat).s.length ≤400) (hy:0≤x2∧x2<(l.length:Int)) (hT:(rd l x2.toNat).s.length ≤400)
include hx hS hy hT
theorem u5x (d:Int) (hd:axO (dhA d)=true) (out:List R7): ∀(k j:Nat) (acc:List Int),j+k=(rd l x1.toNat).s.length →acc=Jc (dhA d) ((rd l x1.toNat).s.take j)→
  ∃n,∀N,Yy (Wa l x1 x2) (N+n) (.to (.h1 acc (j:Int) d (dhA d) (dhA d) out d (dhA d)))=Yy (Wa l x1 x2) N (.to (.h2 (plA (dhA d) (rd l x1.toNat).s).length ((plA (dhA d) (rd l x1.toNat).s).length :Int) 0 d out d (dhA d) (Wo (Xf (Jc (dhA d) (rd l x1.toNat).s)))))
 | 0,j,acc,h,h'=>by
  have _u:=hS;have _v:=hx;have _w:=hy;have _y:=hT;have e:acc=Jc (dhA d) (rd l x1.toNat).s :=by rw [h',AP (by omega)]
  subst e;have hle:=Jq (dhA d) (rd l x1.toNat).s;refine ⟨1,fun N=> ?_⟩;rw [Zv];simp (disch:=omega) only [Wa,Kv,z0t,y2f,Zt,Yu,Yp,Av,Ab,Aa];rfl
 | k+1,j,acc,h,h'=>by
  have hle:acc.length≤2*j:=by rw [h',Jq,AZ];omega
  have oA: ∀x y z,Uk (dhA d) x y z=true:=fun _ _ _=>hd;obtain ⟨n,hn⟩:=u5x d hd out k (j+1) (acc++Jc (dhA d) [rd (rd l x1.toNat).s j]) (by omega) (by
   rw [h',Bg];have:(rd l x1.toNat).s[j]? =some (rd (rd l x1.toNat).s j):=by rw [Yi (show j<(rd l x1.toNat).s.length by omega)];exact Ao _
   rw [this];simp [Jc])
  refine ⟨n+1,fun N=> ?_⟩;rw [←AB,Zv,←hn N];simp (disch:=omega) only [Wa,oA,Zg,Zq,Zi,Zf,Yb,Yu,Yp,Zh,Zk,Zx,Yc,Zj,Ag,Av,Ah,Aj,Ab,Aa];rfl
theorem u5v (d:Int) (hd:axO (dhA d)=true) (p:Int) (R:List R4) (hR:R.length≤400) (n5:Nat) (v6 v7:Int) (P:List Int): ∀(k j:Nat) (out:List R7),j+k=R.length→out.length≤10000000+j→
  ∃n,∀N,Yy (Wa l x1 x2) (N+n) (.to (.h3 p R (R.length:Int) (j:Int) n5 v6 v7 d out d (dhA d) P))=Yy (Wa l x1 x2) N (.to (.h2 n5 v6 (wrap .i64 (v7+1)) d (out++(R.drop j).map (qdA d (dhA d) p)) d (dhA d) P))
 | 0,j,out,h,h'=>by have _u:=hS;have _v:=hx;have _w:=hy;have _y:=hT;refine ⟨1,fun N=> ?_⟩;rw [Au (by omega),Bd,Az,Zv];simp (disch:=omega) only [Wa,Zt,Aa]
 | k+1,j,out,h,h'=>by
  have hj:j<R.length:=by omega
  have oB: ∀x y z,Ks (dhA d) x y z=true:=fun _ _ _=>hd;obtain ⟨n,hn⟩:=u5v d hd p R hR n5 v6 v7 P k (j+1) (out++[qdA d (dhA d) p (rd R j)]) (by omega) (by simp only [Aw,Bo];omega);refine ⟨n+1,fun N=> ?_⟩;rw [Yg hj,AY,←AB,Zv,show out++qdA d (dhA d) p (rd R j)::(R.drop (j+1)).map (qdA d (dhA d) p)=(out++[qdA d (dhA d) p (rd R j)])++(R.drop (j+1)).map (qdA d (dhA d) p) by simp,←hn N];simp (disch:=omega) only [Wa,oB,Zg,Zq,Zi,Zf,Yb,Yu,Yp,Zh,Zk,Zx,show Nat.beq 7 7=true from rfl,Zj,Ag,Av,Ah,Aj,Ab,Aa];rfl
theorem stp_eS (d:Nat) (hd6:d<6) (i:Nat) (hi:i<(plA (dhA (d:Int)) (rd l x1.toNat).s).length) (out:List R7):Wa l x1 x2 (.h2 (plA (dhA (d:Int)) (rd l x1.toNat).s).length ((plA (dhA (d:Int)) (rd l x1.toNat).s).length :Int) (i:Int) (d:Int) out (d:Int) (dhA (d:Int)) (Wo (Xf (Jc (dhA (d:Int)) (rd l x1.toNat).s))))=bif (y3z (rd l x1.toNat).s (rd l x2.toNat).s (bxP (rd l x2.toNat))) (d:Int) (rd (plA (dhA (d:Int)) (rd l x1.toNat).s) i) != 0 then .ret [.nils,.int .i64 ((y3z (rd l x1.toNat).s (rd l x2.toNat).s (bxP (rd l x2.toNat))) (d:Int) (rd (plA (dhA (d:Int)) (rd l x1.toNat).s) i))] else
   .to (.h3 (rd (plA (dhA (d:Int)) (rd l x1.toNat).s) i) ((z6o (rd l x1.toNat).s (rd l x2.toNat).s (bxP (rd l x2.toNat))) (d:Int) (rd (plA (dhA (d:Int)) (rd l x1.toNat).s) i)) (((z6o (rd l x1.toNat).s (rd l x2.toNat).s (bxP (rd l x2.toNat))) (d:Int) (rd (plA (dhA (d:Int)) (rd l x1.toNat).s) i)).length :Int) ((0:Nat):Int) (plA (dhA (d:Int)) (rd l x1.toNat).s).length ((plA (dhA (d:Int)) (rd l x1.toNat).s).length :Int) (i:Int) (d:Int) out (d:Int) (dhA (d:Int)) (Wo (Xf (Jc (dhA (d:Int)) (rd l x1.toNat).s)))):=by
  have _v:=hx;have _w:=hy;have _y:=hT;have hd:=x2i hd6;have hp:=z0s (dhA (d:Int)) (rd l x1.toNat).s;have hpl:(Wo (Xf (Jc (dhA (d:Int)) (rd l x1.toNat).s))).length =2*(rd l x1.toNat).s.length :=by rw [Ju,Vr,Jq]
  have r0:rd (Wo (Xf (Jc (dhA (d:Int)) (rd l x1.toNat).s))) i=rd (plA (dhA (d:Int)) (rd l x1.toNat).s) i:=z6y _ _ hi;have o: ∀L p,L.length≤400→Xt (dhA (d:Int)) L p=true:=fun L p hL=>by show (axO (dhA (d:Int))&&decide (L.length≤1000))=true;rw [hd,Ai (by omega)];rfl
  have oS: ∀p,Xt (dhA (d:Int)) (rd l x1.toNat).s p=true:=fun p=>o _ _ hS;have oW: ∀p,Xt (dhA (d:Int)) (rd l x2.toNat).s p=true:=fun p=>o _ _ hT;have oB: ∀p,Xt (dhA (d:Int)) [bxP (rd l x2.toNat)] p=true:=fun p=>o _ _ (show 1≤400 by decide);unfold bxP at oB;have oR: ∀q a b,Ky q a b=true:=fun _ _ _=>rfl;rcases Yx (Int.tmod (d:Int) 2 == 1) with q | q
  ·simp (disch:=omega) only [Wa,q,r0,oS,oW,oB,oR,Zg,Zq,Zi,Zf,Yb,Yu,Yp,Zj,Ag,Av,Ah,Aj,Ab,Aa,y3z,z6o,x5i,y5i];exact bif5 _ _ _ _ _ (fun e=>Xu.ret [.nils,.int .i64 e]) _
  ·simp (disch:=omega) only [Wa,q,r0,oS,oW,oB,oR,Zg,Zq,Zi,Zf,Yb,Yu,Yp,Zj,Ag,Av,Ah,Aj,Ab,Aa,y3z,z6o,x5i,y5i];exact bif5 _ _ _ _ _ (fun e=>Xu.ret [.nils,.int .i64 e]) _
theorem u5w (d:Nat) (hd6:d<6): ∀(k i:Nat) (out:List R7),i+k=(plA (dhA (d:Int)) (rd l x1.toNat).s).length →out.length+400*k≤8000000→
  (y5u ((y3z (rd l x1.toNat).s (rd l x2.toNat).s (bxP (rd l x2.toNat))) (d:Int)) ((plA (dhA (d:Int)) (rd l x1.toNat).s).drop i)=0→ ∃n,∀N,Yy (Wa l x1 x2) (N+n) (.to (.h2 (plA (dhA (d:Int)) (rd l x1.toNat).s).length ((plA (dhA (d:Int)) (rd l x1.toNat).s).length :Int) (i:Int) (d:Int) out (d:Int) (dhA (d:Int)) (Wo (Xf (Jc (dhA (d:Int)) (rd l x1.toNat).s)))))=Yy (Wa l x1 x2) N (.to (.h0 ((d+1:Nat):Int) (out++z4u (z6o (rd l x1.toNat).s (rd l x2.toNat).s (bxP (rd l x2.toNat))) (d:Int) ((plA (dhA (d:Int)) (rd l x1.toNat).s).drop i)))))∧
  ((y5u ((y3z (rd l x1.toNat).s (rd l x2.toNat).s (bxP (rd l x2.toNat))) (d:Int)) ((plA (dhA (d:Int)) (rd l x1.toNat).s).drop i) != 0)=true→ ∃n,∀N,Yy (Wa l x1 x2) (N+n) (.to (.h2 (plA (dhA (d:Int)) (rd l x1.toNat).s).length ((plA (dhA (d:Int)) (rd l x1.toNat).s).length :Int) (i:Int) (d:Int) out (d:Int) (dhA (d:Int)) (Wo (Xf (Jc (dhA (d:Int)) (rd l x1.toNat).s)))))=.ret [.nils,.int .i64 (y5u ((y3z (rd l x1.toNat).s (rd l x2.toNat).s (bxP (rd l x2.toNat))) (d:Int)) ((plA (dhA (d:Int)) (rd l x1.toNat).s).drop i))])
 | 0,i,out,h,h'=>by rw [Au (show (plA (dhA (d:Int)) (rd l x1.toNat).s).length ≤i by omega)];refine ⟨fun _=>⟨1,fun N=> ?_⟩,fun e=>by cases e⟩;rw [show z4u (z6o (rd l x1.toNat).s (rd l x2.toNat).s (bxP (rd l x2.toNat))) (d:Int) []=[] from rfl,Az,Zv];simp (disch:=omega) only [Wa,Zt,Zk,Zx,Aa]
 | k+1,i,out,h,h'=>by
  have hi:i<(plA (dhA (d:Int)) (rd l x1.toNat).s).length :=by omega
  have hp:=z0s (dhA (d:Int)) (rd l x1.toNat).s;rw [Yg hi];have eE:y5u ((y3z (rd l x1.toNat).s (rd l x2.toNat).s (bxP (rd l x2.toNat))) (d:Int)) (rd (plA (dhA (d:Int)) (rd l x1.toNat).s) i::(plA (dhA (d:Int)) (rd l x1.toNat).s).drop (i+1))=bif (y3z (rd l x1.toNat).s (rd l x2.toNat).s (bxP (rd l x2.toNat))) (d:Int) (rd (plA (dhA (d:Int)) (rd l x1.toNat).s) i) != 0 then (y3z (rd l x1.toNat).s (rd l x2.toNat).s (bxP (rd l x2.toNat))) (d:Int) (rd (plA (dhA (d:Int)) (rd l x1.toNat).s) i) else y5u ((y3z (rd l x1.toNat).s (rd l x2.toNat).s (bxP (rd l x2.toNat))) (d:Int)) ((plA (dhA (d:Int)) (rd l x1.toNat).s).drop (i+1)):=rfl;have eM:z4u (z6o (rd l x1.toNat).s (rd l x2.toNat).s (bxP (rd l x2.toNat))) (d:Int) (rd (plA (dhA (d:Int)) (rd l x1.toNat).s) i::(plA (dhA (d:Int)) (rd l x1.toNat).s).drop (i+1))=((z6o (rd l x1.toNat).s (rd l x2.toNat).s (bxP (rd l x2.toNat))) (d:Int) (rd (plA (dhA (d:Int)) (rd l x1.toNat).s) i)).map (qdA (d:Int) (dhA (d:Int)) (rd (plA (dhA (d:Int)) (rd l x1.toNat).s) i))++z4u (z6o (rd l x1.toNat).s (rd l x2.toNat).s (bxP (rd l x2.toNat))) (d:Int) ((plA (dhA (d:Int)) (rd l x1.toNat).s).drop (i+1)):=rfl;rw [eE,eM];have eS:=stp_eS l x1 x2 hx hS hy hT d hd6 i hi out;rcases Yx ((y3z (rd l x1.toNat).s (rd l x2.toNat).s (bxP (rd l x2.toNat))) (d:Int) (rd (plA (dhA (d:Int)) (rd l x1.toNat).s) i) != 0) with z | z
  ·rw [z,Ab];refine ⟨fun e=>(by rw [e] at z;cases z),fun _=>⟨1,fun N=> ?_⟩⟩;rw [Zv,eS,z,Ab,Zp]
  ·rw [z,Aa];have hm:((z6o (rd l x1.toNat).s (rd l x2.toNat).s (bxP (rd l x2.toNat))) (d:Int) (rd (plA (dhA (d:Int)) (rd l x1.toNat).s) i)).length ≤400:=x3p _ _ _;obtain ⟨n2,h2⟩:=u5v l x1 x2 hx hS hy hT (d:Int) (x2i hd6) (rd (plA (dhA (d:Int)) (rd l x1.toNat).s) i) ((z6o (rd l x1.toNat).s (rd l x2.toNat).s (bxP (rd l x2.toNat))) (d:Int) (rd (plA (dhA (d:Int)) (rd l x1.toNat).s) i)) hm (plA (dhA (d:Int)) (rd l x1.toNat).s).length ((plA (dhA (d:Int)) (rd l x1.toNat).s).length :Int) (i:Int) (Wo (Xf (Jc (dhA (d:Int)) (rd l x1.toNat).s))) ((z6o (rd l x1.toNat).s (rd l x2.toNat).s (bxP (rd l x2.toNat))) (d:Int) (rd (plA (dhA (d:Int)) (rd l x1.toNat).s) i)).length 0 out (Ag _) (by omega);rw [AX] at h2;obtain ⟨a1,a2⟩:=u5w d hd6 k (i+1) (out++((z6o (rd l x1.toNat).s (rd l x2.toNat).s (bxP (rd l x2.toNat))) (d:Int) (rd (plA (dhA (d:Int)) (rd l x1.toNat).s) i)).map (qdA (d:Int) (dhA (d:Int)) (rd (plA (dhA (d:Int)) (rd l x1.toNat).s) i))) (by omega) (by rw [Aw,A6];omega);have ew:wrap .i64 ((i:Int)+1)=((i+1:Nat):Int):=by rw [Zk (by omega)];exact Zx i
   have st: ∀N,Yy (Wa l x1 x2) (N+n2+1) (.to (.h2 (plA (dhA (d:Int)) (rd l x1.toNat).s).length ((plA (dhA (d:Int)) (rd l x1.toNat).s).length :Int) (i:Int) (d:Int) out (d:Int) (dhA (d:Int)) (Wo (Xf (Jc (dhA (d:Int)) (rd l x1.toNat).s)))))=Yy (Wa l x1 x2) N (.to (.h2 (plA (dhA (d:Int)) (rd l x1.toNat).s).length ((plA (dhA (d:Int)) (rd l x1.toNat).s).length :Int) ((i+1:Nat):Int) (d:Int) (out++((z6o (rd l x1.toNat).s (rd l x2.toNat).s (bxP (rd l x2.toNat))) (d:Int) (rd (plA (dhA (d:Int)) (rd l x1.toNat).s) i)).map (qdA (d:Int) (dhA (d:Int)) (rd (plA (dhA (d:Int)) (rd l x1.toNat).s) i))) (d:Int) (dhA (d:Int)) (Wo (Xf (Jc (dhA (d:Int)) (rd l x1.toNat).s))))):=fun N=>by rw [←ew,←h2 N,Zv,eS,z,Aa]
   refine ⟨fun e=> ?_,fun e=> ?_⟩
   ·obtain ⟨n,hn⟩:=a1 e;refine ⟨n+n2+1,fun N=> ?_⟩;rw [←AL,←hn N,←st (N+n),AB N,AB N,AB n]
   ·obtain ⟨n,hn⟩:=a2 e;refine ⟨n+n2+1,fun N=> ?_⟩;rw [←hn N,←st (N+n),AB N,AB N,AB n]
theorem u5y : ∀(k d:Nat) (out:List R7),d+k=6→out.length≤400000*d→
  ∃n,Yy (Wa l x1 x2) n (.to (.h0 (d:Int) out))=.ret (z6p (bif w7i (y3z (rd l x1.toNat).s (rd l x2.toNat).s (bxP (rd l x2.toNat))) (rd l x1.toNat).s k d != 0 then w7i (y3z (rd l x1.toNat).s (rd l x2.toNat).s (bxP (rd l x2.toNat))) (rd l x1.toNat).s k d else bif decide (((out++y5y (z6o (rd l x1.toNat).s (rd l x2.toNat).s (bxP (rd l x2.toNat))) (rd l x1.toNat).s k d).length :Int)>3000) then 4 else 0) (out++y5y (z6o (rd l x1.toNat).s (rd l x2.toNat).s (bxP (rd l x2.toNat))) (rd l x1.toNat).s k d))
 | 0,d,out,h,h'=>by refine ⟨1,?_⟩;rw [Zv,show y5y (z6o (rd l x1.toNat).s (rd l x2.toNat).s (bxP (rd l x2.toNat))) (rd l x1.toNat).s 0 d=[] from rfl,Az];simp (disch:=omega) only [Wa,Zt,Aa];show Yy (Wa l x1 x2) 0 _=.ret (z6p (bif decide ((out.length:Int)>3000) then 4 else 0) out);cases decide ((out.length:Int)>3000) <;> rfl
 | k+1,d,out,h,h'=>by
  have hp:=z0s (dhA (d:Int)) (rd l x1.toNat).s;obtain ⟨n1,h1⟩:=u5x l x1 x2 hx hS hy hT (d:Int) (x2i (show d<6 by omega)) out (rd l x1.toNat).s.length 0 [] (Ag _) rfl;obtain ⟨a1,a2⟩:=u5w l x1 x2 hx hS hy hT d (by omega) (plA (dhA (d:Int)) (rd l x1.toNat).s).length 0 out (Ag _) (by omega);rw [AX] at a1 a2;have e0:Wa l x1 x2 (.h0 (d:Int) out)=.to (.h1 [] ((0:Nat):Int) (d:Int) (dhA (d:Int)) (dhA (d:Int)) out (d:Int) (dhA (d:Int))):=by simp (disch:=omega) only [Wa,Zi,Ab];rfl
  have eE:w7i (y3z (rd l x1.toNat).s (rd l x2.toNat).s (bxP (rd l x2.toNat))) (rd l x1.toNat).s (k+1) d=bif y5u ((y3z (rd l x1.toNat).s (rd l x2.toNat).s (bxP (rd l x2.toNat))) (d:Int)) (plA (dhA (d:Int)) (rd l x1.toNat).s) != 0 then y5u ((y3z (rd l x1.toNat).s (rd l x2.toNat).s (bxP (rd l x2.toNat))) (d:Int)) (plA (dhA (d:Int)) (rd l x1.toNat).s) else w7i (y3z (rd l x1.toNat).s (rd l x2.toNat).s (bxP (rd l x2.toNat))) (rd l x1.toNat).s k (d+1):=rfl;have eN:y5y (z6o (rd l x1.toNat).s (rd l x2.toNat).s (bxP (rd l x2.toNat))) (rd l x1.toNat).s (k+1) d=z4u (z6o (rd l x1.toNat).s (rd l x2.toNat).s (bxP (rd l x2.toNat))) (d:Int) (plA (dhA (d:Int)) (rd l x1.toNat).s)++y5y (z6o (rd l x1.toNat).s (rd l x2.toNat).s (bxP (rd l x2.toNat))) (rd l x1.toNat).s k (d+1):=rfl;rw [eE,eN];rcases Yx (y5u ((y3z (rd l x1.toNat).s (rd l x2.toNat).s (bxP (rd l x2.toNat))) (d:Int)) (plA (dhA (d:Int)) (rd l x1.toNat).s) != 0) with z | z
  ·obtain ⟨n2,h2⟩:=a2 z;refine ⟨0+n2+n1+1,?_⟩;rw [Zv,e0,h1 (0+n2),z,Ab,Wx _ (by rw [z,Ab];exact z),z,Ab];exact h2 0
  ·obtain ⟨n2,h2⟩:=a1 (by simpa using z);have hl:=z8d (M:=(z6o (rd l x1.toNat).s (rd l x2.toNat).s (bxP (rd l x2.toNat)))) (fun _ _=>x3p _ _ _) (d:Int) (plA (dhA (d:Int)) (rd l x1.toNat).s);obtain ⟨n3,h3⟩:=u5y k (d+1) (out++z4u (z6o (rd l x1.toNat).s (rd l x2.toNat).s (bxP (rd l x2.toNat))) (d:Int) (plA (dhA (d:Int)) (rd l x1.toNat).s)) (by omega) (by rw [Aw];omega);refine ⟨n3+n2+n1+1,?_⟩;rw [Zv,e0,h1 (n3+n2),z,Aa,←AL];exact (h2 n3).trans h3
end
def sknL (l:List Pa) (x:Int):List R7:=y5y (z6t (rd l x.toNat).s (Yv l)) (rd l x.toNat).s 6 0
def z5a (l:List Pa) (x:Int):Int:=bif z2l l != 0 then z2l l else bif decide (x<0)||decide (x≥(l.length:Int)) then 2 else bif z0e l != 0 then z0e l else v9t (y4f (rd l x.toNat).s (Yv l)) (z6t (rd l x.toNat).s (Yv l)) (rd l x.toNat).s
def z8q (l:List Pa) (x:Int):List R7:=z4t (z5a l x) (sknL l x)
def z8p (l:List Pa) (_:Int):Bool:=smP l
theorem j2d (l:List Pa) (x:Int) (h:z8p l x=true): ∃n,Yy (Wc l x) n (y4e l x)=.ret (z6p (z5a l x) (sknL l x)):=by
 have h:smP l=true:=h;have o2:Qf l=true:=Ai (z4y h);unfold y4e z5a;simp only [Zg,show Jf l=true from h,o2,Ab];rcases Yx (z2l l != 0) with q | q
 ·exact ⟨0,by rw [q,Ab,Ab,Wx _ q];rfl⟩
 by_cases g1:x<0
 ·exact ⟨0,by rw [q,Ai g1];rfl⟩
 by_cases g2:x≥(l.length:Int)
 ·exact ⟨0,by rw [q,An g1,Ai g2];rfl⟩
 rcases Yx (z0e l != 0) with q2 | q2
 ·exact ⟨0,by rw [q,An g1,An g2,q2];simp only [Ab,Aa,Cg];rw [Wx _ q2];rfl⟩
 have hx:0≤x∧x<(l.length:Int):=by omega
 obtain ⟨n,hn⟩:=u6t l x hx (x3a (by simpa using q) (show Int.toNat x<l.length by omega)).2 6 0 [] rfl (AD _);refine ⟨n,?_⟩;rw [q,An g1,An g2,q2,Zf hx];simp only [Aa,Cg,Ah,Ab];unfold v9t sknL;rw [Bc,z4q] at hn;exact hn
def fSkn :List AVal→Option (AVal×Bool)
 | [a0,.int .i64 x1]=>match asL Pa a0 with
  | some (L0,g0,n0)=>some (.tup [.dat (z8q L0 x1).length (Zz (z8q L0 x1)),.int .i64 (z5a L0 x1)],isT Pa n0 g0&&(z8p L0 x1))
  | _=>none
 | _=>none
theorem j6h {S:Specs} (hS:Zu prog S):Zu prog (S.with nSkin fSkn):=by
 refine w3d hS (by kernel_rfl) fun args v h=> ?_;unfold fSkn at h;split at h
 ·rename_i a0 x1;split at h
  ·rename_i L0 g0 n0 e0;simp only [Ae,Ad,Ac] at h;obtain ⟨rfl,ho0,hw⟩:=h;obtain ⟨N,hN⟩:=j2d L0 x1 hw;exact ⟨_,_,(.cons (Yh e0 ho0) (.cons (.refl _) .nil)),Kx _ _,u0q L0 x1 N _ hN,3,z1c _ _⟩
  ·cases h
 ·cases h
def stpL (l:List Pa) (x y:Int):List R7:=y5y (z6o (rd l x.toNat).s (rd l y.toNat).s (bxP (rd l y.toNat))) (rd l x.toNat).s 6 0
def z4w (l:List Pa) (x y:Int):Int:=bif z2l l != 0 then z2l l else bif decide (x<0)||(decide (x≥(l.length:Int))||(decide (y<0)||(decide (y≥(l.length:Int))||(x == y)))) then 2 else v9t (y3z (rd l x.toNat).s (rd l y.toNat).s (bxP (rd l y.toNat))) (z6o (rd l x.toNat).s (rd l y.toNat).s (bxP (rd l y.toNat))) (rd l x.toNat).s
def z1v (l:List Pa) (x y:Int):List R7:=z4t (z4w l x y) (stpL l x y)
def z8o (l:List Pa) (_ _:Int):Bool:=smP l
theorem j1m (l:List Pa) (x y:Int) (h:z8o l x y=true): ∃n,Yy (Wa l x y) n (y3y l x y)=.ret (z6p (z4w l x y) (stpL l x y)):=by
 have h:smP l=true:=h;unfold y3y z4w;simp only [Zg,show Jf l=true from h,Ab];rcases Yx (z2l l != 0) with q | q
 ·exact ⟨0,by rw [q,Ab,Ab,Wx _ q];rfl⟩
 by_cases g1:x<0
 ·exact ⟨0,by rw [q,Ai g1];rfl⟩
 by_cases g2:x≥(l.length:Int)
 ·exact ⟨0,by rw [q,An g1,Ai g2];rfl⟩
 by_cases g3:y<0
 ·exact ⟨0,by rw [q,An g1,An g2,Ai g3];rfl⟩
 by_cases g4:y≥(l.length:Int)
 ·exact ⟨0,by rw [q,An g1,An g2,An g3,Ai g4];rfl⟩
 rcases Yx (x == y) with q2 | q2
 ·exact ⟨0,by rw [q,An g1,An g2,An g3,An g4,q2];rfl⟩
 have hx:0≤x∧x<(l.length:Int):=by omega
 have hy:0≤y∧y<(l.length:Int):=by omega
 obtain ⟨n,hn⟩:=u5y l x y hx (x3a (by simpa using q) (show Int.toNat x<l.length by omega)).2 hy (x3a (by simpa using q) (show Int.toNat y<l.length by omega)).2 6 0 [] rfl (AD _);refine ⟨n,?_⟩;rw [q,An g1,An g2,An g3,An g4,q2,Zf hx];simp only [Aa,Cg,Ah,Ab];unfold v9t stpL;rw [Bc,z4q] at hn;exact hn
def fStp :List AVal→Option (AVal×Bool)
 | [a0,.int .i64 x1,.int .i64 x2]=>match asL Pa a0 with
  | some (L0,g0,n0)=>some (.tup [.dat (z1v L0 x1 x2).length (Zz (z1v L0 x1 x2)),.int .i64 (z4w L0 x1 x2)],isT Pa n0 g0&&(z8o L0 x1 x2))
  | _=>none
 | _=>none
theorem j6e {S:Specs} (hS:Zu prog S):Zu prog (S.with nStep fStp):=by
 refine w3d hS (by kernel_rfl) fun args v h=> ?_;unfold fStp at h;split at h
 ·rename_i a0 x1 x2;split at h
  ·rename_i L0 g0 n0 e0;simp only [Ae,Ad,Ac] at h;obtain ⟨rfl,ho0,hw⟩:=h;obtain ⟨N,hN⟩:=j1m L0 x1 x2 hw;exact ⟨_,_,(.cons (Yh e0 ho0) (.cons (.refl _) (.cons (.refl _) .nil))),Kx _ _,u0e L0 x1 x2 N _ hN,3,z1c _ _⟩
  ·cases h
 ·cases h
def Vg0 :Specs:=((Vc.with nSkin fSkn).with nStep fStp)
theorem Vg0_ok :Zu prog Vg0:=(j6e (j6h Wf))
inductive rinS where
def rinC (aJ:Int) (aP:Int) (aO:Int) (x1:Int):rinS→Cfg
 :=nofun
def w0r (aJ:Int) (aP:Int) (aO:Int) (x1:Int):rinS→Xu rinS
 :=nofun
def y5c (aJ:Int) (aP:Int) (aO:Int) (x1:Int):Xu rinS:=(bif (decide (aJ≥x1)) then (bif (decide (aP≥x1)) then (bif (decide (aO≥x1)) then (bif (decide (aJ≤1000000)) then (bif (decide (aP≤1000000)) then (.ret [(.bool (decide (aO≤1000000)))]) else (.ret [(.bool false)])) else (.ret [(.bool false)])) else (.ret [(.bool false)])) else (.ret [(.bool false)])) else (.ret [(.bool false)]))
theorem w9n (aJ:Int) (aP:Int) (aO:Int) (x1:Int): ∀s,Xq prog (Zy prog 26) (rinC aJ aP aO x1) (rinC aJ aP aO x1 s) (w0r aJ aP aO x1 s)
 :=nofun
theorem w0s (aJ:Int) (aP:Int) (aO:Int) (x1:Int):Xq prog (Zy prog 26) (rinC aJ aP aO x1) (Zb prog 26 [(.agg [(.int .i64 aJ),(.int .i64 aP),(.int .i64 aO)]),(.int .i64 x1)] true []) (y5c aJ aP aO x1):=(lb (fun k0=>(lb (fun k1=>(lb (fun k2=>(lb (fun k3=>(lb (fun k4=>(lr 36 3 [1,1,1,1,0] 1 6 [(4,(.bool (decide (aO≤1000000))))] (sl Xp 40 [] ⟨[],[],[some [4]],[]⟩ ⟨[],[],[]⟩ (trs 17 []) (tt k4 (tt k3 (tt k2 (tt k1 (tt k0 nn)))))))) (fun k4=>(lr 36 3 [1,1,1,1,0] 1 6 [(4,(.bool false))] (sl Xp 40 [] ⟨[],[],[some [4]],[]⟩ ⟨[],[],[]⟩ (trs 14 [false,false,false]) (tt k4 (tt k3 (tt k2 (tt k1 (tt k0 nn)))))))))) (fun k3=>(lr 36 3 [1,1,1,1,0] 1 6 [(4,(.bool false))] (sl Xp 40 [] ⟨[],[],[some [4]],[]⟩ ⟨[],[],[]⟩ (trs 11 [false,false,false,false,false,false]) (tt k3 (tt k2 (tt k1 (tt k0 nn))))))))) (fun k2=>(lr 36 3 [1,1,1,1,0] 1 6 [(4,(.bool false))] (sl Xp 40 [] ⟨[],[],[some [4]],[]⟩ ⟨[],[],[]⟩ (trs 8 [false,false,false,false,false,false,false,false,false]) (tt k2 (tt k1 (tt k0 nn)))))))) (fun k1=>(lr 36 3 [1,1,1,1,0] 1 6 [(4,(.bool false))] (sl Xp 40 [] ⟨[],[],[some [4]],[]⟩ ⟨[],[],[]⟩ (trs 4 [false,false,false,false,false,false,false,false,false,false,false,false,false]) (tt k1 (tt k0 nn))))))) (fun k0=>(lr 36 3 [1,1,1,1,0] 1 6 [(4,(.bool false))] (sl Xp 40 [] ⟨[],[],[some [4]],[]⟩ ⟨[],[],[]⟩ [false,false,false,false,false,false,false,false,false,false,false,false,false,false,false,false,false] (tt k0 nn)))))
theorem u2e (aJ:Int) (aP:Int) (aO:Int) (x1:Int) (n:Nat) (vs:List AVal) (h:Yy (w0r aJ aP aO x1) n (y5c aJ aP aO x1)=.ret vs):Jx prog (Zy prog 26) (Zb prog 26 [(.agg [(.int .i64 aJ),(.int .i64 aP),(.int .i64 aO)]),(.int .i64 x1)] true []) vs:=by have:=Zd (w9n aJ aP aO x1) n _ (w0s aJ aP aO x1);rwa [h] at this
inductive crdS where
def crdC (aJ:Int) (aP:Int) (aO:Int) (x1:Int):crdS→Cfg
 :=nofun
def w3o (aJ:Int) (aP:Int) (aO:Int) (x1:Int):crdS→Xu crdS
 :=nofun
def y5v (aJ:Int) (aP:Int) (aO:Int) (x1:Int):Xu crdS:=(bif (x1 == 0) then (.ret [(.int .i64 aJ)]) else (bif (x1 == 1) then (.ret [(.int .i64 aP)]) else (.ret [(.int .i64 aO)])))
theorem v1i (aJ:Int) (aP:Int) (aO:Int) (x1:Int): ∀s,Xq prog (Zy prog 64) (crdC aJ aP aO x1) (crdC aJ aP aO x1 s) (w3o aJ aP aO x1 s)
 :=nofun
theorem w3p (aJ:Int) (aP:Int) (aO:Int) (x1:Int):Xq prog (Zy prog 64) (crdC aJ aP aO x1) (Zb prog 64 [(.agg [(.int .i64 aJ),(.int .i64 aP),(.int .i64 aO)]),(.int .i64 x1)] true []) (y5v aJ aP aO x1):=(lb (fun k0=>(lr 15 64 [1,0,1,0,0] 1 6 [(4,(ii aJ))] (sl Xp 18 [] ⟨[],[],[some [4]],[]⟩ ⟨[],[],[]⟩ [true] (tt k0 nn)))) (fun k0=>(lb (fun k1=>(lr 15 64 [1,1,0,1,0,0] 1 6 [(4,(ii aP))] (sl Xp 26 [] ⟨[],[],[some [4]],[]⟩ ⟨[],[],[]⟩ [false,true] (tt k1 (tt k0 nn))))) (fun k1=>(lr 15 3 [1,1,1,1,0] 1 6 [(4,(ii aO))] (sl Xp 27 [] ⟨[],[],[some [4]],[]⟩ ⟨[],[],[]⟩ [false,false] (tt k1 (tt k0 nn))))))))
theorem u5g (aJ:Int) (aP:Int) (aO:Int) (x1:Int) (n:Nat) (vs:List AVal) (h:Yy (w3o aJ aP aO x1) n (y5v aJ aP aO x1)=.ret vs):Jx prog (Zy prog 64) (Zb prog 64 [(.agg [(.int .i64 aJ),(.int .i64 aP),(.int .i64 aO)]),(.int .i64 x1)] true []) vs:=by have:=Zd (v1i aJ aP aO x1) n _ (w3p aJ aP aO x1);rwa [h] at this
inductive putS where
def putC (x0:Int) (x1:Int) (x2:Int) (x3:Int):putS→Cfg
 :=nofun
def w1o (x0:Int) (x1:Int) (x2:Int) (x3:Int):putS→Xu putS
 :=nofun
def y5h (x0:Int) (x1:Int) (x2:Int) (x3:Int):Xu putS:=(bif (x0 == 0) then (.ret [(.agg [(.int .i64 x1),(.int .i64 x2),(.int .i64 x3)])]) else (bif (x0 == 1) then (.ret [(.agg [(.int .i64 x2),(.int .i64 x1),(.int .i64 x3)])]) else (.ret [(.agg [(.int .i64 x2),(.int .i64 x3),(.int .i64 x1)])])))
theorem w9y (x0:Int) (x1:Int) (x2:Int) (x3:Int): ∀s,Xq prog (Zy prog 88) (putC x0 x1 x2 x3) (putC x0 x1 x2 x3 s) (w1o x0 x1 x2 x3 s)
 :=nofun
theorem w1p (x0:Int) (x1:Int) (x2:Int) (x3:Int):Xq prog (Zy prog 88) (putC x0 x1 x2 x3) (Zb prog 88 [(.int .i64 x0),(.int .i64 x1),(.int .i64 x2),(.int .i64 x3)] true []) (y5h x0 x1 x2 x3):=(lb (fun k0=>(Ko ⟨⟨26,0,true⟩,none,(Zc prog 3 [1,1,1,1,0] 1),none,(Zy prog 80),⟨Ya [(8,(.ptr 0 0))],Vd [⟨[(ii x1),(ii x2),(ii x3)],50,none⟩] 0,1,[],true⟩,[],.leaf⟩ (sl Xp 132 [] ⟨[0],[],[some [8]],[]⟩ ⟨[],[],[]⟩ [true,true,false,true,false,false] (tt k0 (tt k0 nn))) rfl (by kernel_rfl))) (fun k0=>(lb (fun k1=>(Ko ⟨⟨26,0,true⟩,none,(Zc prog 3 [1,1,1,1,0] 1),none,(Zy prog 80),⟨Ya [(8,(.ptr 0 0))],Vd [⟨[(ii x2),(ii x1),(ii x3)],50,none⟩] 0,1,[],true⟩,[],.leaf⟩ (sl Xp 140 [] ⟨[0],[],[some [8]],[]⟩ ⟨[],[],[]⟩ [false,true,false,true,true,false,false] (tt k1 (tt k0 (tt k1 (tt k0 nn))))) rfl (by kernel_rfl))) (fun k1=>(Ko ⟨⟨26,0,true⟩,none,(Zc prog 3 [1,1,1,1,0] 1),none,(Zy prog 80),⟨Ya [(8,(.ptr 0 0))],Vd [⟨[(ii x2),(ii x3),(ii x1)],50,none⟩] 0,1,[],true⟩,[],.leaf⟩ (sl Xp 141 [] ⟨[0],[],[some [8]],[]⟩ ⟨[],[],[]⟩ [false,false,false,false,true,false,true] (tt k1 (tt k0 (tt k1 (tt k0 nn))))) rfl (by kernel_rfl))))))
theorem u3g (x0:Int) (x1:Int) (x2:Int) (x3:Int) (n:Nat) (vs:List AVal) (h:Yy (w1o x0 x1 x2 x3) n (y5h x0 x1 x2 x3)=.ret vs):Jx prog (Zy prog 88) (Zb prog 88 [(.int .i64 x0),(.int .i64 x1),(.int .i64 x2),(.int .i64 x3)] true []) vs:=by have:=Zd (w9y x0 x1 x2 x3) n _ (w1p x0 x1 x2 x3);rwa [h] at this
inductive rh6S where
 | h0 (v5:Int)
def rh6C (l0:List R6) (aQ:Int) (aS:Int) (aR:Int):rh6S→Cfg
 | .h0 v5=>⟨⟨18,0,true⟩,none,(Zc prog 29 [1,0,1,0,0] 0),none,(Zy prog 6),⟨Ya [(0,(.dat l0.length (Zz l0))),(3,(.ptr 0 0)),(5,(ii v5))],Vd [⟨[(ii aQ),(ii aS),(ii aR)],50,none⟩] 0,1,[],true⟩,[],.leaf⟩
def w0y :List (Option (List Nat)):=[some [0,3,5]]
def w0z :List (Option (List Nat)):=[]
def z7r (l0:List R6) (aQ:Int) (aS:Int) (aR:Int):rh6S→Xu rh6S
 | .h0 v5=>(bif (decide (v5<(l0.length:Int))) then (bif ((decide (0≤v5∧v5<(l0.length:Int)))&&true) then (bif (decide ((rd l0 v5.toNat).a ≤aQ)) then (bif (decide (aQ<(rd l0 v5.toNat).d)) then (bif (decide ((rd l0 v5.toNat).b ≤aS)) then (bif (decide (aS<(rd l0 v5.toNat).e)) then (bif (decide ((rd l0 v5.toNat).c ≤aR)) then (bif (decide (aR<(rd l0 v5.toNat).f)) then (.ret [(.bool true)]) else (.to (.h0 (wrap .i64 (v5+1))))) else (.to (.h0 (wrap .i64 (v5+1))))) else (.to (.h0 (wrap .i64 (v5+1))))) else (.to (.h0 (wrap .i64 (v5+1))))) else (.to (.h0 (wrap .i64 (v5+1))))) else (.to (.h0 (wrap .i64 (v5+1))))) else .stuck) else (.ret [(.bool false)]))
def x3n (l0:List R6) (aQ:Int) (aS:Int) (aR:Int):Xu rh6S:=(.to (.h0 0))
theorem w9p (l0:List R6) (aQ:Int) (aS:Int) (aR:Int): ∀s,Xq prog (Zy prog 29) (rh6C l0 aQ aS aR) (rh6C l0 aQ aS aR s) (z7r l0 aQ aS aR s)
 | .h0 v5=>(lb (fun k0=>(lo fun aH=>(lb (fun k1=>(lb (fun k2=>(lb (fun k3=>(lb (fun k4=>(lb (fun k5=>(lb (fun k6=>(lr 18 29 [1,0,1,0,0,1,0,0,1,0,0] 1 6 [(4,(.bool true))] (sl Xp 19 [] ⟨[],[],[some [4]],[]⟩ ⟨[],[],[]⟩ (trs 32 []) (tt k6 (tt k5 (tt k4 (tt k3 (tt k2 (tt k1 (ww aH (tt k0 nn))))))))))) (fun k6=>(sl Xp 23 [] ⟨[0],[],w0y,w0z⟩ ⟨[],[],[]⟩ (trs 31 [false]) (tt k6 (tt k5 (tt k4 (tt k3 (tt k2 (tt k1 (ww aH (tt k0 nn)))))))))))) (fun k5=>(sl Xp 23 [] ⟨[0],[],w0y,w0z⟩ ⟨[],[],[]⟩ (trs 25 (bl 7 0)) (tt k5 (tt k4 (tt k3 (tt k2 (tt k1 (ww aH (tt k0 nn))))))))))) (fun k4=>(sl Xp 23 [] ⟨[0],[],w0y,w0z⟩ ⟨[],[],[]⟩ (trs 19 (bl 13 0)) (tt k4 (tt k3 (tt k2 (tt k1 (ww aH (tt k0 nn)))))))))) (fun k3=>(sl Xp 23 [] ⟨[0],[],w0y,w0z⟩ ⟨[],[],[]⟩ (trs 13 (bl 19 0)) (tt k3 (tt k2 (tt k1 (ww aH (tt k0 nn))))))))) (fun k2=>(sl Xp 23 [] ⟨[0],[],w0y,w0z⟩ ⟨[],[],[]⟩ (trs 7 (bl 25 0)) (tt k2 (tt k1 (ww aH (tt k0 nn)))))))) (fun k1=>(sl Xp 23 [] ⟨[0],[],w0y,w0z⟩ ⟨[],[],[]⟩ (bl 32 1) (tt k1 (ww aH (tt k0 nn)))))))) (fun k0=>(lr 18 3 [1,1,1,1,0] 1 6 [(4,(.bool false))] (sl Xp 14 [] ⟨[],[],[some [4]],[]⟩ ⟨[],[],[]⟩ [false] (tt k0 nn)))))
theorem w0x (l0:List R6) (aQ:Int) (aS:Int) (aR:Int):Xq prog (Zy prog 29) (rh6C l0 aQ aS aR) (Zb prog 29 [(.dat l0.length (Zz l0)),(.agg [(.int .i64 aQ),(.int .i64 aS),(.int .i64 aR)])] true []) (x3n l0 aQ aS aR):=(sl Xp 12 [] ⟨[0],[],w0y,w0z⟩ ⟨[],[],[]⟩ [] nn)
theorem u2i (l0:List R6) (aQ:Int) (aS:Int) (aR:Int) (n:Nat) (vs:List AVal) (h:Yy (z7r l0 aQ aS aR) n (x3n l0 aQ aS aR)=.ret vs):Jx prog (Zy prog 29) (Zb prog 29 [(.dat l0.length (Zz l0)),(.agg [(.int .i64 aQ),(.int .i64 aS),(.int .i64 aR)])] true []) vs:=by have:=Zd (w9p l0 aQ aS aR) n _ (w0x l0 aQ aS aR);rwa [h] at this
inductive twiS where
def twiC (l0:List R6):twiS→Cfg
 :=nofun
def x8u (l0:List R6):twiS→Xu twiS
 :=nofun
def y3v (l0:List R6):Xu twiS:=(bif (decide ((0+l0.length+1)*(48+1)≤Jh)) then (.ret [(.dat l0.length (Zz l0))]) else .stuck)
theorem w7r (l0:List R6): ∀s,Xq prog (Zy prog 43) (twiC l0) (twiC l0 s) (x8u l0 s)
 :=nofun
theorem x8v (l0:List R6):Xq prog (Zy prog 43) (twiC l0) (Zb prog 43 [(.dat l0.length (Zz l0))] true []) (y3v l0):=(lo fun o0=>(lr 6 3 [1,1,1,1,0] 1 9 [(2,(.dat l0.length (Zz l0)))] (sl Xp 11 [] ⟨[],[1],[some [2]],[]⟩ ⟨[(2,.frz (0+l0.length) l0.length (Jm (fun k=>(([]:List AVal).drop (k*6)).take 6) 0 (Zz l0)) (Zz l0))],[],[]⟩ [] (pp (xZ (z5q 6 6 0 (0+l0.length) (0+l0.length) (Jm (fun k=>(([]:List AVal).drop (k*6)).take 6) 0 (Zz l0))) (0+l0.length) (Jm (fun k=>(([]:List AVal).drop (k*6)).take 6) 0 (Zz l0))) (pp (xL (0+l0.length) l0.length (Uz (Ag _))) (pp (xS (0+l0.length) (Jm (fun k=>(([]:List AVal).drop (k*6)).take 6) 0 (Zz l0)) (Zz l0)) (pp (pp (xF (Jm (fun k=>(([]:List AVal).drop (k*6)).take 6) 0 (Zz l0))) nn) (pp (pp nn (pp (xG (x4m 6 l0.length (Zz l0))) (xw o0))) nn))))))))
theorem u0a (l0:List R6) (n:Nat) (vs:List AVal) (h:Yy (x8u l0) n (y3v l0)=.ret vs):Jx prog (Zy prog 43) (Zb prog 43 [(.dat l0.length (Zz l0))] true []) vs:=by have:=Zd (w7r l0) n _ (x8v l0);rwa [h] at this
inductive rsqS where
 | h0 (v5:Int)
def rsqC (l0:List R7) (l1:List R7):rsqS→Cfg
 | .h0 v5=>⟨⟨26,0,true⟩,none,(Zc prog 23 [1,1,0,1,0,0] 0),none,(Zy prog 6),⟨Ya [(0,(.dat l0.length (Zz l0))),(1,(.dat l1.length (Zz l1))),(5,(ii v5))],Vd [] 0,0,[],true⟩,[],.leaf⟩
def rsqN0 :List (Option (List Nat)):=[some [0,1,5]]
def rsqM0 :List (Option (List Nat)):=[]
def z7n (l0:List R7) (l1:List R7):rsqS→Xu rsqS
 | .h0 v5=>(bif (decide (v5<(l0.length:Int))) then (bif ((decide (0≤v5∧v5<(l0.length:Int)))&&true) then (bif ((decide (0≤v5∧v5<(l1.length:Int)))&&true) then (bif (!(((rd l0 v5.toNat).a == (rd l1 v5.toNat).a)&&((((rd l0 v5.toNat).b == (rd l1 v5.toNat).b)&&(((rd l0 v5.toNat).c == (rd l1 v5.toNat).c)&&(((rd l0 v5.toNat).d == (rd l1 v5.toNat).d)&&true)))&&((((rd l0 v5.toNat).e == (rd l1 v5.toNat).e)&&(((rd l0 v5.toNat).f == (rd l1 v5.toNat).f)&&(((rd l0 v5.toNat).g == (rd l1 v5.toNat).g)&&true)))&&true)))) then (.ret [(.bool false)]) else (.to (.h0 (wrap .i64 (v5+1))))) else .stuck) else .stuck) else (.ret [(.bool true)]))
def y4m (l0:List R7) (l1:List R7):Xu rsqS:=(bif ((l0.length:Int) != (l1.length:Int)) then (.ret [(.bool false)]) else (.to (.h0 0)))
theorem w8y (l0:List R7) (l1:List R7): ∀s,Xq prog (Zy prog 23) (rsqC l0 l1) (rsqC l0 l1 s) (z7n l0 l1 s)
 | .h0 v5=>(lb (fun k0=>(lo fun aH=>(lo fun aY=>(lb (fun k1=>(lr 26 23 [1,1,0,1,0,0,1,0,0,1,0,0] 1 6 [(4,(.bool false))] (sl Xp 19 [] ⟨[],[],[some [4]],[]⟩ ⟨[],[],[]⟩ (bl 2 3) (tt k1 (ww aY (ww aH (tt k0 nn))))))) (fun k1=>(sl Xp 23 [] ⟨[],[],rsqN0,rsqM0⟩ ⟨[],[],[]⟩ (bl 2 1) (tt k1 (ww aY (ww aH (tt k0 nn)))))))))) (fun k0=>(lr 26 3 [1,1,1,1,0] 1 6 [(4,(.bool true))] (sl Xp 14 [] ⟨[],[],[some [4]],[]⟩ ⟨[],[],[]⟩ [false] (tt k0 nn)))))
theorem x9z (l0:List R7) (l1:List R7):Xq prog (Zy prog 23) (rsqC l0 l1) (Zb prog 23 [(.dat l0.length (Zz l0)),(.dat l1.length (Zz l1))] true []) (y4m l0 l1):=(lb (fun k0=>(lr 26 23 [1,0,1,0,0] 1 6 [(4,(.bool false))] (sl Xp 18 [] ⟨[],[],[some [4]],[]⟩ ⟨[],[],[]⟩ [true] (tt k0 nn)))) (fun k0=>(sl Xp 22 [] ⟨[],[],rsqN0,rsqM0⟩ ⟨[],[],[]⟩ [false] (tt k0 nn))))
theorem u1m (l0:List R7) (l1:List R7) (n:Nat) (vs:List AVal) (h:Yy (z7n l0 l1) n (y4m l0 l1)=.ret vs):Jx prog (Zy prog 23) (Zb prog 23 [(.dat l0.length (Zz l0)),(.dat l1.length (Zz l1))] true []) vs:=by have:=Zd (w8y l0 l1) n _ (x9z l0 l1);rwa [h] at this
inductive rcmS where
def rcmC (aJ:Int) (aP:Int) (aO:Int) (aT:Int) (aW:Int) (aU:Int) (aQ:Int) (aS:Int) (aR:Int) (bQ:Int) (bR:Int) (bP:Int):rcmS→Cfg
 :=nofun
def w1i (aJ:Int) (aP:Int) (aO:Int) (aT:Int) (aW:Int) (aU:Int) (aQ:Int) (aS:Int) (aR:Int) (bQ:Int) (bR:Int) (bP:Int):rcmS→Xu rcmS
 :=nofun
def y5f (aJ:Int) (aP:Int) (aO:Int) (aT:Int) (aW:Int) (aU:Int) (aQ:Int) (aS:Int) (aR:Int) (bQ:Int) (bR:Int) (bP:Int):Xu rcmS:=(bif (decide ((z1n aJ aQ)≥(z1m aT bQ))) then (.ret [(.agg [(.int .i64 0),(.int .i64 0),(.int .i64 0),(.int .i64 0),(.int .i64 0),(.int .i64 0)])]) else (bif (decide ((z1n aP aS)≥(z1m aW bR))) then (.ret [(.agg [(.int .i64 0),(.int .i64 0),(.int .i64 0),(.int .i64 0),(.int .i64 0),(.int .i64 0)])]) else (bif (decide ((z1n aO aR)≥(z1m aU bP))) then (.ret [(.agg [(.int .i64 0),(.int .i64 0),(.int .i64 0),(.int .i64 0),(.int .i64 0),(.int .i64 0)])]) else (.ret [(.agg [(.int .i64 (z1n aJ aQ)),(.int .i64 (z1n aP aS)),(.int .i64 (z1n aO aR)),(.int .i64 (z1m aT bQ)),(.int .i64 (z1m aW bR)),(.int .i64 (z1m aU bP))])]))))
theorem w9w (aJ:Int) (aP:Int) (aO:Int) (aT:Int) (aW:Int) (aU:Int) (aQ:Int) (aS:Int) (aR:Int) (bQ:Int) (bR:Int) (bP:Int): ∀s,Xq prog (Zy prog 61) (rcmC aJ aP aO aT aW aU aQ aS aR bQ bR bP) (rcmC aJ aP aO aT aW aU aQ aS aR bQ bR bP s) (w1i aJ aP aO aT aW aU aQ aS aR bQ bR bP s)
 :=nofun
theorem w1j (aJ:Int) (aP:Int) (aO:Int) (aT:Int) (aW:Int) (aU:Int) (aQ:Int) (aS:Int) (aR:Int) (bQ:Int) (bR:Int) (bP:Int):Xq prog (Zy prog 61) (rcmC aJ aP aO aT aW aU aQ aS aR bQ bR bP) (Zb prog 61 [(.agg [(.int .i64 aJ),(.int .i64 aP),(.int .i64 aO),(.int .i64 aT),(.int .i64 aW),(.int .i64 aU)]),(.agg [(.int .i64 aQ),(.int .i64 aS),(.int .i64 aR),(.int .i64 bQ),(.int .i64 bR),(.int .i64 bP)])] true []) (y5f aJ aP aO aT aW aU aQ aS aR bQ bR bP):=(lb (fun k0=>(Ko ⟨⟨78,0,true⟩,none,(Zc prog 61 [1,1,0,1,0,0] 1),none,(Zy prog 61),⟨Ya [(4,(.ptr 0 0))],Vd [⟨[(ii 0),(ii 0),(ii 0),(ii 0),(ii 0),(ii 0)],57,none⟩] 0,1,[],true⟩,[],.leaf⟩ (sl Xp 91 [] ⟨[2],[],[some [4]],[]⟩ ⟨[],[],[]⟩ (trs 15 []) (tt k0 nn)) rfl (by kernel_rfl))) (fun k0=>(lb (fun k1=>(Ko ⟨⟨78,0,true⟩,none,(Zc prog 61 [1,1,0,1,0,0] 1),none,(Zy prog 61),⟨Ya [(4,(.ptr 0 0))],Vd [⟨[(ii 0),(ii 0),(ii 0),(ii 0),(ii 0),(ii 0)],57,none⟩] 0,1,[],true⟩,[],.leaf⟩ (sl Xp 91 [] ⟨[2],[],[some [4]],[]⟩ ⟨[],[],[]⟩ [false,false,false,false,false,false,false,true,true,true,true,true,true,true,true] (tt k1 (tt k0 nn))) rfl (by kernel_rfl))) (fun k1=>(lb (fun k2=>(Ko ⟨⟨78,0,true⟩,none,(Zc prog 61 [1,1,0,1,0,0] 1),none,(Zy prog 61),⟨Ya [(4,(.ptr 0 0))],Vd [⟨[(ii 0),(ii 0),(ii 0),(ii 0),(ii 0),(ii 0)],57,none⟩] 0,1,[],true⟩,[],.leaf⟩ (sl Xp 91 [] ⟨[2],[],[some [4]],[]⟩ ⟨[],[],[]⟩ [false,false,false,false,false,false,false,false,false,false,false,false,false,false,true] (tt k2 (tt k1 (tt k0 nn)))) rfl (by kernel_rfl))) (fun k2=>(Ko ⟨⟨78,0,true⟩,none,(Zc prog 3 [1,1,1,1,0] 1),none,(Zy prog 61),⟨Ya [(4,(.ptr 0 0))],Vd [⟨[(ii (z1n aJ aQ)),(ii (z1n aP aS)),(ii (z1n aO aR)),(ii (z1m aT bQ)),(ii (z1m aW bR)),(ii (z1m aU bP))],57,none⟩] 0,1,[],true⟩,[],.leaf⟩ (sl Xp 92 [] ⟨[2],[],[some [4]],[]⟩ ⟨[],[],[]⟩ [false,false,false,false,false,false,false,false,false,false,false,false,false,false,false] (tt k2 (tt k1 (tt k0 nn)))) rfl (by kernel_rfl))))))))
theorem u2x (aJ:Int) (aP:Int) (aO:Int) (aT:Int) (aW:Int) (aU:Int) (aQ:Int) (aS:Int) (aR:Int) (bQ:Int) (bR:Int) (bP:Int) (n:Nat) (vs:List AVal) (h:Yy (w1i aJ aP aO aT aW aU aQ aS aR bQ bR bP) n (y5f aJ aP aO aT aW aU aQ aS aR bQ bR bP)=.ret vs):Jx prog (Zy prog 61) (Zb prog 61 [(.agg [(.int .i64 aJ),(.int .i64 aP),(.int .i64 aO),(.int .i64 aT),(.int .i64 aW),(.int .i64 aU)]),(.agg [(.int .i64 aQ),(.int .i64 aS),(.int .i64 aR),(.int .i64 bQ),(.int .i64 bR),(.int .i64 bP)])] true []) vs:=by have:=Zd (w9w aJ aP aO aT aW aU aQ aS aR bQ bR bP) n _ (w1j aJ aP aO aT aW aU aQ aS aR bQ bR bP);rwa [h] at this
inductive ribS where
def ribC (aJ:Int) (aP:Int) (aO:Int) (aT:Int) (aW:Int) (aU:Int) (aQ:Int) (aS:Int) (aR:Int):ribS→Cfg
 :=nofun
def w0t (aJ:Int) (aP:Int) (aO:Int) (aT:Int) (aW:Int) (aU:Int) (aQ:Int) (aS:Int) (aR:Int):ribS→Xu ribS
 :=nofun
def y5d (aJ:Int) (aP:Int) (aO:Int) (aT:Int) (aW:Int) (aU:Int) (aQ:Int) (aS:Int) (aR:Int):Xu ribS:=(bif (decide (aJ≤aQ)) then (bif (decide (aQ<aT)) then (bif (decide (aP≤aS)) then (bif (decide (aS<aW)) then (bif (decide (aO≤aR)) then (.ret [(.bool (decide (aR<aU)))]) else (.ret [(.bool false)])) else (.ret [(.bool false)])) else (.ret [(.bool false)])) else (.ret [(.bool false)])) else (.ret [(.bool false)]))
theorem w9o (aJ:Int) (aP:Int) (aO:Int) (aT:Int) (aW:Int) (aU:Int) (aQ:Int) (aS:Int) (aR:Int): ∀s,Xq prog (Zy prog 30) (ribC aJ aP aO aT aW aU aQ aS aR) (ribC aJ aP aO aT aW aU aQ aS aR s) (w0t aJ aP aO aT aW aU aQ aS aR s)
 :=nofun
theorem w0u (aJ:Int) (aP:Int) (aO:Int) (aT:Int) (aW:Int) (aU:Int) (aQ:Int) (aS:Int) (aR:Int):Xq prog (Zy prog 30) (ribC aJ aP aO aT aW aU aQ aS aR) (Zb prog 30 [(.agg [(.int .i64 aJ),(.int .i64 aP),(.int .i64 aO),(.int .i64 aT),(.int .i64 aW),(.int .i64 aU)]),(.agg [(.int .i64 aQ),(.int .i64 aS),(.int .i64 aR)])] true []) (y5d aJ aP aO aT aW aU aQ aS aR):=(lb (fun k0=>(lb (fun k1=>(lb (fun k2=>(lb (fun k3=>(lb (fun k4=>(lr 51 3 [1,1,1,1,0] 1 6 [(4,(.bool (decide (aR<aU))))] (sl Xp 56 [] ⟨[],[],[some [4]],[]⟩ ⟨[],[],[]⟩ (trs 30 []) (tt k4 (tt k3 (tt k2 (tt k1 (tt k0 nn)))))))) (fun k4=>(lr 51 3 [1,1,1,1,0] 1 6 [(4,(.bool false))] (sl Xp 56 [] ⟨[],[],[some [4]],[]⟩ ⟨[],[],[]⟩ (trs 24 [false,false,false,false,false,false]) (tt k4 (tt k3 (tt k2 (tt k1 (tt k0 nn)))))))))) (fun k3=>(lr 51 3 [1,1,1,1,0] 1 6 [(4,(.bool false))] (sl Xp 56 [] ⟨[],[],[some [4]],[]⟩ ⟨[],[],[]⟩ (trs 18 [false,false,false,false,false,false,false,false,false,false,false,false]) (tt k3 (tt k2 (tt k1 (tt k0 nn))))))))) (fun k2=>(lr 51 3 [1,1,1,1,0] 1 6 [(4,(.bool false))] (sl Xp 56 [] ⟨[],[],[some [4]],[]⟩ ⟨[],[],[]⟩ (trs 12 [false,false,false,false,false,false,false,false,false,false,false,false,false,false,false,false,false,false]) (tt k2 (tt k1 (tt k0 nn)))))))) (fun k1=>(lr 51 3 [1,1,1,1,0] 1 6 [(4,(.bool false))] (sl Xp 56 [] ⟨[],[],[some [4]],[]⟩ ⟨[],[],[]⟩ (trs 6 [false,false,false,false,false,false,false,false,false,false,false,false,false,false,false,false,false,false,false,false,false,false,false,false]) (tt k1 (tt k0 nn))))))) (fun k0=>(lr 51 3 [1,1,1,1,0] 1 6 [(4,(.bool false))] (sl Xp 56 [] ⟨[],[],[some [4]],[]⟩ ⟨[],[],[]⟩ [false,false,false,false,false,false,false,false,false,false,false,false,false,false,false,false,false,false,false,false,false,false,false,false,false,false,false,false,false,false] (tt k0 nn)))))
theorem u2f (aJ:Int) (aP:Int) (aO:Int) (aT:Int) (aW:Int) (aU:Int) (aQ:Int) (aS:Int) (aR:Int) (n:Nat) (vs:List AVal) (h:Yy (w0t aJ aP aO aT aW aU aQ aS aR) n (y5d aJ aP aO aT aW aU aQ aS aR)=.ret vs):Jx prog (Zy prog 30) (Zb prog 30 [(.agg [(.int .i64 aJ),(.int .i64 aP),(.int .i64 aO),(.int .i64 aT),(.int .i64 aW),(.int .i64 aU)]),(.agg [(.int .i64 aQ),(.int .i64 aS),(.int .i64 aR)])] true []) vs:=by have:=Zd (w9o aJ aP aO aT aW aU aQ aS aR) n _ (w0u aJ aP aO aT aW aU aQ aS aR);rwa [h] at this
inductive nr39S where
 | h0 (v3:Int)
def j5c (l0:List R6):nr39S→Cfg
 | .h0 v3=>⟨⟨103,0,true⟩,none,(Zc prog 37 [1,1,0,1,0,0] 0),none,(Zy prog 9),⟨Ya [(0,(.dat l0.length (Zz l0))),(3,(ii v3))],Vd [] 0,0,[],true⟩,[],.leaf⟩
def u9j :List (Option (List Nat)):=[some [0,3]]
def u9k :List (Option (List Nat)):=[]
def z6e (l0:List R6):nr39S→Xu nr39S
 | .h0 v3=>(bif (decide (v3<(l0.length:Int))) then (bif ((decide (0≤v3∧v3<(l0.length:Int)))&&true) then (bif (decide ((z1m (z1m (rd l0 v3.toNat).a (rd l0 v3.toNat).b) (rd l0 v3.toNat).c)<(-12))) then (.ret [(.bool false)]) else (bif (decide ((z1n (z1n (rd l0 v3.toNat).d (rd l0 v3.toNat).e) (rd l0 v3.toNat).f)>12)) then (.ret [(.bool false)]) else (bif (decide ((z1m (z1m (rd l0 v3.toNat).d (rd l0 v3.toNat).e) (rd l0 v3.toNat).f)<(-12))) then (.ret [(.bool false)]) else (bif (decide ((z1n (z1n (rd l0 v3.toNat).a (rd l0 v3.toNat).b) (rd l0 v3.toNat).c)>12)) then (.ret [(.bool false)]) else (.to (.h0 (wrap .i64 (v3+1)))))))) else .stuck) else (.ret [(.bool (decide ((l0.length:Int)≤6)))]))
def z9q (l0:List R6):Xu nr39S:=(bif (decide ((l0.length:Int)>400)) then (.ret [(.bool (decide ((l0.length:Int)≤420)))]) else (.to (.h0 0)))
theorem w1t (l0:List R6): ∀s,Xq prog (Zy prog 37) (j5c l0) (j5c l0 s) (z6e l0 s)
 | .h0 v3=>(lb (fun k0=>(lo fun aH=>(lb (fun k1=>(lr 103 37 [1,1,0,1,0,0,1,0,0,0,1,0,0] 1 9 [(2,(.bool false))] (sl Xp 20 [] ⟨[],[],[some [2]],[]⟩ ⟨[],[],[]⟩ (trs 22 []) (tt k1 (ww aH (ww aH (ww aH (tt k0 nn)))))))) (fun k1=>(lb (fun k2=>(lr 103 37 [1,1,0,1,0,0,1,0,0,0,1,0,0] 1 9 [(2,(.bool false))] (sl Xp 20 [] ⟨[],[],[some [2]],[]⟩ ⟨[],[],[]⟩ (bl 22 2097153) (tt k2 (ww aH (ww aH (ww aH (tt k1 (ww aH (ww aH (ww aH (tt k0 nn)))))))))))) (fun k2=>(lb (fun k3=>(lr 103 37 [1,1,0,1,0,0,1,0,0,1,1,0,0] 1 9 [(2,(.bool false))] (sl Xp 24 [] ⟨[],[],[some [2]],[]⟩ ⟨[],[],[]⟩ (bl 43 8796088827905) (tt k3 (ww aH (ww aH (ww aH (tt k2 (ww aH (ww aH (ww aH (tt k1 (ww aH (ww aH (ww aH (tt k0 nn)))))))))))))))) (fun k3=>(lb (fun k4=>(lr 103 37 [1,1,0,1,0,0,1,0,0,1,1,0,0] 1 9 [(2,(.bool false))] (sl Xp 24 [] ⟨[],[],[some [2]],[]⟩ ⟨[],[],[]⟩ (bl 43 4398046511105) (tt k4 (ww aH (ww aH (ww aH (tt k3 (ww aH (ww aH (ww aH (tt k2 (ww aH (ww aH (ww aH (tt k1 (ww aH (ww aH (ww aH (tt k0 nn)))))))))))))))))))) (fun k4=>(sl Xp 28 [] ⟨[],[],u9j,u9k⟩ ⟨[],[],[]⟩ (bl 43 1) (tt k4 (ww aH (ww aH (ww aH (tt k3 (ww aH (ww aH (ww aH (tt k2 (ww aH (ww aH (ww aH (tt k1 (ww aH (ww aH (ww aH (tt k0 nn)))))))))))))))))))))))))))) (fun k0=>(lr 103 3 [1,1,1,1,0] 1 9 [(2,(.bool (decide ((l0.length:Int)≤6))))] (sl Xp 17 [] ⟨[],[],[some [2]],[]⟩ ⟨[],[],[]⟩ [false] (tt k0 nn)))))
theorem x6p (l0:List R6):Xq prog (Zy prog 37) (j5c l0) (Zb prog 37 [(.dat l0.length (Zz l0))] true []) (z9q l0):=(lb (fun k0=>(lr 103 37 [1,0,1,0,0] 1 9 [(2,(.bool (decide ((l0.length:Int)≤420))))] (sl Xp 19 [] ⟨[],[],[some [2]],[]⟩ ⟨[],[],[]⟩ [true] (tt k0 nn)))) (fun k0=>(sl Xp 20 [] ⟨[],[],u9j,u9k⟩ ⟨[],[],[]⟩ [false] (tt k0 nn))))
theorem v6a (l0:List R6) (n:Nat) (vs:List AVal) (h:Yy (z6e l0) n (z9q l0)=.ret vs):Jx prog (Zy prog 37) (Zb prog 37 [(.dat l0.length (Zz l0))] true []) vs:=by have:=Zd (w1t l0) n _ (x6p l0);rwa [h] at this
inductive rjnS where
def rjnC (x0:Int) (l1:List R6) (l2:List R6):rjnS→Cfg
 :=nofun
def w0p (x0:Int) (l1:List R6) (l2:List R6):rjnS→Xu rjnS
 :=nofun
def y5b (x0:Int) (l1:List R6) (l2:List R6):Xu rjnS:=(bif (z1d (cvT l1)) then (bif ((Wr (cvT l1)) != 0) then (.ret [.nils,(.int .i64 (Wr (cvT l1)))]) else (bif (z1d (cvT l2)) then (bif ((Wr (cvT l2)) != 0) then (.ret [.nils,(.int .i64 (Wr (cvT l2)))]) else (bif (z4a x0 (cvT l1) (cvT l2)) then (bif (!(z2n x0 (cvT l1) (cvT l2))) then (.ret [.nils,(.int .i64 4)]) else (.ret [(.dat (Qq x0 (cvT l1) (cvT l2)).length (Zz (Qq x0 (cvT l1) (cvT l2)))),(.int .i64 0)])) else .stuck)) else .stuck)) else .stuck)
theorem w9m (x0:Int) (l1:List R6) (l2:List R6): ∀s,Xq prog (Zy prog 42) (rjnC x0 l1 l2) (rjnC x0 l1 l2 s) (w0p x0 l1 l2 s)
 :=nofun
theorem w0q (x0:Int) (l1:List R6) (l2:List R6):Xq prog (Zy prog 42) (rjnC x0 l1 l2) (Zb prog 42 [(.int .i64 x0),(.dat l1.length (Zz l1)),(.dat l2.length (Zz l2))] true []) (y5b x0 l1 l2):=(lo fun bJ=>(lb (fun k0=>(lr 27 42 [1,0,1,0,0] 1 10 [(6,.nils),(7,(ii (Wr (cvT l1))))] (sl Xp 60 [] ⟨[],[],[some [6,7]],[]⟩ ⟨[],[],[]⟩ (trs 3 []) (pp (pp (xr l1) (xw bJ)) (tt k0 (pp (pp (xr l1) (xw bJ)) (tt k0 (pp (pp (xr l1) (xw bJ)) (tt k0 (pp (pp (xr l1) (xw bJ)) nn)))))))))) (fun k0=>(lo fun aH=>(lb (fun k1=>(lr 27 42 [1,0,1,0,0] 1 10 [(6,.nils),(7,(ii (Wr (cvT l2))))] (sl Xp 62 [] ⟨[],[],[some [6,7]],[]⟩ ⟨[],[],[]⟩ [false,true,false] (pp (pp (xr l2) (xw aH)) (tt k0 (pp (pp (xr l1) (xw bJ)) (tt k1 (pp (pp (xr l2) (xw aH)) (tt k0 (pp (pp (xr l1) (xw bJ)) nn)))))))))) (fun k1=>(lo fun bL=>(lb (fun k2=>(lr 27 42 [1,1,1,0,1,0,0] 1 10 [(6,.nils),(7,(ii 4))] (sl Xp 59 [] ⟨[],[],[some [6,7]],[]⟩ ⟨[],[],[]⟩ [false,false,true] (tt k2 (pp (pp (xr l1) (pp (xr l2) (xw bL))) (tt k1 (pp (pp (xr l2) (xw aH)) (tt k0 (pp (pp (xr l1) (xw bJ)) nn))))))))) (fun k2=>(lr 27 3 [1,1,1,1,0] 1 10 [(6,(.dat (Qq x0 (cvT l1) (cvT l2)).length (Zz (Qq x0 (cvT l1) (cvT l2))))),(7,(ii 0))] (sl Xp 61 [] ⟨[],[],[some [6,7]],[]⟩ ⟨[],[],[]⟩ [false,false,false] (tt k2 (pp (pp (xr l1) (pp (xr l2) (xw bL))) (tt k1 (pp (pp (xr l2) (xw aH)) (tt k0 (pp (pp (xr l1) (xw bJ)) nn)))))))))))))))))
theorem u2d (x0:Int) (l1:List R6) (l2:List R6) (n:Nat) (vs:List AVal) (h:Yy (w0p x0 l1 l2) n (y5b x0 l1 l2)=.ret vs):Jx prog (Zy prog 42) (Zb prog 42 [(.int .i64 x0),(.dat l1.length (Zz l1)),(.dat l2.length (Zz l2))] true []) vs:=by have:=Zd (w9m x0 l1 l2) n _ (w0q x0 l1 l2);rwa [h] at this
def x8l (x y z lo:Int):Bool:=decide (x≥lo)&&(decide (y≥lo)&&(decide (z≥lo)&&(decide (x≤1000000)&&(decide (y≤1000000)&&decide (z≤1000000)))))
theorem j4d (x y z lo:Int): ∃N,Yy (w0r x y z lo) N (y5c x y z lo)=.ret [.bool (x8l x y z lo)]:=⟨0,by
 unfold y5c x8l;cases decide (x≥lo) <;> cases decide (y≥lo) <;> cases decide (z≥lo) <;> cases decide (x≤1000000) <;> cases decide (y≤1000000) <;> rfl⟩
def fRin :List AVal→Option (AVal×Bool)
 | [.agg [.int .i64 x,.int .i64 y,.int .i64 z],.int .i64 lo]=>some (.bool (x8l x y z lo),true)
 | _=>none
theorem j6u {S:Specs} (hS:Zu prog S):Zu prog (S.with v6m fRin):=by
 refine z0v hS (by kernel_rfl) fun args v h=> ?_;unfold fRin at h;split at h
 ·rename_i x y z lo;simp only [Ae,Ad,BZ] at h;subst h;obtain ⟨N,hN⟩:=j4d x y z lo;exact ⟨_,_,(.cons (.refl _) (.cons (.refl _) .nil)),rfl,u2e x y z lo N _ hN,3,rfl⟩
 ·cases h
def z6k (x y z i:Int):Int:=bif i == 0 then x else bif i == 1 then y else z
theorem j8b (x y z i:Int): ∃N,Yy (w3o x y z i) N (y5v x y z i)=.ret [.int .i64 (z6k x y z i)]:=⟨0,by
 unfold y5v z6k;cases (i == 0) <;> cases (i == 1) <;> rfl⟩
def fCrd :List AVal→Option (AVal×Bool)
 | [.agg [.int .i64 aJ,.int .i64 aP,.int .i64 aO],.int .i64 x1]=>some (.int .i64 (z6k aJ aP aO x1),true)
 | _=>none
theorem j7l {S:Specs} (hS:Zu prog S):Zu prog (S.with w6c fCrd):=by
 refine z0v hS (by kernel_rfl) fun args v h=> ?_;unfold fCrd at h;split at h
 ·rename_i aJ aP aO x1;simp only [Ae,Ad,BZ] at h;subst h;obtain ⟨N,hN⟩:=j8b aJ aP aO x1;exact ⟨_,_,(.cons (.refl _) (.cons (.refl _) .nil)),rfl,u5g aJ aP aO x1 N _ hN,3,rfl⟩
 ·cases h
def Vf (i a x y:Int):R3:=bif i == 0 then ⟨a,x,y⟩ else bif i == 1 then ⟨x,a,y⟩ else ⟨x,y,a⟩
theorem j4u (i a x y:Int): ∃N,Yy (w1o i a x y) N (y5h i a x y)=.ret [.agg [.int .i64 (Vf i a x y).a,.int .i64 (Vf i a x y).b,.int .i64 (Vf i a x y).c]]:=⟨0,by
 unfold y5h Vf;cases i == 0 <;> cases i == 1 <;> rfl⟩
def fPut :List AVal→Option (AVal×Bool)
 | [.int .i64 i,.int .i64 a,.int .i64 x,.int .i64 y]=>some (.agg [.int .i64 (Vf i a x y).a,.int .i64 (Vf i a x y).b,.int .i64 (Vf i a x y).c],true)
 | _=>none
theorem j7b {S:Specs} (hS:Zu prog S):Zu prog (S.with u9s fPut):=by
 refine z0v hS (by kernel_rfl) fun args v h=> ?_;unfold fPut at h;split at h
 ·rename_i i a x y;simp only [Ae,Ad,BZ] at h;subst h;obtain ⟨N,hN⟩:=j4u i a x y;exact ⟨_,_,(.cons (.refl _) (.cons (.refl _) (.cons (.refl _) (.cons (.refl _) .nil)))),rfl,u3g i a x y N _ hN,3,rfl⟩
 ·cases h
def shR (x y z:Int) (r:R6):Bool:=decide (r.a≤x)&&(decide (x<r.d)&&(decide (r.b≤y)&&(decide (y<r.e)&&(decide (r.c≤z)&&decide (z<r.f)))))
def shsV (L:List R6) (x y z:Int):Bool:=L.any (shR x y z)
def rh6V (L:List R6) (x y z:Int):Bool:=shsV L x y z
def Qi (L:List R6) (x y z:Int):Bool:=decide (L.length≤100000)
theorem u8o {L:List R6} {x y z:Int} (hl:L.length≤100000): ∀(k i:Nat),i+k=L.length→ ∃N,Yy (z7r L x y z) N (.to (.h0 (i:Int)))=.ret [.bool ((L.drop i).any (shR x y z))]
 | 0,i,h=>by refine ⟨1,?_⟩;rw [Zv,Au (by omega)];simp (disch:=omega) only [z7r,Zt,Aa,Zp,List.any_nil]
 | k+1,i,h=>by
  have hi:i<L.length:=by omega
  obtain ⟨N,hN⟩:=u8o (x:=x) (y:=y) (z:=z) hl k (i+1) (by omega);refine ⟨N+1,?_⟩;rw [Zv,Yg hi,Ca];have e:z7r L x y z (.h0 (i:Int))=bif shR x y z (rd L i) then .ret [.bool true] else .to (.h0 ((i+1:Nat):Int)):=by unfold shR;simp (disch:=omega) only [z7r,y2i,Zi,Zf,Zk,Zx,Zj,Ah,Ab]
  rw [e];cases shR x y z (rd L i) with
  | true=>rw [Ab,Zp,BB]
  | false=>rw [Aa,hN,Bl]
theorem j4h (L:List R6) (x y z:Int) (h:Qi L x y z=true): ∃N,Yy (z7r L x y z) N (x3n L x y z)=.ret [.bool (rh6V L x y z)]:=by obtain ⟨N,hN⟩:=u8o (x:=x) (y:=y) (z:=z) (AA h) L.length 0 (Ag _);exact ⟨N,hN⟩
def fRh6 :List AVal→Option (AVal×Bool)
 | [a0,.agg [.int .i64 aQ,.int .i64 aS,.int .i64 aR]]=>match asL R6 a0 with
  | some (L0,g0,n0)=>some (.bool (rh6V L0 aQ aS aR),isT R6 n0 g0&&(Qi L0 aQ aS aR))
  | _=>none
 | _=>none
theorem j6w {S:Specs} (hS:Zu prog S):Zu prog (S.with u9r fRh6):=by
 refine z0v hS (by kernel_rfl) fun args v h=> ?_;unfold fRh6 at h;split at h
 ·rename_i a0 aQ aS aR;split at h
  ·rename_i L0 g0 n0 e0;simp only [Ae,Ad,Ac] at h;obtain ⟨rfl,ho0,hw⟩:=h;obtain ⟨N,hN⟩:=j4h L0 aQ aS aR hw;exact ⟨_,_,(.cons (Yh e0 ho0) (.cons (.refl _) .nil)),rfl,u2i L0 aQ aS aR N _ hN,3,rfl⟩
  ·cases h
 ·cases h
def v2o (L:List R6):List R6:=L
def z8l (L:List R6):Bool:=decide (L.length≤2000000)
theorem j1e (L:List R6) (h:z8l L=true): ∃N,Yy (x8u L) N (y3v L)=.ret [.dat (v2o L).length (Zz (v2o L))]:=⟨0,by
 have h:L.length≤2000000:=AA h;unfold y3v;rw [Zh (by omega)];rfl⟩
def fTwi :List AVal→Option (AVal×Bool)
 | [a0]=>match asL R6 a0 with
  | some (L0,g0,n0)=>some (.dat (v2o L0).length (Zz (v2o L0)),isT R6 n0 g0&&(z8l L0))
  | _=>none
 | _=>none
theorem j6b {S:Specs} (hS:Zu prog S):Zu prog (S.with u9l fTwi):=by
 refine z0v hS (by kernel_rfl) fun args v h=> ?_;unfold fTwi at h;split at h
 ·rename_i a0;split at h
  ·rename_i L0 g0 n0 e0;simp only [Ae,Ad,Ac] at h;obtain ⟨rfl,ho0,hw⟩:=h;obtain ⟨N,hN⟩:=j1e L0 hw;exact ⟨_,_,(.cons (Yh e0 ho0) .nil),rfl,u0a L0 N _ hN,3,rfl⟩
  ·cases h
 ·cases h
instance : DecidableEq R7:=Classical.typeDecidableEq _
def same7V (l m:List R7):Bool:=decide (l=m)
def eq7 (r s:R7):Bool:=(r.a == s.a)&&(((r.b == s.b)&&((r.c == s.c)&&((r.d == s.d)&&true)))&&(((r.e == s.e)&&((r.f == s.f)&&((r.g == s.g)&&true)))&&true))
theorem v7z (r s:R7):eq7 r s=true↔r=s:=by obtain ⟨a,b,c,d,e,f,g⟩:=r;obtain ⟨a',b',c',d',e',f',g'⟩:=s;simp [eq7,and_assoc]
def rsqV (l m:List R7):Bool:=same7V l m
def z2s (l m:List R7):Bool:=decide (l.length≤1000000)
theorem u7q (l m:List R7) (hl:l.length≤1000000) (hm:l.length=m.length): ∀(k i:Nat),i+k=l.length→ ∃N,Yy (z7n l m) N (.to (.h0 (i:Int)))=.ret [.bool (decide (l.drop i=m.drop i))]
 | 0,i,h=>by refine ⟨1,?_⟩;rw [Zv,Au (by omega),Au (by omega)];simp (disch:=omega) only [z7n,Zt,Aa,Zp,Av]
 | k+1,i,h=>by
  have hi:i<l.length:=by omega
  obtain ⟨N,hN⟩:=u7q l m hl hm k (i+1) (by omega);refine ⟨N+1,?_⟩;rw [Zv,Yg hi,Yg (show i<m.length by omega)];have e:z7n l m (.h0 (i:Int))=bif !(eq7 (rd l i) (rd m i)) then .ret [.bool false] else .to (.h0 ((i+1:Nat):Int)):=by simp (disch:=omega) only [z7n,eq7,Zi,Zf,Zk,Zx,Zj,Ah,Ab,Aa]
  rw [e];by_cases q:rd l i=rd m i
  ·rw [(v7z _ _).2 q,AE,Aa,hN]
   congr 3
   exact BX.2 ⟨fun h=>by rw [q,h],fun h=>(List.cons.inj h).2⟩
  ·rw [show eq7 (rd l i) (rd m i)=false from A4.2 fun h=>q ((v7z _ _).1 h),AG,Ab,Zp]
   congr 3
   exact (An fun h=>q (List.cons.inj h).1).symm
theorem j3e (l m:List R7) (h:z2s l m=true): ∃N,Yy (z7n l m) N (y4m l m)=.ret [.bool (rsqV l m)]:=by
 have hl:l.length≤1000000:=AA h;unfold y4m;by_cases hm:l.length=m.length
 ·obtain ⟨N,hN⟩:=u7q l m hl hm l.length 0 (Ag _);refine ⟨N,?_⟩;rw [show ((l.length:Int) != (m.length:Int))=false by rw [hm];simp,Aa];exact hN
 ·refine ⟨0,?_⟩;rw [show ((l.length:Int) != (m.length:Int))=true by simp;omega,Ab,Zp]
  congr 3
  exact (An fun e=>hm (by rw [e])).symm
def fRsq :List AVal→Option (AVal×Bool)
 | [a0,a1]=>match asL R7 a0,asL R7 a1 with
  | some (L0,g0,n0),some (L1,g1,n1)=>some (.bool (rsqV L0 L1),isT R7 n0 g0&&(isT R7 n1 g1&&(z2s L0 L1)))
  | _,_=>none
 | _=>none
theorem v7s {S:Specs} (hS:Zu prog S):Zu prog (S.with v6j fRsq):=by
 refine z0v hS (by kernel_rfl) fun args v h=> ?_;unfold fRsq at h;split at h
 ·rename_i a0 a1;split at h
  ·rename_i L0 g0 n0 L1 g1 n1 e0 e1;simp only [Ae,Ad,Ac] at h;obtain ⟨rfl,ho0,ho1,hw⟩:=h;obtain ⟨N,hN⟩:=j3e L0 L1 hw;exact ⟨_,_,(.cons (Yh e0 ho0) (.cons (Yh e1 ho1) .nil)),rfl,u1m L0 L1 N _ hN,3,rfl⟩
  ·cases h
 ·cases h
def y0u (a b c d e f a2 b2 c2 d2 e2 f2:Int):R6:=bif decide (z1n a a2≥z1m d d2)||(decide (z1n b b2≥z1m e e2)||decide (z1n c c2≥z1m f f2)) then ⟨0,0,0,0,0,0⟩ else ⟨z1n a a2,z1n b b2,z1n c c2,z1m d d2,z1m e e2,z1m f f2⟩
theorem j4p (a b c d e f a2 b2 c2 d2 e2 f2:Int): ∃N,Yy (w1i a b c d e f a2 b2 c2 d2 e2 f2) N (y5f a b c d e f a2 b2 c2 d2 e2 f2)=.ret [.agg [.int .i64 (y0u a b c d e f a2 b2 c2 d2 e2 f2).a,.int .i64 (y0u a b c d e f a2 b2 c2 d2 e2 f2).b,.int .i64 (y0u a b c d e f a2 b2 c2 d2 e2 f2).c,.int .i64 (y0u a b c d e f a2 b2 c2 d2 e2 f2).d,.int .i64 (y0u a b c d e f a2 b2 c2 d2 e2 f2).e,.int .i64 (y0u a b c d e f a2 b2 c2 d2 e2 f2).f]]:=⟨0,by
 unfold y5f y0u;cases decide (z1n a a2≥z1m d d2) <;> cases decide (z1n b b2≥z1m e e2) <;> cases decide (z1n c c2≥z1m f f2) <;> rfl⟩
def fRcm :List AVal→Option (AVal×Bool)
 | [.agg [.int .i64 a,.int .i64 b,.int .i64 c,.int .i64 d,.int .i64 e,.int .i64 f],.agg [.int .i64 a2,.int .i64 b2,.int .i64 c2,.int .i64 d2,.int .i64 e2,.int .i64 f2]]=>some (.agg [.int .i64 (y0u a b c d e f a2 b2 c2 d2 e2 f2).a,.int .i64 (y0u a b c d e f a2 b2 c2 d2 e2 f2).b,.int .i64 (y0u a b c d e f a2 b2 c2 d2 e2 f2).c,.int .i64 (y0u a b c d e f a2 b2 c2 d2 e2 f2).d,.int .i64 (y0u a b c d e f a2 b2 c2 d2 e2 f2).e,.int .i64 (y0u a b c d e f a2 b2 c2 d2 e2 f2).f],true)
 | _=>none
theorem j6z {S:Specs} (hS:Zu prog S):Zu prog (S.with nRcm fRcm):=by
 refine z0v hS (by kernel_rfl) fun args v h=> ?_;unfold fRcm at h;split at h
 ·rename_i a b c d e f a2 b2 c2 d2 e2 f2;simp only [Ae,Ad,BZ] at h;subst h;obtain ⟨N,hN⟩:=j4p a b c d e f a2 b2 c2 d2 e2 f2;exact ⟨_,_,(.cons (.refl _) (.cons (.refl _) .nil)),rfl,u2x a b c d e f a2 b2 c2 d2 e2 f2 N _ hN,3,rfl⟩
 ·cases h
def j4f (a b c d e f x y z:Int):Bool:=decide (a≤x)&&(decide (x<d)&&(decide (b≤y)&&(decide (y<e)&&(decide (c≤z)&&decide (z<f)))))
theorem j4e (a b c d e f x y z:Int): ∃N,Yy (w0t a b c d e f x y z) N (y5d a b c d e f x y z)=.ret [.bool (j4f a b c d e f x y z)]:=⟨0,by
 unfold y5d j4f;cases decide (a≤x) <;> cases decide (x<d) <;> cases decide (b≤y) <;> cases decide (y<e) <;> cases decide (c≤z) <;> rfl⟩
def fRib :List AVal→Option (AVal×Bool)
 | [.agg [.int .i64 aJ,.int .i64 aP,.int .i64 aO,.int .i64 aT,.int .i64 aW,.int .i64 aU],.agg [.int .i64 aQ,.int .i64 aS,.int .i64 aR]]=>some (.bool (j4f aJ aP aO aT aW aU aQ aS aR),true)
 | _=>none
theorem j6v {S:Specs} (hS:Zu prog S):Zu prog (S.with nRib fRib):=by
 refine z0v hS (by kernel_rfl) fun args v h=> ?_;unfold fRib at h;split at h
 ·rename_i aJ aP aO aT aW aU aQ aS aR;simp only [Ae,Ad,BZ] at h;subst h;obtain ⟨N,hN⟩:=j4e aJ aP aO aT aW aU aQ aS aR;exact ⟨_,_,(.cons (.refl _) (.cons (.refl _) .nil)),rfl,u2f aJ aP aO aT aW aU aQ aS aR N _ hN,3,rfl⟩
 ·cases h
def u3m (r:R6):Bool:= !decide (z1m (z1m r.a r.b) r.c<(-12))&&(!decide (z1n (z1n r.d r.e) r.f>12)&&(!decide (z1m (z1m r.d r.e) r.f<(-12))&& !decide (z1n (z1n r.a r.b) r.c>12)))
def w1u (L:List R6):Bool:=bif decide ((L.length:Int)>400) then decide ((L.length:Int)≤420) else L.all u3m&&decide ((L.length:Int)≤6)
def Qk (L:List R6):Bool:=true
theorem v5z {L:List R6} (hl:L.length≤400): ∀(k i:Nat),i+k=L.length→ ∃N,Yy (z6e L) N (.to (.h0 (i:Int)))=.ret [.bool ((L.drop i).all u3m&&decide ((L.length:Int)≤6))]
 | 0,i,h=>by refine ⟨1,?_⟩;rw [Zv,Au (by omega)];simp (disch:=omega) only [z6e,Zt,Aa];rfl
 | k+1,i,h=>by
  have hi:i<L.length:=by omega
  obtain ⟨N,hN⟩:=v5z hl k (i+1) (by omega);have hw:wrap .i64 ((i:Int)+1)=((i+1:Nat):Int):=Zk (by omega);refine ⟨N+1,?_⟩;rw [Zv,Yg hi];simp (disch:=omega) only [z6e,Zi,Zf,hw,Zj,Ah,Ab,List.all_cons];unfold u3m;cases decide (z1m (z1m (rd L i).a (rd L i).b) (rd L i).c <(-12)) <;> cases decide (z1n (z1n (rd L i).d (rd L i).e) (rd L i).f >12) <;> cases decide (z1m (z1m (rd L i).d (rd L i).e) (rd L i).f <(-12)) <;> cases decide (z1n (z1n (rd L i).a (rd L i).b) (rd L i).c >12) <;> first | exact Zp _ _ _ | exact hN
theorem u3i (L:List R6) (h:Qk L=true): ∃N,Yy (z6e L) N (z9q L)=.ret [.bool (w1u L)]:=by
 unfold z9q w1u;by_cases hl:L.length≤400
 ·obtain ⟨N,hN⟩:=v5z hl L.length 0 (Ag _);refine ⟨N,?_⟩;rw [Xc (by omega),Aa,Aa];exact hN
 ·refine ⟨0,?_⟩;rw [Yt (by omega)];rfl
def j7c :List AVal→Option (AVal×Bool)
 | [a0]=>match asL R6 a0 with
  | some (L0,g0,n0)=>some (.bool (w1u L0),isT R6 n0 g0&&(Qk L0))
  | _=>none
 | _=>none
theorem u4r {S:Specs} (hS:Zu prog S):Zu prog (S.with w6a j7c):=by
 refine z0v hS (by kernel_rfl) fun args v h=> ?_;unfold j7c at h;split at h
 ·rename_i a0;split at h
  ·rename_i L0 g0 n0 e0;simp only [Ae,Ad,Ac] at h;obtain ⟨rfl,ho0,hw⟩:=h;obtain ⟨N,hN⟩:=u3i L0 hw;exact ⟨_,_,(.cons (Yh e0 ho0) .nil),rfl,v6a L0 N _ hN,3,rfl⟩
  ·cases h
 ·cases h
def Qj (k:Int) (l m:List R6):Int:=bif Wr l != 0 then Wr l else bif Wr m != 0 then Wr m else bif z2n k l m then 0 else 4
def z5g (k:Int) (l m:List R6):List R6:=z4t (Qj k l m) (Qq k l m)
def z9d (k:Int) (l m:List R6):Bool:=pd (jsZ l∧jsZ m)
theorem j4c (k:Int) (l m:List R6) (h:z9d k l m=true): ∃N,Yy (w0p k l m) N (y5b k l m)=.ret (z6p (Qj k l m) (Qq k l m)):=⟨0,by
 unfold y5b Qj;simp only [Zg,show∀l,z1d l=true from fun _=>rfl,show z4a k l m=true from h,Ab];rcases Yx (Wr l != 0) with q | q
 ·rw [q,Ab,Ab,Wx _ q];rfl
 rcases Yx (Wr m != 0) with q2 | q2
 ·rw [q,q2,Aa,Aa,Ab,Ab,Wx _ q2];rfl
 rw [q,q2];cases z2n k l m <;> rfl⟩
def fRjn :List AVal→Option (AVal×Bool)
 | [.int .i64 k,a1,a2]=>match asL R6 a1,asL R6 a2 with
  | some (L1,g1,n1),some (L2,g2,n2)=>some (.tup [.dat (z5g k L1 L2).length (Zz (z5g k L1 L2)),.int .i64 (Qj k L1 L2)],isT R6 n1 g1&&(isT R6 n2 g2&&(z9d k L1 L2)))
  | _,_=>none
 | _=>none
theorem j6t {S:Specs} (hS:Zu prog S):Zu prog (S.with nRjn fRjn):=by
 refine w3d hS (by kernel_rfl) fun args v h=> ?_;unfold fRjn at h;split at h
 ·rename_i k a1 a2;split at h
  ·rename_i L1 g1 n1 L2 g2 n2 e1 e2;simp only [Ae,Ad,Ac] at h;obtain ⟨rfl,ho1,ho2,hw⟩:=h;obtain ⟨N,hN⟩:=j4c k L1 L2 hw;exact ⟨_,_,(.cons (.refl _) (.cons (Yh e1 ho1) (.cons (Yh e2 ho2) .nil))),Kx _ _,u2d k L1 L2 N _ hN,3,z1c _ _⟩
  ·cases h
 ·cases h
def Vr1 :Specs:=((((((((((Va.with v6m fRin).with w6c fCrd).with u9s fPut).with u9r fRh6).with u9l fTwi).with v6j fRsq).with nRcm fRcm).with nRib fRib).with w6a j7c).with nRjn fRjn)
theorem z7h :Zu prog Vr1:=(j6t (u4r (j6v (j6z (v7s (j6b (j6w (j7b (j7l (j6u Xp))))))))))
inductive rvbS where
def rvbC (aJ:Int) (aP:Int) (aO:Int) (aT:Int) (aW:Int) (aU:Int):rvbS→Cfg
 :=nofun
def x9v (aJ:Int) (aP:Int) (aO:Int) (aT:Int) (aW:Int) (aU:Int):rvbS→Xu rvbS
 :=nofun
def y4l (aJ:Int) (aP:Int) (aO:Int) (aT:Int) (aW:Int) (aU:Int):Xu rvbS:=(bif (x8l aJ aP aO (-1000000)) then (bif (x8l aT aW aU (-1000000)) then (bif (decide (aJ<aT)) then (bif (decide (aP<aW)) then (.ret [(.bool (decide (aO<aU)))]) else (.ret [(.bool false)])) else (.ret [(.bool false)])) else (.ret [(.bool false)])) else (.ret [(.bool false)]))
theorem w8v (aJ:Int) (aP:Int) (aO:Int) (aT:Int) (aW:Int) (aU:Int): ∀s,Xq prog (Zy prog 60) (rvbC aJ aP aO aT aW aU) (rvbC aJ aP aO aT aW aU s) (x9v aJ aP aO aT aW aU s)
 :=nofun
theorem x9w (aJ:Int) (aP:Int) (aO:Int) (aT:Int) (aW:Int) (aU:Int):Xq prog (Zy prog 60) (rvbC aJ aP aO aT aW aU) (Zb prog 60 [(.agg [(.int .i64 aJ),(.int .i64 aP),(.int .i64 aO),(.int .i64 aT),(.int .i64 aW),(.int .i64 aU)])] true []) (y4l aJ aP aO aT aW aU):=(lb (fun k0=>(lb (fun k1=>(lb (fun k2=>(lb (fun k3=>(lr 40 3 [1,1,1,1,0] 1 9 [(2,(.bool (decide (aO<aU))))] (sl z7h 49 [] ⟨[],[],[some [2]],[]⟩ ⟨[],[],[]⟩ (trs 24 []) (tt k3 (tt k2 (tt k1 (tt k0 nn))))))) (fun k3=>(lr 40 3 [1,1,1,1,0] 1 9 [(2,(.bool false))] (sl z7h 49 [] ⟨[],[],[some [2]],[]⟩ ⟨[],[],[]⟩ (trs 17 [false,false,false,false,false,false,false]) (tt k3 (tt k2 (tt k1 (tt k0 nn))))))))) (fun k2=>(lr 40 3 [1,1,1,1,0] 1 9 [(2,(.bool false))] (sl z7h 49 [] ⟨[],[],[some [2]],[]⟩ ⟨[],[],[]⟩ (trs 10 [false,false,false,false,false,false,false,false,false,false,false,false,false,false]) (tt k2 (tt k1 (tt k0 nn)))))))) (fun k1=>(lr 40 3 [1,1,1,1,0] 1 9 [(2,(.bool false))] (sl z7h 49 [] ⟨[],[],[some [2]],[]⟩ ⟨[],[],[]⟩ (trs 3 [false,false,false,false,false,false,false,false,false,false,false,false,false,false,false,false,false,false,false,false,false]) (tt k1 (tt k0 nn))))))) (fun k0=>(lr 40 3 [1,1,1,1,0] 1 9 [(2,(.bool false))] (sl z7h 49 [] ⟨[],[],[some [2]],[]⟩ ⟨[],[],[]⟩ [false,false,false,false,false,false,false,false,false,false,false,false,false,false,false,false,false,false,false,false,false,false,false,false] (tt k0 nn)))))
theorem u1j (aJ:Int) (aP:Int) (aO:Int) (aT:Int) (aW:Int) (aU:Int) (n:Nat) (vs:List AVal) (h:Yy (x9v aJ aP aO aT aW aU) n (y4l aJ aP aO aT aW aU)=.ret vs):Jx prog (Zy prog 60) (Zb prog 60 [(.agg [(.int .i64 aJ),(.int .i64 aP),(.int .i64 aO),(.int .i64 aT),(.int .i64 aW),(.int .i64 aU)])] true []) vs:=by have:=Zd (w8v aJ aP aO aT aW aU) n _ (x9w aJ aP aO aT aW aU);rwa [h] at this
inductive cu9S where
 | h0 (v5:List Int) (v6:Int)
def cu9C (l0:List R6) (x1:Int):cu9S→Cfg
 | .h0 v5 v6=>⟨⟨32,0,true⟩,none,(Zc prog 87 [1,1,0,1,0,0] 0),none,(Zy prog 6),⟨Ya [(0,(.dat l0.length (Zz l0))),(1,(ii x1)),(5,(.sla 0 1 0 v5.length (.un 1))),(6,(ii v6))],Vd [⟨Yq v5.length (Zz v5),3,some ⟨1,v5.length,(Zz v5)⟩⟩] 0,1,[],true⟩,[],.leaf⟩
def cu9N0 :List (Option (List Nat)):=[some [0,1,5,6]]
def cu9M0 :List (Option (List Nat)):=[]
def y2e (l0:List R6) (x1:Int):cu9S→Xu cu9S
 | .h0 v5 v6=>(bif (decide (v6<(l0.length:Int))) then (bif ((decide (0≤v6∧v6<(l0.length:Int)))&&true) then (bif (Nat.beq 1 1&&((decide (0+v5.length=v5.length))&&decide ((v5.length+2+1)*(8+1)≤Jh))) then (.to (.h0 (v5++[(z6k (rd l0 v6.toNat).a (rd l0 v6.toNat).b (rd l0 v6.toNat).c x1),(z6k (rd l0 v6.toNat).d (rd l0 v6.toNat).e (rd l0 v6.toNat).f x1)]) (wrap .i64 (v6+1)))) else .stuck) else .stuck) else (bif (Je (cvT v5)) then (.ret [(.dat (z1w (cvT v5)).length (Zz (z1w (cvT v5))))]) else .stuck))
def x4p (l0:List R6) (x1:Int):Xu cu9S:=(.to (.h0 ([]:List Int) 0))
theorem v1h (l0:List R6) (x1:Int): ∀s,Xq prog (Zy prog 87) (cu9C l0 x1) (cu9C l0 x1 s) (y2e l0 x1 s)
 | .h0 v5 v6=>(lb (fun k0=>(lo fun o0=>(lo fun o1=>(sl z7h 20 [] ⟨[2],[],cu9N0,cu9M0⟩ ⟨[(5,.len (v5++[(z6k (rd l0 (tn v6)).a (rd l0 (tn v6)).b (rd l0 (tn v6)).c x1),(z6k (rd l0 (tn v6)).d (rd l0 (tn v6)).e (rd l0 (tn v6)).f x1)]).length)],[.rowed 1 (v5++[(z6k (rd l0 (tn v6)).a (rd l0 (tn v6)).b (rd l0 (tn v6)).c x1),(z6k (rd l0 (tn v6)).d (rd l0 (tn v6)).e (rd l0 (tn v6)).f x1)]).length (Zz (v5++[(z6k (rd l0 (tn v6)).a (rd l0 (tn v6)).b (rd l0 (tn v6)).c x1),(z6k (rd l0 (tn v6)).d (rd l0 (tn v6)).e (rd l0 (tn v6)).f x1)]))],[]⟩ [true] (pp (xL (v5.length+2) (v5++[(z6k (rd l0 (tn v6)).a (rd l0 (tn v6)).b (rd l0 (tn v6)).c x1),(z6k (rd l0 (tn v6)).d (rd l0 (tn v6)).e (rd l0 (tn v6)).f x1)]).length) (pp (xL (v5.length+2) (v5++[(z6k (rd l0 (tn v6)).a (rd l0 (tn v6)).b (rd l0 (tn v6)).c x1),(z6k (rd l0 (tn v6)).d (rd l0 (tn v6)).e (rd l0 (tn v6)).f x1)]).length) (pp (xS (v5.length+2) (Zr (Zz v5) 0 v5.length 1 [(ii (z6k (rd l0 (tn v6)).a (rd l0 (tn v6)).b (rd l0 (tn v6)).c x1)),(ii (z6k (rd l0 (tn v6)).d (rd l0 (tn v6)).e (rd l0 (tn v6)).f x1))]) (Zz (v5++[(z6k (rd l0 (tn v6)).a (rd l0 (tn v6)).b (rd l0 (tn v6)).c x1),(z6k (rd l0 (tn v6)).d (rd l0 (tn v6)).e (rd l0 (tn v6)).f x1)]))) (pp (pp (xF (Zr (Zz v5) 0 v5.length 1 [(ii (z6k (rd l0 (tn v6)).a (rd l0 (tn v6)).b (rd l0 (tn v6)).c x1)),(ii (z6k (rd l0 (tn v6)).d (rd l0 (tn v6)).e (rd l0 (tn v6)).f x1))])) nn) (ww o1 (ww o0 (ww o0 (tt k0 nn)))))))))))) (fun k0=>(Ve (sl z7h (C':=⟨⟨32,0,true⟩,(Up prog 87 [1,1,1,0] 1),(Zc prog 87 [1,1,1,0] 1),none,(Zy prog 6),⟨Ya [(30,(.dat v5.length (Zz v5)))],Vd [] 0,0,[],true⟩,[],.leaf⟩) 13 [] ⟨[],[0],[some [30]],[]⟩ ⟨[(30,.frz v5.length v5.length (Zz v5) (Zz v5))],[],[]⟩ [false] (pp (xZ (z5q 1 1 0 v5.length v5.length (Zz v5)) v5.length (Zz v5)) (pp (xL v5.length v5.length) (pp (xS v5.length (Zz v5) (Zz v5)) (pp (fl v5 nn) (tt k0 nn)))))) (lo fun o0=>(lr 32 3 [1,1,1,1,0] 1 6 [(4,(.dat (z1w (cvT v5)).length (Zz (z1w (cvT v5)))))] (sl z7h 3 [] ⟨[],[],[some [4]],[]⟩ ⟨[],[],[]⟩ [] (pp (pp (xr v5) (xw o0)) nn)))))))
theorem w3n (l0:List R6) (x1:Int):Xq prog (Zy prog 87) (cu9C l0 x1) (Zb prog 87 [(.dat l0.length (Zz l0)),(.int .i64 x1)] true []) (x4p l0 x1):=(sl z7h 15 [(3,1,Zz ([]:List Int))] ⟨[0],[],cu9N0,cu9M0⟩ ⟨[(5,.grow 0 1)],[],[]⟩ [] (pp (fl ([]:List Int) nn) nn))
theorem u5f (l0:List R6) (x1:Int) (n:Nat) (vs:List AVal) (h:Yy (y2e l0 x1) n (x4p l0 x1)=.ret vs):Jx prog (Zy prog 87) (Zb prog 87 [(.dat l0.length (Zz l0)),(.int .i64 x1)] true []) vs:=by have:=Zd (v1h l0 x1) n _ (w3n l0 x1);rwa [h] at this
def rvbV (a b c d e f:Int):Bool:=x8l a b c (-1000000)&&(x8l d e f (-1000000)&&(decide (a<d)&&(decide (b<e)&&decide (c<f))))
theorem j3a (a b c d e f:Int): ∃N,Yy (x9v a b c d e f) N (y4l a b c d e f)=.ret [.bool (rvbV a b c d e f)]:=⟨0,by
 unfold y4l rvbV;cases x8l a b c (-1000000) <;> cases x8l d e f (-1000000) <;> cases decide (a<d) <;> cases decide (b<e) <;> rfl⟩
def fRvb :List AVal→Option (AVal×Bool)
 | [.agg [.int .i64 aJ,.int .i64 aP,.int .i64 aO,.int .i64 aT,.int .i64 aW,.int .i64 aU]]=>some (.bool (rvbV aJ aP aO aT aW aU),true)
 | _=>none
theorem j6m {S:Specs} (hS:Zu prog S):Zu prog (S.with nRvb fRvb):=by
 refine z0v hS (by kernel_rfl) fun args v h=> ?_;unfold fRvb at h;split at h
 ·rename_i aJ aP aO aT aW aU;simp only [Ae,Ad,BZ] at h;subst h;obtain ⟨N,hN⟩:=j3a aJ aP aO aT aW aU;exact ⟨_,_,(.cons (.refl _) .nil),rfl,u1j aJ aP aO aT aW aU N _ hN,3,rfl⟩
 ·cases h
def j0l (L:List R6) (i:Int):List Int:=L.flatMap fun r=>[z6k r.a r.b r.c i,z6k r.d r.e r.f i]
def Uy (L:List R6) (i:Int):List Int:=z1w (j0l L i)
def Uj (L:List R6) (i:Int):Bool:=decide (L.length≤1000)
theorem z8b (L:List R6) (i:Int):(j0l L i).length =2*L.length:=by
 unfold j0l
 induction L with
 | nil=>rfl
 | cons r l ih=>rw [Ct,Aw,ih];simp only [AU,Bs];omega
theorem j0o (L:List R6) (x:Int) (hl:L.length≤1000): ∀(k i:Nat) (acc:List Int),i+k=L.length→acc=j0l (L.take i) x→ ∃N,Yy (y2e L x) N (.to (.h0 acc (i:Int)))=.ret [.dat (Uy L x).length (Zz (Uy L x))]
 | 0,i,acc,h,ha=>by
  refine ⟨1,?_⟩;have:i=L.length:=by omega
  subst this;rw [List.take_length] at ha;subst ha;have hn:=z8b L x;have o:Je (j0l L x)=true:=Ai (by omega);rw [Zv];simp (disch:=omega) only [y2e,Zg,Zt,o,Ab,Aa,Zp];rfl
 | k+1,i,acc,h,ha=>by
  have hi:i<L.length:=by omega
  have hn:acc.length=2*i:=by rw [ha,z8b,AZ];omega
  obtain ⟨N,hN⟩:=j0o L x hl k (i+1) (acc++[z6k (rd L i).a (rd L i).b (rd L i).c x,z6k (rd L i).d (rd L i).e (rd L i).f x]) (by omega) (by
   rw [ha,Bg,Ao hi,Yi hi];unfold j0l;rw [BS];rfl)
  refine ⟨N+1,?_⟩;rw [Zv,←hN]
  congr 1
  have m1:decide (0+acc.length=acc.length)=true:=Ai (by omega);have b1:Nat.beq 1 1=true:=rfl;simp (disch:=omega) only [y2e,Zi,Zf,Zh,Zk,Zx,Zj,m1,b1,Ah,Aj,Ab]
theorem j8a (L:List R6) (x:Int) (h:Uj L x=true): ∃N,Yy (y2e L x) N (x4p L x)=.ret [.dat (Uy L x).length (Zz (Uy L x))]:=by obtain ⟨N,hN⟩:=j0o L x (AA h) L.length 0 [] (Ag _) rfl;exact ⟨N,hN⟩
def fCu9 :List AVal→Option (AVal×Bool)
 | [a0,.int .i64 x1]=>match asL R6 a0 with
  | some (L0,g0,n0)=>some (.dat (Uy L0 x1).length (Zz (Uy L0 x1)),isT R6 n0 g0&&(Uj L0 x1))
  | _=>none
 | _=>none
theorem j7k {S:Specs} (hS:Zu prog S):Zu prog (S.with u9w fCu9):=by
 refine z0v hS (by kernel_rfl) fun args v h=> ?_;unfold fCu9 at h;split at h
 ·rename_i a0 x1;split at h
  ·rename_i L0 g0 n0 e0;simp only [Ae,Ad,Ac] at h;obtain ⟨rfl,ho0,hw⟩:=h;obtain ⟨N,hN⟩:=j8a L0 x1 hw;exact ⟨_,_,(.cons (Yh e0 ho0) (.cons (.refl _) .nil)),rfl,u5f L0 x1 N _ hN,3,rfl⟩
  ·cases h
 ·cases h
def Vr2 :Specs:=((Vr1.with nRvb fRvb).with u9w fCu9)
theorem Xy :Zu prog Vr2:=(j7k (j6m z7h))
inductive rlcS where
 | h0 (v3:Int)
 | h1 (v4:Int)
 | h2 (v4:Int) (v5:Int)
 | h3 (v4:Int) (v6:Int)
def rlcC (l0:List Pa):rlcS→Cfg
 | .h0 v3=>⟨⟨93,0,true⟩,none,(Zc prog 21 [1,1,0,1,0,0] 0),none,(Zy prog 9),⟨Ya [(0,(.dat l0.length (Zz l0))),(3,(ii v3))],Vd [] 0,0,[],true⟩,[],.leaf⟩
 | .h1 v4=>⟨⟨93,0,true⟩,none,(Zc prog 21 [1,1,1,0,1,0,0] 0),none,(Zy prog 9),⟨Ya [(0,(.dat l0.length (Zz l0))),(4,(ii v4))],Vd [] 0,0,[],true⟩,[],.leaf⟩
 | .h2 v4 v5=>⟨⟨93,0,true⟩,none,(Zc prog 21 [1,1,1,0,1,0,0,1,0,0,1,0,1,0,0] 0),none,(Zy prog 9),⟨Ya [(0,(.dat l0.length (Zz l0))),(4,(ii v4)),(5,(ii v5))],Vd [] 0,0,[],true⟩,[],.leaf⟩
 | .h3 v4 v6=>⟨⟨93,0,true⟩,none,(Zc prog 21 [1,1,1,0,1,0,0,1,0,0,1,1,1,0,0] 0),none,(Zy prog 9),⟨Ya [(0,(.dat l0.length (Zz l0))),(4,(ii v4)),(6,(ii v6))],Vd [] 0,0,[],true⟩,[],.leaf⟩
def rlcN0 :List (Option (List Nat)):=[some [0,3]]
def rlcM0 :List (Option (List Nat)):=[]
def rlcN1 :List (Option (List Nat)):=[some [0,4]]
def rlcM1 :List (Option (List Nat)):=[]
def rlcN2 :List (Option (List Nat)):=[some [0,4,5]]
def rlcM2 :List (Option (List Nat)):=[]
def rlcN3 :List (Option (List Nat)):=[some [0,4,6]]
def rlcM3 :List (Option (List Nat)):=[]
def Vm (l0:List Pa):rlcS→Xu rlcS
 | .h0 v3=>(bif (decide (v3<(l0.length:Int))) then (bif ((decide (0≤v3∧v3<(l0.length:Int)))&&true) then (bif (z1d (cvT (rd l0 v3.toNat).s)) then (bif ((Wr (cvT (rd l0 v3.toNat).s)) != 0) then (.ret [(.int .i64 (Wr (cvT (rd l0 v3.toNat).s)))]) else (.to (.h0 (wrap .i64 (v3+1))))) else .stuck) else .stuck) else (.to (.h1 0)))
 | .h1 v4=>(bif (decide (v4<(l0.length:Int))) then (bif ((decide (0≤v4∧v4<(l0.length:Int)))&&true) then (bif (!(rvbV (rd l0 v4.toNat).a (rd l0 v4.toNat).b (rd l0 v4.toNat).c (rd l0 v4.toNat).d (rd l0 v4.toNat).e (rd l0 v4.toNat).f)) then (.ret [(.int .i64 8)]) else (.to (.h2 v4 0))) else .stuck) else (.ret [(.int .i64 0)]))
 | .h2 v4 v5=>(bif ((decide (0≤v4∧v4<(l0.length:Int)))&&true) then (bif (decide (v5<(((rd l0 v4.toNat).s.length :Nat):Int))) then (bif ((decide (0≤v5∧v5<(((rd l0 v4.toNat).s.length :Nat):Int)))&&true) then (bif (!((((y0u (rd (rd l0 v4.toNat).s v5.toNat).a (rd (rd l0 v4.toNat).s v5.toNat).b (rd (rd l0 v4.toNat).s v5.toNat).c (rd (rd l0 v4.toNat).s v5.toNat).d (rd (rd l0 v4.toNat).s v5.toNat).e (rd (rd l0 v4.toNat).s v5.toNat).f (rd l0 v4.toNat).a (rd l0 v4.toNat).b (rd l0 v4.toNat).c (rd l0 v4.toNat).d (rd l0 v4.toNat).e (rd l0 v4.toNat).f).a == (rd (rd l0 v4.toNat).s v5.toNat).a)&&(((y0u (rd (rd l0 v4.toNat).s v5.toNat).a (rd (rd l0 v4.toNat).s v5.toNat).b (rd (rd l0 v4.toNat).s v5.toNat).c (rd (rd l0 v4.toNat).s v5.toNat).d (rd (rd l0 v4.toNat).s v5.toNat).e (rd (rd l0 v4.toNat).s v5.toNat).f (rd l0 v4.toNat).a (rd l0 v4.toNat).b (rd l0 v4.toNat).c (rd l0 v4.toNat).d (rd l0 v4.toNat).e (rd l0 v4.toNat).f).b == (rd (rd l0 v4.toNat).s v5.toNat).b)&&(((y0u (rd (rd l0 v4.toNat).s v5.toNat).a (rd (rd l0 v4.toNat).s v5.toNat).b (rd (rd l0 v4.toNat).s v5.toNat).c (rd (rd l0 v4.toNat).s v5.toNat).d (rd (rd l0 v4.toNat).s v5.toNat).e (rd (rd l0 v4.toNat).s v5.toNat).f (rd l0 v4.toNat).a (rd l0 v4.toNat).b (rd l0 v4.toNat).c (rd l0 v4.toNat).d (rd l0 v4.toNat).e (rd l0 v4.toNat).f).c == (rd (rd l0 v4.toNat).s v5.toNat).c)&&true)))&&((((y0u (rd (rd l0 v4.toNat).s v5.toNat).a (rd (rd l0 v4.toNat).s v5.toNat).b (rd (rd l0 v4.toNat).s v5.toNat).c (rd (rd l0 v4.toNat).s v5.toNat).d (rd (rd l0 v4.toNat).s v5.toNat).e (rd (rd l0 v4.toNat).s v5.toNat).f (rd l0 v4.toNat).a (rd l0 v4.toNat).b (rd l0 v4.toNat).c (rd l0 v4.toNat).d (rd l0 v4.toNat).e (rd l0 v4.toNat).f).d == (rd (rd l0 v4.toNat).s v5.toNat).d)&&(((y0u (rd (rd l0 v4.toNat).s v5.toNat).a (rd (rd l0 v4.toNat).s v5.toNat).b (rd (rd l0 v4.toNat).s v5.toNat).c (rd (rd l0 v4.toNat).s v5.toNat).d (rd (rd l0 v4.toNat).s v5.toNat).e (rd (rd l0 v4.toNat).s v5.toNat).f (rd l0 v4.toNat).a (rd l0 v4.toNat).b (rd l0 v4.toNat).c (rd l0 v4.toNat).d (rd l0 v4.toNat).e (rd l0 v4.toNat).f).e == (rd (rd l0 v4.toNat).s v5.toNat).e)&&(((y0u (rd (rd l0 v4.toNat).s v5.toNat).a (rd (rd l0 v4.toNat).s v5.toNat).b (rd (rd l0 v4.toNat).s v5.toNat).c (rd (rd l0 v4.toNat).s v5.toNat).d (rd (rd l0 v4.toNat).s v5.toNat).e (rd (rd l0 v4.toNat).s v5.toNat).f (rd l0 v4.toNat).a (rd l0 v4.toNat).b (rd l0 v4.toNat).c (rd l0 v4.toNat).d (rd l0 v4.toNat).e (rd l0 v4.toNat).f).f == (rd (rd l0 v4.toNat).s v5.toNat).f)&&true)))&&true))) then (.ret [(.int .i64 8)]) else (.to (.h2 v4 (wrap .i64 (v5+1))))) else .stuck) else (.to (.h3 v4 0))) else .stuck)
 | .h3 v4 v6=>(bif (decide (v6<v4)) then (bif ((decide (0≤v4∧v4<(l0.length:Int)))&&true) then (bif ((decide (0≤v6∧v6<(l0.length:Int)))&&true) then (bif (!((((y0u (rd l0 v4.toNat).a (rd l0 v4.toNat).b (rd l0 v4.toNat).c (rd l0 v4.toNat).d (rd l0 v4.toNat).e (rd l0 v4.toNat).f (rd l0 v6.toNat).a (rd l0 v6.toNat).b (rd l0 v6.toNat).c (rd l0 v6.toNat).d (rd l0 v6.toNat).e (rd l0 v6.toNat).f).a == 0)&&(((y0u (rd l0 v4.toNat).a (rd l0 v4.toNat).b (rd l0 v4.toNat).c (rd l0 v4.toNat).d (rd l0 v4.toNat).e (rd l0 v4.toNat).f (rd l0 v6.toNat).a (rd l0 v6.toNat).b (rd l0 v6.toNat).c (rd l0 v6.toNat).d (rd l0 v6.toNat).e (rd l0 v6.toNat).f).b == 0)&&(((y0u (rd l0 v4.toNat).a (rd l0 v4.toNat).b (rd l0 v4.toNat).c (rd l0 v4.toNat).d (rd l0 v4.toNat).e (rd l0 v4.toNat).f (rd l0 v6.toNat).a (rd l0 v6.toNat).b (rd l0 v6.toNat).c (rd l0 v6.toNat).d (rd l0 v6.toNat).e (rd l0 v6.toNat).f).c == 0)&&true)))&&((((y0u (rd l0 v4.toNat).a (rd l0 v4.toNat).b (rd l0 v4.toNat).c (rd l0 v4.toNat).d (rd l0 v4.toNat).e (rd l0 v4.toNat).f (rd l0 v6.toNat).a (rd l0 v6.toNat).b (rd l0 v6.toNat).c (rd l0 v6.toNat).d (rd l0 v6.toNat).e (rd l0 v6.toNat).f).d == 0)&&(((y0u (rd l0 v4.toNat).a (rd l0 v4.toNat).b (rd l0 v4.toNat).c (rd l0 v4.toNat).d (rd l0 v4.toNat).e (rd l0 v4.toNat).f (rd l0 v6.toNat).a (rd l0 v6.toNat).b (rd l0 v6.toNat).c (rd l0 v6.toNat).d (rd l0 v6.toNat).e (rd l0 v6.toNat).f).e == 0)&&(((y0u (rd l0 v4.toNat).a (rd l0 v4.toNat).b (rd l0 v4.toNat).c (rd l0 v4.toNat).d (rd l0 v4.toNat).e (rd l0 v4.toNat).f (rd l0 v6.toNat).a (rd l0 v6.toNat).b (rd l0 v6.toNat).c (rd l0 v6.toNat).d (rd l0 v6.toNat).e (rd l0 v6.toNat).f).f == 0)&&true)))&&true))) then (.ret [(.int .i64 8)]) else (.to (.h3 v4 (wrap .i64 (v6+1))))) else .stuck) else .stuck) else (.to (.h1 (wrap .i64 (v4+1)))))
def y4y (l0:List Pa):Xu rlcS:=(bif (decide ((l0.length:Int)>50)) then (.ret [(.int .i64 4)]) else (.to (.h0 0)))
theorem w9j (l0:List Pa): ∀s,Xq prog (Zy prog 21) (rlcC l0) (rlcC l0 s) (Vm l0 s)
 | .h0 v3=>(lb (fun k0=>(lo fun aH=>(lo fun aY=>(lb (fun k1=>(lr 93 21 [1,1,0,1,0,0,1,0,0,1,0,0] 1 9 [(2,(ii (Wr (cvT (rd l0 (tn v3)).s))))] (sl Xy 33 [] ⟨[],[],[some [2]],[]⟩ ⟨[],[],[]⟩ (bl 2 3) (pp (pp (xI R6 (rd l0 (tn v3)).s.length (Zz (rd l0 (tn v3)).s)) (xw aY)) (ww aH (tt k1 (pp (pp (xI R6 (rd l0 (tn v3)).s.length (Zz (rd l0 (tn v3)).s)) (xw aY)) (ww aH (tt k0 nn))))))))) (fun k1=>(sl Xy 31 [] ⟨[],[],rlcN0,rlcM0⟩ ⟨[],[],[]⟩ (bl 2 1) (tt k1 (pp (pp (xI R6 (rd l0 (tn v3)).s.length (Zz (rd l0 (tn v3)).s)) (xw aY)) (ww aH (tt k0 nn)))))))))) (fun k0=>(sl Xy 17 [] ⟨[],[],rlcN1,rlcM1⟩ ⟨[],[],[]⟩ [false] (tt k0 nn))))
 | .h1 v4=>(lb (fun k0=>(lo fun aH=>(lb (fun k1=>(lr 93 21 [1,1,1,0,1,0,0,1,0,0,0,1,0,0] 1 9 [(2,(ii 8))] (sl Xy 28 [] ⟨[],[],[some [2]],[]⟩ ⟨[],[],[]⟩ (bl 2 3) (tt k1 (ww aH (tt k0 nn)))))) (fun k1=>(sl Xy 32 [] ⟨[],[],rlcN2,rlcM2⟩ ⟨[],[],[]⟩ (bl 2 1) (tt k1 (ww aH (tt k0 nn)))))))) (fun k0=>(lr 93 3 [1,1,1,1,0] 1 9 [(2,(ii 0))] (sl Xy 14 [] ⟨[],[],[some [2]],[]⟩ ⟨[],[],[]⟩ [false] (tt k0 nn)))))
 | .h2 v4 v5=>(lo fun bJ=>(lb (fun k0=>(lo fun aH=>(lb (fun k1=>(lr 93 21 [1,1,1,0,1,0,0,1,0,0,1,0,1,0,0,1,0,0,1,0,0] 1 9 [(2,(ii 8))] (sl Xy 23 [] ⟨[],[],[some [2]],[]⟩ ⟨[],[],[]⟩ (bl 2 3) (tt k1 (ww aH (ww bJ (ww bJ (ww aH (ww bJ (tt k0 (ww bJ nn))))))))))) (fun k1=>(sl Xy 27 [] ⟨[],[],rlcN2,rlcM2⟩ ⟨[],[],[]⟩ (bl 2 1) (tt k1 (ww aH (ww bJ (ww bJ (ww aH (ww bJ (tt k0 (ww bJ nn))))))))))))) (fun k0=>(sl Xy 20 [] ⟨[],[],rlcN3,rlcM3⟩ ⟨[],[],[]⟩ [false] (tt k0 (ww bJ nn))))))
 | .h3 v4 v6=>(lb (fun k0=>(lo fun aH=>(lo fun aY=>(lb (fun k1=>(lr 93 21 [1,1,1,0,1,0,0,1,0,0,1,1,1,0,0,1,0,0,1,0,0] 1 9 [(2,(ii 8))] (sl Xy 18 [] ⟨[],[],[some [2]],[]⟩ ⟨[],[],[]⟩ (bl 2 3) (tt k1 (ww aY (ww aH (tt k0 nn))))))) (fun k1=>(sl Xy 22 [] ⟨[],[],rlcN3,rlcM3⟩ ⟨[],[],[]⟩ (bl 2 1) (tt k1 (ww aY (ww aH (tt k0 nn)))))))))) (fun k0=>(sl Xy 16 [] ⟨[],[],rlcN1,rlcM1⟩ ⟨[],[],[]⟩ [false] (tt k0 nn))))
theorem w0m (l0:List Pa):Xq prog (Zy prog 21) (rlcC l0) (Zb prog 21 [(.dat l0.length (Zz l0))] true []) (y4y l0):=(lb (fun k0=>(lr 93 21 [1,0,1,0,0] 1 9 [(2,(ii 4))] (sl Xy 16 [] ⟨[],[],[some [2]],[]⟩ ⟨[],[],[]⟩ [true] (tt k0 nn)))) (fun k0=>(sl Xy 20 [] ⟨[],[],rlcN0,rlcM0⟩ ⟨[],[],[]⟩ [false] (tt k0 nn))))
theorem u2a (l0:List Pa) (n:Nat) (vs:List AVal) (h:Yy (Vm l0) n (y4y l0)=.ret vs):Jx prog (Zy prog 21) (Zb prog 21 [(.dat l0.length (Zz l0))] true []) vs:=by have:=Zd (w9j l0) n _ (w0m l0);rwa [h] at this
inductive rtwS where
 | h0 (v3:List Pa) (v4:Int)
abbrev x0t (v3:List Pa) (l0:List Pa) (v4:Int):=(v3++[(Pa.mk (rd l0 (tn v4)).a (rd l0 (tn v4)).b (rd l0 (tn v4)).c (rd l0 (tn v4)).d (rd l0 (tn v4)).e (rd l0 (tn v4)).f (v2o (cvT (rd l0 (tn v4)).s)))])
def rtwC (l0:List Pa):rtwS→Cfg
 | .h0 v3 v4=>⟨⟨27,0,true⟩,none,(Zc prog 13 [1,1,0,1,0,0] 0),none,(Zy prog 9),⟨Ya [(0,(.dat l0.length (Zz l0))),(3,(.sla 0 7 0 v3.length (.un 7))),(4,(ii v4))],Vd [⟨Yq v3.length (Zz v3),59,some ⟨7,v3.length,(Zz v3)⟩⟩] 0,1,[],true⟩,[],.leaf⟩
def rtwN0 :List (Option (List Nat)):=[some [0,3,4]]
def rtwM0 :List (Option (List Nat)):=[]
def y1g (l0:List Pa):rtwS→Xu rtwS
 | .h0 v3 v4=>(bif (decide (v4<(l0.length:Int))) then (bif ((decide (0≤v4∧v4<(l0.length:Int)))&&true) then (bif (z8l (cvT (rd l0 v4.toNat).s)) then (bif (Nat.beq 7 7&&((decide (0+v3.length=v3.length))&&decide ((v3.length+1+1)*(72+1)≤Jh))) then (.to (.h0 (v3++[(Pa.mk (rd l0 v4.toNat).a (rd l0 v4.toNat).b (rd l0 v4.toNat).c (rd l0 v4.toNat).d (rd l0 v4.toNat).e (rd l0 v4.toNat).f (v2o (cvT (rd l0 v4.toNat).s)))]) (wrap .i64 (v4+1)))) else .stuck) else .stuck) else .stuck) else (.ret [(.dat v3.length (Zz v3))]))
def x3i (l0:List Pa):Xu rtwS:=(.to (.h0 ([]:List Pa) 0))
theorem w8w (l0:List Pa): ∀s,Xq prog (Zy prog 13) (rtwC l0) (rtwC l0 s) (y1g l0 s)
 | .h0 v3 v4=>(lb (fun k0=>(lo fun o0=>(lo fun o1=>(lo fun o2=>(sl Xy 20 [] ⟨[2],[],rtwN0,rtwM0⟩ ⟨[(3,.len (x0t v3 l0 v4).length)],[.rowed 7 (x0t v3 l0 v4).length (Zz (x0t v3 l0 v4))],[]⟩ [true] (pp (xL (v3.length+1) (x0t v3 l0 v4).length) (pp (xL (v3.length+1) (x0t v3 l0 v4).length) (pp (xS (v3.length+1) (Zr (Zz v3) 0 v3.length 7 [(ii (rd l0 (tn v4)).a),(ii (rd l0 (tn v4)).b),(ii (rd l0 (tn v4)).c),(ii (rd l0 (tn v4)).d),(ii (rd l0 (tn v4)).e),(ii (rd l0 (tn v4)).f),(.dat (v2o (cvT (rd l0 (tn v4)).s)).length (Zz (v2o (cvT (rd l0 (tn v4)).s))))]) (Zz (x0t v3 l0 v4))) (pp (pp (xF (Zr (Zz v3) 0 v3.length 7 [(ii (rd l0 (tn v4)).a),(ii (rd l0 (tn v4)).b),(ii (rd l0 (tn v4)).c),(ii (rd l0 (tn v4)).d),(ii (rd l0 (tn v4)).e),(ii (rd l0 (tn v4)).f),(.dat (v2o (cvT (rd l0 (tn v4)).s)).length (Zz (v2o (cvT (rd l0 (tn v4)).s))))])) nn) (ww o2 (pp (pp (xI R6 (rd l0 (tn v4)).s.length (Zz (rd l0 (tn v4)).s)) (xw o1)) (ww o0 (ww o0 (tt k0 nn)))))))))))))) (fun k0=>(lr 27 3 [1,1,1,1,0] 1 9 [(2,(.dat v3.length (Zz v3)))] (sl Xy 15 [] ⟨[],[0],[some [2]],[]⟩ ⟨[(2,.frz v3.length v3.length (Zz v3) (Zz v3))],[],[]⟩ [false] (pp (xZ (z5q 7 7 0 v3.length v3.length (Zz v3)) v3.length (Zz v3)) (pp (xL v3.length v3.length) (pp (xS v3.length (Zz v3) (Zz v3)) (pp (fl v3 nn) (tt k0 nn)))))))))
theorem x9x (l0:List Pa):Xq prog (Zy prog 13) (rtwC l0) (Zb prog 13 [(.dat l0.length (Zz l0))] true []) (x3i l0):=(sl Xy 15 [(59,7,Zz ([]:List Pa))] ⟨[0],[],rtwN0,rtwM0⟩ ⟨[(3,.grow 0 7)],[],[]⟩ [] (pp (fl ([]:List Pa) nn) nn))
theorem u1k (l0:List Pa) (n:Nat) (vs:List AVal) (h:Yy (y1g l0) n (x3i l0)=.ret vs):Jx prog (Zy prog 13) (Zb prog 13 [(.dat l0.length (Zz l0))] true []) vs:=by have:=Zd (w8w l0) n _ (x9x l0);rwa [h] at this
inductive rlmS where
 | h0 (v5:Int)
def rlmC (l0:List Pa) (l1:List Pa):rlmS→Cfg
 | .h0 v5=>⟨⟨42,0,true⟩,none,(Zc prog 12 [1,1,0,1,0,0] 0),none,(Zy prog 6),⟨Ya [(0,(.dat l0.length (Zz l0))),(1,(.dat l1.length (Zz l1))),(5,(ii v5))],Vd [] 0,0,[],true⟩,[],.leaf⟩
def rlmN0 :List (Option (List Nat)):=[some [0,1,5]]
def rlmM0 :List (Option (List Nat)):=[]
def z3p (l0:List Pa) (l1:List Pa):rlmS→Xu rlmS
 | .h0 v5=>(bif (decide (v5<(l0.length:Int))) then (bif ((decide (0≤v5∧v5<(l0.length:Int)))&&true) then (bif ((decide (0≤v5∧v5<(l1.length:Int)))&&true) then (bif (!((((rd l0 v5.toNat).a == (rd l1 v5.toNat).a)&&(((rd l0 v5.toNat).b == (rd l1 v5.toNat).b)&&(((rd l0 v5.toNat).c == (rd l1 v5.toNat).c)&&true)))&&((((rd l0 v5.toNat).d == (rd l1 v5.toNat).d)&&(((rd l0 v5.toNat).e == (rd l1 v5.toNat).e)&&(((rd l0 v5.toNat).f == (rd l1 v5.toNat).f)&&true)))&&true))) then (.ret [(.bool false)]) else (bif (Ws (cvT (rd l0 v5.toNat).s) (cvT (rd l1 v5.toNat).s)) then (bif (!(Uo (cvT (rd l0 v5.toNat).s) (cvT (rd l1 v5.toNat).s))) then (.ret [(.bool false)]) else (.to (.h0 (wrap .i64 (v5+1))))) else .stuck)) else .stuck) else .stuck) else (.ret [(.bool true)]))
def y4x (l0:List Pa) (l1:List Pa):Xu rlmS:=(bif ((l0.length:Int) != (l1.length:Int)) then (.ret [(.bool false)]) else (.to (.h0 0)))
theorem w9i (l0:List Pa) (l1:List Pa): ∀s,Xq prog (Zy prog 12) (rlmC l0 l1) (rlmC l0 l1 s) (z3p l0 l1 s)
 | .h0 v5=>(lb (fun k0=>(lo fun aH=>(lo fun aY=>(lb (fun k1=>(lr 42 12 [1,1,0,1,0,0,1,0,0,1,0,0] 1 6 [(4,(.bool false))] (sl Xy 19 [] ⟨[],[],[some [4]],[]⟩ ⟨[],[],[]⟩ (trs 14 []) (tt k1 (ww aY (ww aH (tt k0 nn))))))) (fun k1=>(lo fun bL=>(lb (fun k2=>(lr 42 12 [1,1,0,1,0,0,1,0,0,1,0,0] 1 6 [(4,(.bool false))] (sl Xy 19 [] ⟨[],[],[some [4]],[]⟩ ⟨[],[],[]⟩ (bl 14 8193) (tt k2 (pp (pp (xI R6 (rd l0 (tn v5)).s.length (Zz (rd l0 (tn v5)).s)) (pp (xI R6 (rd l1 (tn v5)).s.length (Zz (rd l1 (tn v5)).s)) (xw bL))) (ww aY (ww aH (tt k1 (ww aY (ww aH (tt k0 nn))))))))))) (fun k2=>(sl Xy 23 [] ⟨[],[],rlmN0,rlmM0⟩ ⟨[],[],[]⟩ (bl 14 1) (tt k2 (pp (pp (xI R6 (rd l0 (tn v5)).s.length (Zz (rd l0 (tn v5)).s)) (pp (xI R6 (rd l1 (tn v5)).s.length (Zz (rd l1 (tn v5)).s)) (xw bL))) (ww aY (ww aH (tt k1 (ww aY (ww aH (tt k0 nn))))))))))))))))) (fun k0=>(lr 42 3 [1,1,1,1,0] 1 6 [(4,(.bool true))] (sl Xy 14 [] ⟨[],[],[some [4]],[]⟩ ⟨[],[],[]⟩ [false] (tt k0 nn)))))
theorem w0l (l0:List Pa) (l1:List Pa):Xq prog (Zy prog 12) (rlmC l0 l1) (Zb prog 12 [(.dat l0.length (Zz l0)),(.dat l1.length (Zz l1))] true []) (y4x l0 l1):=(lb (fun k0=>(lr 42 12 [1,0,1,0,0] 1 6 [(4,(.bool false))] (sl Xy 18 [] ⟨[],[],[some [4]],[]⟩ ⟨[],[],[]⟩ [true] (tt k0 nn)))) (fun k0=>(sl Xy 22 [] ⟨[],[],rlmN0,rlmM0⟩ ⟨[],[],[]⟩ [false] (tt k0 nn))))
theorem u1z (l0:List Pa) (l1:List Pa) (n:Nat) (vs:List AVal) (h:Yy (z3p l0 l1) n (y4x l0 l1)=.ret vs):Jx prog (Zy prog 12) (Zb prog 12 [(.dat l0.length (Zz l0)),(.dat l1.length (Zz l1))] true []) vs:=by have:=Zd (w9i l0 l1) n _ (w0l l0 l1);rwa [h] at this
inductive rlnS where
 | h0 (v3:Int)
def rlnC (l0:List Pa):rlnS→Cfg
 | .h0 v3=>⟨⟨53,0,true⟩,none,(Zc prog 9 [1,1,0,1,0,0] 0),none,(Zy prog 9),⟨Ya [(0,(.dat l0.length (Zz l0))),(3,(ii v3))],Vd [] 0,0,[],true⟩,[],.leaf⟩
def rlnN0 :List (Option (List Nat)):=[some [0,3]]
def rlnM0 :List (Option (List Nat)):=[]
def z0z (l0:List Pa):rlnS→Xu rlnS
 | .h0 v3=>(bif (decide (v3<(l0.length:Int))) then (bif ((decide (0≤v3∧v3<(l0.length:Int)))&&true) then (bif (decide ((((rd l0 v3.toNat).s.length :Nat):Int)>6)) then (.ret [(.bool false)]) else (bif (Qk (cvT (rd l0 v3.toNat).s)) then (bif (!(w1u (cvT (rd l0 v3.toNat).s))) then (.ret [(.bool false)]) else (bif (!(x8l (rd l0 v3.toNat).a (rd l0 v3.toNat).b (rd l0 v3.toNat).c (-2000000))) then (.ret [(.bool false)]) else (bif (!(x8l (rd l0 v3.toNat).d (rd l0 v3.toNat).e (rd l0 v3.toNat).f (-2000000))) then (.ret [(.bool false)]) else (.to (.h0 (wrap .i64 (v3+1))))))) else .stuck)) else .stuck) else (.ret [(.bool (decide ((l0.length:Int)≤6)))]))
def y4v (l0:List Pa):Xu rlnS:=(bif (decide ((l0.length:Int)>50)) then (.ret [(.bool (decide ((l0.length:Int)≤55)))]) else (.to (.h0 0)))
theorem w9h (l0:List Pa): ∀s,Xq prog (Zy prog 9) (rlnC l0) (rlnC l0 s) (z0z l0 s)
 | .h0 v3=>(lb (fun k0=>(lo fun aH=>(lb (fun k1=>(lr 53 9 [1,1,0,1,0,0,1,0,0,1,1,0,0] 1 9 [(2,(.bool false))] (sl Xy 58 [] ⟨[],[],[some [2]],[]⟩ ⟨[],[],[]⟩ (trs 17 []) (tt k1 (ww aH (ww aH (tt k0 nn))))))) (fun k1=>(lo fun bL=>(lb (fun k2=>(lr 53 9 [1,1,0,1,0,0,1,0,0,1,1,0,0] 1 9 [(2,(.bool false))] (sl Xy 58 [] ⟨[],[],[some [2]],[]⟩ ⟨[],[],[]⟩ (bl 17 130817) (tt k2 (pp (pp (xI R6 (rd l0 (tn v3)).s.length (Zz (rd l0 (tn v3)).s)) (xw bL)) (ww aH (tt k1 (ww aH (ww aH (tt k0 nn)))))))))) (fun k2=>(lb (fun k3=>(lr 53 9 [1,1,0,1,0,0,1,0,0,1,1,0,0] 1 9 [(2,(.bool false))] (sl Xy 58 [] ⟨[],[],[some [2]],[]⟩ ⟨[],[],[]⟩ (bl 17 126977) (tt k3 (tt k2 (pp (pp (xI R6 (rd l0 (tn v3)).s.length (Zz (rd l0 (tn v3)).s)) (xw bL)) (ww aH (tt k1 (ww aH (ww aH (tt k0 nn))))))))))) (fun k3=>(lb (fun k4=>(lr 53 9 [1,1,0,1,0,0,1,0,0,1,1,0,0] 1 9 [(2,(.bool false))] (sl Xy 58 [] ⟨[],[],[some [2]],[]⟩ ⟨[],[],[]⟩ (bl 17 65537) (tt k4 (tt k3 (tt k2 (pp (pp (xI R6 (rd l0 (tn v3)).s.length (Zz (rd l0 (tn v3)).s)) (xw bL)) (ww aH (tt k1 (ww aH (ww aH (tt k0 nn)))))))))))) (fun k4=>(sl Xy 62 [] ⟨[],[],rlnN0,rlnM0⟩ ⟨[],[],[]⟩ (bl 17 1) (tt k4 (tt k3 (tt k2 (pp (pp (xI R6 (rd l0 (tn v3)).s.length (Zz (rd l0 (tn v3)).s)) (xw bL)) (ww aH (tt k1 (ww aH (ww aH (tt k0 nn))))))))))))))))))))) (fun k0=>(lr 53 3 [1,1,1,1,0] 1 9 [(2,(.bool (decide ((l0.length:Int)≤6))))] (sl Xy 17 [] ⟨[],[],[some [2]],[]⟩ ⟨[],[],[]⟩ [false] (tt k0 nn)))))
theorem w0k (l0:List Pa):Xq prog (Zy prog 9) (rlnC l0) (Zb prog 9 [(.dat l0.length (Zz l0))] true []) (y4v l0):=(lb (fun k0=>(lr 53 9 [1,0,1,0,0] 1 9 [(2,(.bool (decide ((l0.length:Int)≤55))))] (sl Xy 19 [] ⟨[],[],[some [2]],[]⟩ ⟨[],[],[]⟩ [true] (tt k0 nn)))) (fun k0=>(sl Xy 20 [] ⟨[],[],rlnN0,rlnM0⟩ ⟨[],[],[]⟩ [false] (tt k0 nn))))
theorem u1y (l0:List Pa) (n:Nat) (vs:List AVal) (h:Yy (z0z l0) n (y4v l0)=.ret vs):Jx prog (Zy prog 9) (Zb prog 9 [(.dat l0.length (Zz l0))] true []) vs:=by have:=Zd (w9h l0) n _ (w0k l0);rwa [h] at this
inductive rlqS where
 | h0 (v7:List R7) (v8:Int)
 | h1 (v7:List R7) (v8:Int) (v9:Int) (v12:List Int) (v13:List Int) (v14:List Int) (v15:Int)
 | h2 (v7:List R7) (v8:Int) (v9:Int) (v12:List Int) (v13:List Int) (v14:List Int) (v15:Int) (v16:Int) (v17:Int) (v18:List R4) (v19:Int)
 | h3 (v7:List R7) (v8:Int) (v9:Int) (v12:List Int) (v13:List Int) (v14:List Int) (v15:Int) (v16:Int) (v17:Int) (v18:List R4) (v19:Int) (v20:Int)
 | h4 (v7:List R7) (v8:Int) (v9:Int) (v12:List Int) (v13:List Int) (v14:List Int) (v15:Int) (v23:List R4) (v24:Int)
abbrev x0w (v7:List R7) (v8:Int) (v9:Int) (v12:List Int) (v15:Int) (v23:List R4) (v24:Int):=(v7++[(R7.mk (wrap IntKind.u8 v8) (Vf v9 (rd v12 (tn v15)) (rd v23 (tn v24)).a (rd v23 (tn v24)).b).a (Vf v9 (rd v12 (tn v15)) (rd v23 (tn v24)).a (rd v23 (tn v24)).b).b (Vf v9 (rd v12 (tn v15)) (rd v23 (tn v24)).a (rd v23 (tn v24)).b).c (Vf v9 (rd v12 (tn v15)) (rd v23 (tn v24)).c (rd v23 (tn v24)).d).a (Vf v9 (rd v12 (tn v15)) (rd v23 (tn v24)).c (rd v23 (tn v24)).d).b (Vf v9 (rd v12 (tn v15)) (rd v23 (tn v24)).c (rd v23 (tn v24)).d).c)])
abbrev z4n (v18:List R4) (v19:Int) (v20:Int):=(v18++[(R4.mk v19 v20 (wr (v19+1)) (wr (v20+1)))])
abbrev w5g (v18:List R4) (v19:Int) (v20:Int):=(Zr (Zz v18) 0 v18.length 4 [(ii v19),(ii v20),(ii (wr (v19+1))),(ii (wr (v20+1)))])
abbrev x0v (v9:Int) (v12:List Int) (v15:Int) (v23:List R4) (v24:Int):=(Vf v9 (rd v12 (tn v15)) (rd v23 (tn v24)).a (rd v23 (tn v24)).b)
abbrev x0u (v9:Int) (v12:List Int) (v15:Int) (v23:List R4) (v24:Int):=(Vf v9 (rd v12 (tn v15)) (rd v23 (tn v24)).c (rd v23 (tn v24)).d)
def rlqC (l0:List R6) (l1:List R6) (cH:Int) (cI:Int) (cJ:Int) (cK:Int) (cL:Int) (cM:Int):rlqS→Cfg
 | .h0 v7 v8=>⟨⟨184,0,true⟩,none,(Zc prog 49 [1,1,0,1,0,0] 0),none,(Zy prog 3),⟨Ya [(0,(.dat l0.length (Zz l0))),(1,(.dat l1.length (Zz l1))),(5,(.ptr 0 0)),(7,(.sla 1 7 0 v7.length (.un 7))),(8,(ii v8))],Vd [⟨[(ii cH),(ii cI),(ii cJ),(ii cK),(ii cL),(ii cM)],57,none⟩,⟨Yq v7.length (Zz v7),96,some ⟨7,v7.length,(Zz v7)⟩⟩] 0,2,[],true⟩,[],.leaf⟩
 | .h1 v7 v8 v9 v12 v13 v14 v15=>⟨⟨184,0,true⟩,none,(Zc prog 49 [1,1,0,1,0,0,1,0,0,1,1,1,1,1,0,0] 0),none,(Zy prog 3),⟨Ya [(0,(.dat l0.length (Zz l0))),(1,(.dat l1.length (Zz l1))),(5,(.ptr 0 0)),(7,(.sla 1 7 0 v7.length (.un 7))),(8,(ii v8)),(9,(ii v9)),(12,(.dat v12.length (Zz v12))),(13,(.dat v13.length (Zz v13))),(14,(.dat v14.length (Zz v14))),(15,(ii v15))],Vd [⟨[(ii cH),(ii cI),(ii cJ),(ii cK),(ii cL),(ii cM)],57,none⟩,⟨Yq v7.length (Zz v7),96,some ⟨7,v7.length,(Zz v7)⟩⟩] 0,2,[],true⟩,[],.leaf⟩
 | .h2 v7 v8 v9 v12 v13 v14 v15 v16 v17 v18 v19=>⟨⟨184,0,true⟩,none,(Zc prog 49 [1,1,0,1,0,0,1,0,0,1,1,1,1,1,0,0,1,0,0,1,1,1,0,1,0,0] 0),none,(Zy prog 3),⟨Ya [(0,(.dat l0.length (Zz l0))),(1,(.dat l1.length (Zz l1))),(5,(.ptr 0 0)),(7,(.sla 2 7 0 v7.length (.un 7))),(8,(ii v8)),(9,(ii v9)),(12,(.dat v12.length (Zz v12))),(13,(.dat v13.length (Zz v13))),(14,(.dat v14.length (Zz v14))),(15,(ii v15)),(16,(ii v16)),(17,(ii v17)),(18,(.sla 1 4 0 v18.length (.un 4))),(19,(ii v19))],Vd [⟨[(ii cH),(ii cI),(ii cJ),(ii cK),(ii cL),(ii cM)],57,none⟩,⟨Yq v18.length (Zz v18),116,some ⟨4,v18.length,(Zz v18)⟩⟩,⟨Yq v7.length (Zz v7),96,some ⟨7,v7.length,(Zz v7)⟩⟩] 0,3,[],true⟩,[],.leaf⟩
 | .h3 v7 v8 v9 v12 v13 v14 v15 v16 v17 v18 v19 v20=>⟨⟨184,0,true⟩,none,(Zc prog 49 [1,1,0,1,0,0,1,0,0,1,1,1,1,1,0,0,1,0,0,1,1,1,0,1,0,0,1,0,0,1,0,0] 0),none,(Zy prog 3),⟨Ya [(0,(.dat l0.length (Zz l0))),(1,(.dat l1.length (Zz l1))),(5,(.ptr 0 0)),(7,(.sla 2 7 0 v7.length (.un 7))),(8,(ii v8)),(9,(ii v9)),(12,(.dat v12.length (Zz v12))),(13,(.dat v13.length (Zz v13))),(14,(.dat v14.length (Zz v14))),(15,(ii v15)),(16,(ii v16)),(17,(ii v17)),(18,(.sla 1 4 0 v18.length (.un 4))),(19,(ii v19)),(20,(ii v20))],Vd [⟨[(ii cH),(ii cI),(ii cJ),(ii cK),(ii cL),(ii cM)],57,none⟩,⟨Yq v18.length (Zz v18),116,some ⟨4,v18.length,(Zz v18)⟩⟩,⟨Yq v7.length (Zz v7),96,some ⟨7,v7.length,(Zz v7)⟩⟩] 0,3,[],true⟩,[],.leaf⟩
 | .h4 v7 v8 v9 v12 v13 v14 v15 v23 v24=>⟨⟨184,0,true⟩,none,(Zc prog 49 [1,1,0,1,0,0,1,0,0,1,1,1,1,1,0,0,1,0,0,1,1,1,1,1,1,0,0] 0),none,(Zy prog 3),⟨Ya [(0,(.dat l0.length (Zz l0))),(1,(.dat l1.length (Zz l1))),(5,(.ptr 0 0)),(7,(.sla 1 7 0 v7.length (.un 7))),(8,(ii v8)),(9,(ii v9)),(12,(.dat v12.length (Zz v12))),(13,(.dat v13.length (Zz v13))),(14,(.dat v14.length (Zz v14))),(15,(ii v15)),(23,(.dat v23.length (Zz v23))),(24,(ii v24))],Vd [⟨[(ii cH),(ii cI),(ii cJ),(ii cK),(ii cL),(ii cM)],57,none⟩,⟨Yq v7.length (Zz v7),96,some ⟨7,v7.length,(Zz v7)⟩⟩] 0,2,[],true⟩,[],.leaf⟩
def rlqN0 :List (Option (List Nat)):=[some [0,1,5,7,8]]
def rlqM0 :List (Option (List Nat)):=[]
def u1v :List (Option (List Nat)):=[some [0,1,5,7,8,9,12,13,14,15]]
def u1w :List (Option (List Nat)):=[]
def j3l :List (Option (List Nat)):=[some [0,1,5,7,8,9,12,13,14,15,16,17,18,19]]
def j3m :List (Option (List Nat)):=[]
def x5w :List (Option (List Nat)):=[some [0,1,5,7,8,9,12,13,14,15,16,17,18,19,20]]
def x5x :List (Option (List Nat)):=[]
def rlqN4 :List (Option (List Nat)):=[some [0,1,5,7,8,9,12,13,14,15,23,24]]
def rlqM4 :List (Option (List Nat)):=[]
def Xd (l0:List R6) (l1:List R6) (cH:Int) (cI:Int) (cJ:Int) (cK:Int) (cL:Int) (cM:Int):rlqS→Xu rlqS
 | .h0 v7 v8=>(bif (decide (v8<6)) then (bif ((wrap .i64 (Int.tdiv v8 2)) == 0) then (bif (Uj (cvT l0) (wrap .i64 (Int.tdiv v8 2))) then (bif (Uj (cvT l0) 1) then (bif (Uj (cvT l0) 2) then (.to (.h1 v7 v8 (wrap .i64 (Int.tdiv v8 2)) (Uy (cvT l0) (wrap .i64 (Int.tdiv v8 2))) (Uy (cvT l0) 1) (Uy (cvT l0) 2) 0)) else .stuck) else .stuck) else .stuck) else (bif ((wrap .i64 (Int.tdiv v8 2)) == 1) then (bif (Uj (cvT l0) (wrap .i64 (Int.tdiv v8 2))) then (bif (Uj (cvT l0) 0) then (bif (Uj (cvT l0) 2) then (.to (.h1 v7 v8 (wrap .i64 (Int.tdiv v8 2)) (Uy (cvT l0) (wrap .i64 (Int.tdiv v8 2))) (Uy (cvT l0) 0) (Uy (cvT l0) 2) 0)) else .stuck) else .stuck) else .stuck) else (bif (Uj (cvT l0) (wrap .i64 (Int.tdiv v8 2))) then (bif (Uj (cvT l0) 0) then (bif (Uj (cvT l0) 1) then (.to (.h1 v7 v8 (wrap .i64 (Int.tdiv v8 2)) (Uy (cvT l0) (wrap .i64 (Int.tdiv v8 2))) (Uy (cvT l0) 0) (Uy (cvT l0) 1) 0)) else .stuck) else .stuck) else .stuck))) else (.ret [(.dat v7.length (Zz v7))]))
 | .h1 v7 v8 v9 v12 v13 v14 v15=>(bif (decide (v15<(v12.length:Int))) then (bif ((decide (0≤v15∧v15<(v12.length:Int)))&&true) then (bif ((Int.tmod v8 2) == 1) then (bif ((decide ((0:Int)≤0∧0<(v13.length:Int)))&&true) then (.to (.h2 v7 v8 v9 v12 v13 v14 v15 (rd v12 v15.toNat) (wrap .i64 ((rd v12 v15.toNat) - 1)) ([]:List R4) (rd v13 0))) else .stuck) else (bif ((decide ((0:Int)≤0∧0<(v13.length:Int)))&&true) then (.to (.h2 v7 v8 v9 v12 v13 v14 v15 (wrap .i64 ((rd v12 v15.toNat) - 1)) (rd v12 v15.toNat) ([]:List R4) (rd v13 0))) else .stuck)) else .stuck) else (.to (.h0 v7 (wrap .i64 (v8+1)))))
 | .h2 v7 v8 v9 v12 v13 v14 v15 v16 v17 v18 v19=>(bif ((decide (0≤(wrap .i64 ((v13.length:Int) - 1))∧(wrap .i64 ((v13.length:Int) - 1))<(v13.length:Int)))&&true) then (bif (decide (v19<(rd v13 (Int.toNat (wrap .i64 ((v13.length:Int) - 1)))))) then (bif ((decide ((0:Int)≤0∧0<(v14.length:Int)))&&true) then (.to (.h3 v7 v8 v9 v12 v13 v14 v15 v16 v17 v18 v19 (rd v14 0))) else .stuck) else (bif (Qe 2 (cvT v18) ([]:List R4)) then (.to (.h4 v7 v8 v9 v12 v13 v14 v15 (joV 2 (cvT v18) ([]:List R4)) 0)) else .stuck)) else .stuck)
 | .h3 v7 v8 v9 v12 v13 v14 v15 v16 v17 v18 v19 v20=>(bif ((decide (0≤(wrap .i64 ((v14.length:Int) - 1))∧(wrap .i64 ((v14.length:Int) - 1))<(v14.length:Int)))&&true) then (bif (decide (v20<(rd v14 (Int.toNat (wrap .i64 ((v14.length:Int) - 1)))))) then (bif (((cH == 0)&&((cI == 0)&&((cJ == 0)&&true)))&&(((cK == 0)&&((cL == 0)&&((cM == 0)&&true)))&&true)) then (bif (Qi (cvT l0) (Vf v9 v16 v19 v20).a (Vf v9 v16 v19 v20).b (Vf v9 v16 v19 v20).c) then (bif (rh6V (cvT l0) (Vf v9 v16 v19 v20).a (Vf v9 v16 v19 v20).b (Vf v9 v16 v19 v20).c) then (bif (Qi (cvT l1) (Vf v9 v17 v19 v20).a (Vf v9 v17 v19 v20).b (Vf v9 v17 v19 v20).c) then (bif (!(rh6V (cvT l1) (Vf v9 v17 v19 v20).a (Vf v9 v17 v19 v20).b (Vf v9 v17 v19 v20).c)) then (bif (Nat.beq 4 4&&((decide (0+v18.length=v18.length))&&decide ((v18.length+1+1)*(32+1)≤Jh))) then (.to (.h3 v7 v8 v9 v12 v13 v14 v15 v16 v17 (v18++[(R4.mk v19 v20 (wrap .i64 (v19+1)) (wrap .i64 (v20+1)))]) v19 (wrap .i64 (v20+1)))) else .stuck) else (.to (.h3 v7 v8 v9 v12 v13 v14 v15 v16 v17 v18 v19 (wrap .i64 (v20+1))))) else .stuck) else (.to (.h3 v7 v8 v9 v12 v13 v14 v15 v16 v17 v18 v19 (wrap .i64 (v20+1))))) else .stuck) else (bif (j4f cH cI cJ cK cL cM (Vf v9 v17 v19 v20).a (Vf v9 v17 v19 v20).b (Vf v9 v17 v19 v20).c) then (bif (Qi (cvT l0) (Vf v9 v16 v19 v20).a (Vf v9 v16 v19 v20).b (Vf v9 v16 v19 v20).c) then (bif (rh6V (cvT l0) (Vf v9 v16 v19 v20).a (Vf v9 v16 v19 v20).b (Vf v9 v16 v19 v20).c) then (bif (Qi (cvT l1) (Vf v9 v17 v19 v20).a (Vf v9 v17 v19 v20).b (Vf v9 v17 v19 v20).c) then (bif (!(rh6V (cvT l1) (Vf v9 v17 v19 v20).a (Vf v9 v17 v19 v20).b (Vf v9 v17 v19 v20).c)) then (bif (Nat.beq 4 4&&((decide (0+v18.length=v18.length))&&decide ((v18.length+1+1)*(32+1)≤Jh))) then (.to (.h3 v7 v8 v9 v12 v13 v14 v15 v16 v17 (v18++[(R4.mk v19 v20 (wrap .i64 (v19+1)) (wrap .i64 (v20+1)))]) v19 (wrap .i64 (v20+1)))) else .stuck) else (.to (.h3 v7 v8 v9 v12 v13 v14 v15 v16 v17 v18 v19 (wrap .i64 (v20+1))))) else .stuck) else (.to (.h3 v7 v8 v9 v12 v13 v14 v15 v16 v17 v18 v19 (wrap .i64 (v20+1))))) else .stuck) else (.to (.h3 v7 v8 v9 v12 v13 v14 v15 v16 v17 v18 v19 (wrap .i64 (v20+1)))))) else (.to (.h2 v7 v8 v9 v12 v13 v14 v15 v16 v17 v18 (wrap .i64 (v19+1))))) else .stuck)
 | .h4 v7 v8 v9 v12 v13 v14 v15 v23 v24=>(bif (decide (v24<(v23.length:Int))) then (bif ((decide (0≤v15∧v15<(v12.length:Int)))&&true) then (bif ((decide (0≤v24∧v24<(v23.length:Int)))&&true) then (bif (Nat.beq 7 7&&((decide (0+v7.length=v7.length))&&decide ((v7.length+1+1)*(56+1)≤Jh))) then (.to (.h4 (v7++[(R7.mk (wrap IntKind.u8 v8) (Vf v9 (rd v12 v15.toNat) (rd v23 v24.toNat).a (rd v23 v24.toNat).b).a (Vf v9 (rd v12 v15.toNat) (rd v23 v24.toNat).a (rd v23 v24.toNat).b).b (Vf v9 (rd v12 v15.toNat) (rd v23 v24.toNat).a (rd v23 v24.toNat).b).c (Vf v9 (rd v12 v15.toNat) (rd v23 v24.toNat).c (rd v23 v24.toNat).d).a (Vf v9 (rd v12 v15.toNat) (rd v23 v24.toNat).c (rd v23 v24.toNat).d).b (Vf v9 (rd v12 v15.toNat) (rd v23 v24.toNat).c (rd v23 v24.toNat).d).c)]) v8 v9 v12 v13 v14 v15 v23 (wrap .i64 (v24+1)))) else .stuck) else .stuck) else .stuck) else (.to (.h1 v7 v8 v9 v12 v13 v14 (wrap .i64 (v15+1)))))
def y4u (l0:List R6) (l1:List R6) (cH:Int) (cI:Int) (cJ:Int) (cK:Int) (cL:Int) (cM:Int):Xu rlqS:=(.to (.h0 ([]:List R7) 0))
theorem w9f (l0:List R6) (l1:List R6) (cH:Int) (cI:Int) (cJ:Int) (cK:Int) (cL:Int) (cM:Int): ∀s,Xq prog (Zy prog 49) (rlqC l0 l1 cH cI cJ cK cL cM) (rlqC l0 l1 cH cI cJ cK cL cM s) (Xd l0 l1 cH cI cJ cK cL cM s)
 | .h0 v7 v8=>(lb (fun k0=>(lb (fun k1=>(lo fun o0=>(lo fun o1=>(lo fun o2=>(sl Xy 68 [] ⟨[0,1],[],u1v,u1w⟩ ⟨[],[],[]⟩ (bl 2 3) (pp (fl v7 nn) (pp (pp (xr l0) (xw o2)) (pp (pp (xr l0) (xw o1)) (pp (pp (xr l0) (xw o0)) (tt k1 (tt k0 nn))))))))))) (fun k1=>(lb (fun k2=>(lo fun o0=>(lo fun o1=>(lo fun o2=>(sl Xy 76 [] ⟨[0,1],[],u1v,u1w⟩ ⟨[],[],[]⟩ (bl 3 5) (pp (fl v7 nn) (pp (pp (xr l0) (xw o2)) (pp (pp (xr l0) (xw o1)) (pp (pp (xr l0) (xw o0)) (tt k2 (tt k1 (tt k0 nn)))))))))))) (fun k2=>(lo fun o0=>(lo fun o1=>(lo fun o2=>(sl Xy 77 [] ⟨[0,1],[],u1v,u1w⟩ ⟨[],[],[]⟩ (bl 3 1) (pp (fl v7 nn) (pp (pp (xr l0) (xw o2)) (pp (pp (xr l0) (xw o1)) (pp (pp (xr l0) (xw o0)) (tt k2 (tt k1 (tt k0 nn)))))))))))))))) (fun k0=>(lr 184 3 [1,1,1,1,0] 1 3 [(6,(.dat v7.length (Zz v7)))] (sl Xy 13 [] ⟨[],[1],[some [6]],[]⟩ ⟨[(6,.frz v7.length v7.length (Zz v7) (Zz v7))],[],[]⟩ [false] (pp (xZ (z5q 7 7 0 v7.length v7.length (Zz v7)) v7.length (Zz v7)) (pp (xL v7.length v7.length) (pp (xS v7.length (Zz v7) (Zz v7)) (pp (fl v7 nn) (tt k0 nn)))))))))
 | .h1 v7 v8 v9 v12 v13 v14 v15=>(lb (fun k0=>(lo fun aH=>(lb (fun k1=>(lo fun o0=>(sl Xy 37 [(116,4,Zz ([]:List R4))] ⟨[0,2,1],[],j3l,j3m⟩ ⟨[(18,.grow 1 4)],[],[]⟩ (bl 2 3) (pp (fl ([]:List R4) (fl v7 nn)) (ww o0 (ww aH (ww aH (tt k1 (ww aH (ww aH (tt k0 nn))))))))))) (fun k1=>(lo fun o0=>(sl Xy 37 [(116,4,Zz ([]:List R4))] ⟨[0,2,1],[],j3l,j3m⟩ ⟨[(18,.grow 1 4)],[],[]⟩ (bl 2 1) (pp (fl ([]:List R4) (fl v7 nn)) (ww o0 (tt k1 (ww aH (ww aH (tt k0 nn)))))))))))) (fun k0=>(sl Xy 17 [] ⟨[0,1],[],rlqN0,rlqM0⟩ ⟨[],[],[]⟩ [false] (pp (fl v7 nn) (tt k0 nn)))))
 | .h2 v7 v8 v9 v12 v13 v14 v15 v16 v17 v18 v19=>(lo fun bJ=>(lb (fun k0=>(lo fun o0=>(sl Xy 25 [] ⟨[0,1,2],[],x5w,x5x⟩ ⟨[],[],[]⟩ [true] (pp (fl v18 (fl v7 nn)) (ww o0 (tt k0 (ww bJ nn))))))) (fun k0=>(Ve (sl Xy (C':=⟨⟨184,0,true⟩,(Up prog 49 [1,1,0,1,0,0,1,0,0,1,1,1,1,1,0,0,1,0,0,1,1,1,1,0] 1),(Zc prog 49 [1,1,0,1,0,0,1,0,0,1,1,1,1,1,0,0,1,0,0,1,1,1,1,0] 1),none,(Zy prog 3),⟨Ya [(0,(.dat l0.length (Zz l0))),(1,(.dat l1.length (Zz l1))),(5,(.ptr 0 0)),(7,(.sla 1 7 0 v7.length (.un 7))),(8,(ii v8)),(9,(ii v9)),(12,(.dat v12.length (Zz v12))),(13,(.dat v13.length (Zz v13))),(14,(.dat v14.length (Zz v14))),(15,(ii v15)),(137,(.dat v18.length (Zz v18)))],Vd [⟨[(ii cH),(ii cI),(ii cJ),(ii cK),(ii cL),(ii cM)],57,none⟩,⟨Yq v7.length (Zz v7),96,some ⟨7,v7.length,(Zz v7)⟩⟩] 0,2,[],true⟩,[],.leaf⟩) 17 [] ⟨[0,2],[1],[some [0,1,5,7,8,9,12,13,14,15,137]],[]⟩ ⟨[(137,.frz v18.length v18.length (Zz v18) (Zz v18))],[],[]⟩ [false] (pp (xZ (z5q 4 4 0 v18.length v18.length (Zz v18)) v18.length (Zz v18)) (pp (xL v18.length v18.length) (pp (xS v18.length (Zz v18) (Zz v18)) (pp (fl v7 nn) (pp (fl v18 nn) (tt k0 (ww bJ nn)))))))) (lo fun o0=>(sl Xy 9 [] ⟨[0,1],[],rlqN4,rlqM4⟩ ⟨[],[],[]⟩ [] (pp (fl v7 nn) (pp (pp (xr v18) (pp (xI R4 0 (fun _=>[])) (xw o0))) nn))))))))
 | .h3 v7 v8 v9 v12 v13 v14 v15 v16 v17 v18 v19 v20=>(lo fun bJ=>(lb (fun k0=>(lb (fun k1=>(lo fun bL=>(lb (fun k2=>(lo fun bU=>(lb (fun k3=>(lo fun o0=>(sl Xy 78 [] ⟨[0,5,2],[],x5w,x5x⟩ ⟨[(18,.len (z4n v18 v19 v20).length)],[.keep,.rowed 4 (z4n v18 v19 v20).length (Zz (z4n v18 v19 v20)),.keep],[]⟩ (trs 16 []) (pp (xL (v18.length+1) (z4n v18 v19 v20).length) (pp (xL (v18.length+1) (z4n v18 v19 v20).length) (pp (xS (v18.length+1) (w5g v18 v19 v20) (Zz (z4n v18 v19 v20))) (pp (pp (xF (w5g v18 v19 v20)) (fl v7 nn)) (ww o0 (tt k3 (pp (pp (xr l1) (xw bU)) (tt k2 (pp (pp (xr l0) (xw bL)) (tt k1 (tt k0 (ww bJ nn))))))))))))))) (fun k3=>(sl Xy 66 [] ⟨[0,1,2],[],x5w,x5x⟩ ⟨[],[],[]⟩ (trs 15 [false]) (pp (fl v18 (fl v7 nn)) (tt k3 (pp (pp (xr l1) (xw bU)) (tt k2 (pp (pp (xr l0) (xw bL)) (tt k1 (tt k0 (ww bJ nn))))))))))))) (fun k2=>(sl Xy 66 [] ⟨[0,1,2],[],x5w,x5x⟩ ⟨[],[],[]⟩ (trs 11 (bl 5 0)) (pp (fl v18 (fl v7 nn)) (tt k2 (pp (pp (xr l0) (xw bL)) (tt k1 (tt k0 (ww bJ nn))))))))))) (fun k1=>(lb (fun k2=>(lo fun bU=>(lb (fun k3=>(lo fun bZ=>(lb (fun k4=>(lo fun o0=>(sl Xy 78 [] ⟨[0,5,2],[],x5w,x5x⟩ ⟨[(18,.len (z4n v18 v19 v20).length)],[.keep,.rowed 4 (z4n v18 v19 v20).length (Zz (z4n v18 v19 v20)),.keep],[]⟩ (bl 16 65521) (pp (xL (v18.length+1) (z4n v18 v19 v20).length) (pp (xL (v18.length+1) (z4n v18 v19 v20).length) (pp (xS (v18.length+1) (w5g v18 v19 v20) (Zz (z4n v18 v19 v20))) (pp (pp (xF (w5g v18 v19 v20)) (fl v7 nn)) (ww o0 (tt k4 (pp (pp (xr l1) (xw bZ)) (tt k3 (pp (pp (xr l0) (xw bU)) (tt k2 (tt k1 (tt k0 (ww bJ nn)))))))))))))))) (fun k4=>(sl Xy 66 [] ⟨[0,1,2],[],x5w,x5x⟩ ⟨[],[],[]⟩ (bl 16 32753) (pp (fl v18 (fl v7 nn)) (tt k4 (pp (pp (xr l1) (xw bZ)) (tt k3 (pp (pp (xr l0) (xw bU)) (tt k2 (tt k1 (tt k0 (ww bJ nn)))))))))))))) (fun k3=>(sl Xy 66 [] ⟨[0,1,2],[],x5w,x5x⟩ ⟨[],[],[]⟩ (bl 16 2033) (pp (fl v18 (fl v7 nn)) (tt k3 (pp (pp (xr l0) (xw bU)) (tt k2 (tt k1 (tt k0 (ww bJ nn)))))))))))) (fun k2=>(sl Xy 66 [] ⟨[0,1,2],[],x5w,x5x⟩ ⟨[],[],[]⟩ (bl 16 1) (pp (fl v18 (fl v7 nn)) (tt k2 (tt k1 (tt k0 (ww bJ nn))))))))))) (fun k0=>(sl Xy 21 [] ⟨[0,1,2],[],j3l,j3m⟩ ⟨[],[],[]⟩ [false] (pp (fl v18 (fl v7 nn)) (tt k0 (ww bJ nn)))))))
 | .h4 v7 v8 v9 v12 v13 v14 v15 v23 v24=>(lb (fun k0=>(lo fun o0=>(lo fun o1=>(lo fun o2=>(sl Xy 20 [] ⟨[0,3],[],rlqN4,rlqM4⟩ ⟨[(7,.len (x0w v7 v8 v9 v12 v15 v23 v24).length)],[.keep,.rowed 7 (x0w v7 v8 v9 v12 v15 v23 v24).length (Zz (x0w v7 v8 v9 v12 v15 v23 v24))],[]⟩ [true] (pp (xL (v7.length+1) (x0w v7 v8 v9 v12 v15 v23 v24).length) (pp (xL (v7.length+1) (x0w v7 v8 v9 v12 v15 v23 v24).length) (pp (xS (v7.length+1) (Zr (Zz v7) 0 v7.length 7 [(.int .u8 (wrap IntKind.u8 v8)),(ii (x0v v9 v12 v15 v23 v24).a),(ii (x0v v9 v12 v15 v23 v24).b),(ii (x0v v9 v12 v15 v23 v24).c),(ii (x0u v9 v12 v15 v23 v24).a),(ii (x0u v9 v12 v15 v23 v24).b),(ii (x0u v9 v12 v15 v23 v24).c)]) (Zz (x0w v7 v8 v9 v12 v15 v23 v24))) (pp (pp (xF (Zr (Zz v7) 0 v7.length 7 [(.int .u8 (wrap IntKind.u8 v8)),(ii (x0v v9 v12 v15 v23 v24).a),(ii (x0v v9 v12 v15 v23 v24).b),(ii (x0v v9 v12 v15 v23 v24).c),(ii (x0u v9 v12 v15 v23 v24).a),(ii (x0u v9 v12 v15 v23 v24).b),(ii (x0u v9 v12 v15 v23 v24).c)])) nn) (ww o2 (ww o1 (ww o1 (ww o0 (ww o1 (ww o1 (ww o0 (tt k0 nn))))))))))))))))) (fun k0=>(sl Xy 17 [] ⟨[0,1],[],u1v,u1w⟩ ⟨[],[],[]⟩ [false] (pp (fl v7 nn) (tt k0 nn)))))
theorem w0j (l0:List R6) (l1:List R6) (cH:Int) (cI:Int) (cJ:Int) (cK:Int) (cL:Int) (cM:Int):Xq prog (Zy prog 49) (rlqC l0 l1 cH cI cJ cK cL cM) (Zb prog 49 [(.dat l0.length (Zz l0)),(.dat l1.length (Zz l1)),(.agg [(.int .i64 cH),(.int .i64 cI),(.int .i64 cJ),(.int .i64 cK),(.int .i64 cL),(.int .i64 cM)])] true []) (y4u l0 l1 cH cI cJ cK cL cM):=(sl Xy 16 [(96,7,Zz ([]:List R7))] ⟨[0,1],[],rlqN0,rlqM0⟩ ⟨[(7,.grow 1 7)],[],[]⟩ [] (pp (fl ([]:List R7) nn) nn))
theorem u1u (l0:List R6) (l1:List R6) (cH:Int) (cI:Int) (cJ:Int) (cK:Int) (cL:Int) (cM:Int) (n:Nat) (vs:List AVal) (h:Yy (Xd l0 l1 cH cI cJ cK cL cM) n (y4u l0 l1 cH cI cJ cK cL cM)=.ret vs):Jx prog (Zy prog 49) (Zb prog 49 [(.dat l0.length (Zz l0)),(.dat l1.length (Zz l1)),(.agg [(.int .i64 cH),(.int .i64 cI),(.int .i64 cJ),(.int .i64 cK),(.int .i64 cL),(.int .i64 cM)])] true []) vs:=by have:=Zd (w9f l0 l1 cH cI cJ cK cL cM) n _ (w0j l0 l1 cH cI cJ cK cL cM);rwa [h] at this
def eqB (t r:R6):Bool:=(((t.a == r.a)&&((t.b == r.b)&&((t.c == r.c)&&true)))&&(((t.d == r.d)&&((t.e == r.e)&&((t.f == r.f)&&true)))&&true))
def x6h (x y:R6):R6:=y0u x.a x.b x.c x.d x.e x.f y.a y.b y.c y.d y.e y.f
def rvbR (x:R6):Bool:=rvbV x.a x.b x.c x.d x.e x.f
def o6 :R6:=⟨0,0,0,0,0,0⟩
def j4s (l:List Pa) (i:Nat):Bool:= !rvbR (bxP (rd l i))||((rd l i).s.any (fun r=> !eqB (x6h r (bxP (rd l i))) r)||(l.take i).any fun y=> !eqB (x6h (bxP (rd l i)) (bxP y)) o6)
def rkG (l:List Pa):Nat→Nat→Int
 | 0,_=>0
 | k+1,i=>bif j4s l i then 8 else rkG l k (i+1)
def rkE :List Pa→Int
 | []=>0
 | x::r=>bif Wr x.s != 0 then Wr x.s else rkE r
def z8i (l:List Pa):Int:=bif decide (50<l.length) then 4 else bif rkE l != 0 then rkE l else rkG l l.length 0
def Ji (l:List Pa):Bool:=smP l
theorem v2s {l:List Pa} {i j:Nat} (hj:j<i) (hi:i≤l.length):(l.take i).drop j=rd l j::(l.take i).drop (j+1):=by
 have h1:j<(l.take i).length :=by rw [AZ];omega
 rw [B8 h1,Bf,Yi (show j<l.length by omega)]
section
variable (l:List Pa) (hl:l.length≤1000)
include hl
theorem u8d (i:Nat) (hi:i<l.length): ∀(k j:Nat),j+k=i→ ∃n,∀N,Yy (Vm l) (N+n) (.to (.h3 (i:Int) (j:Int)))=bif ((l.take i).drop j).any (fun y=> !eqB (x6h (bxP (rd l i)) (bxP y)) o6) then .ret [.int .i64 8] else Yy (Vm l) N (.to (.h1 ((i+1:Nat):Int)))
 | 0,j,h=>by refine ⟨1,fun N=> ?_⟩;rw [Zv,Au (by rw [AZ];omega)];simp (disch:=omega) only [Vm,Zt,Zk,Zx,Aa,List.any_nil]
 | k+1,j,h=>by
  have hj:j<i:=by omega
  obtain ⟨n,hn⟩:=u8d i hi k (j+1) (by omega);refine ⟨n+1,fun N=> ?_⟩;rw [←AB,Zv,v2s hj (by omega),Ca];have e:Vm l (.h3 (i:Int) (j:Int))=bif !eqB (x6h (bxP (rd l i)) (bxP (rd l j))) o6 then .ret [.int .i64 8] else .to (.h3 (i:Int) ((j+1:Nat):Int)):=by simp (disch:=omega) only [Vm,eqB,x6h,bxP,o6,Zi,Zf,Zk,Zx,Zj,Ah,Ab]
  rw [e];cases (!eqB (x6h (bxP (rd l i)) (bxP (rd l j))) o6) with
  | true=>rw [Ab,Zp,BB,Ab]
  | false=>rw [Aa,hn,Bl]
theorem u8e (hs:smP l=true) (i:Nat) (hi:i<l.length): ∀(k j:Nat),j+k=(rd l i).s.length → ∃n,∀N,Yy (Vm l) (N+n) (.to (.h2 (i:Int) (j:Int)))=bif ((rd l i).s.drop j).any (fun r=> !eqB (x6h r (bxP (rd l i))) r)||(l.take i).any (fun y=> !eqB (x6h (bxP (rd l i)) (bxP y)) o6) then .ret [.int .i64 8] else Yy (Vm l) N (.to (.h1 ((i+1:Nat):Int)))
 | 0,j,h=>by obtain ⟨n,hn⟩:=u8d l hl i hi i 0 (by omega);refine ⟨n+1,fun N=> ?_⟩;rw [←AB,Zv,Au (by omega)];have hn:=hn N;rw [AX] at hn;simp (disch:=omega) only [Vm,Zt,Zf,Zj,Ah,Ab,Aa,List.any_nil,Bl];exact hn
 | k+1,j,h=>by
  have hS:=v3l hs hi;have hj:j<(rd l i).s.length :=by omega
  obtain ⟨n,hn⟩:=u8e hs i hi k (j+1) (by omega);refine ⟨n+1,fun N=> ?_⟩;rw [←AB,Zv,Yg hj,Ca];have e:Vm l (.h2 (i:Int) (j:Int))=bif !eqB (x6h (rd (rd l i).s j) (bxP (rd l i))) (rd (rd l i).s j) then .ret [.int .i64 8] else .to (.h2 (i:Int) ((j+1:Nat):Int)):=by simp (disch:=omega) only [Vm,eqB,x6h,bxP,Zi,Zf,Zk,Zx,Zj,Ah,Ab]
  rw [e];cases (!eqB (x6h (rd (rd l i).s j) (bxP (rd l i))) (rd (rd l i).s j)) with
  | true=>rw [Ab,Zp,BB,BB,Ab]
  | false=>rw [Aa,hn,Bl]
theorem u8f (hs:smP l=true): ∀(k i:Nat),i+k=l.length→ ∃n,Yy (Vm l) n (.to (.h1 (i:Int)))=.ret [.int .i64 (rkG l k i)]
 | 0,i,h=>by refine ⟨1,?_⟩;rw [Zv];simp (disch:=omega) only [Vm,Zt,Aa,Zp];rfl
 | k+1,i,h=>by
  have hi:i<l.length:=by omega
  obtain ⟨m,hm⟩:=u8f hs k (i+1) (by omega);obtain ⟨n,hn⟩:=u8e l hl hs i hi (rd l i).s.length 0 (Ag _);refine ⟨m+n+1,?_⟩;have e:Vm l (.h1 (i:Int))=bif !rvbR (bxP (rd l i)) then .ret [.int .i64 8] else .to (.h2 (i:Int) ((0:Nat):Int)):=by simp (disch:=omega) only [Vm,rvbR,bxP,Zi,Zf,Zj,Ah,Ab];rfl
  rw [Zv,e];show _=Xu.ret [.int .i64 (bif j4s l i then 8 else rkG l k (i+1))];unfold j4s;rcases Yx (!rvbR (bxP (rd l i))) with q | q
  ·rw [q,Ab,Zp,BB,Ab]
  ·rw [q,Aa,hn,Bl,AX];cases ((rd l i).s.any (fun r=> !eqB (x6h r (bxP (rd l i))) r)||(l.take i).any fun y=> !eqB (x6h (bxP (rd l i)) (bxP y)) o6) with
   | true=>rfl
   | false=>exact hm
theorem u8g (hs:smP l=true): ∀(k i:Nat),i+k=l.length→ ∃n,Yy (Vm l) n (.to (.h0 (i:Int)))=.ret [.int .i64 (bif rkE (l.drop i) != 0 then rkE (l.drop i) else rkG l l.length 0)]
 | 0,i,h=>by obtain ⟨m,hm⟩:=u8f l hl hs l.length 0 (Ag _);refine ⟨m+1,?_⟩;rw [Zv,Au (by omega)];simp (disch:=omega) only [Vm,Zt,Aa];exact hm
 | k+1,i,h=>by
  have hi:i<l.length:=by omega
  obtain ⟨m,hm⟩:=u8g hs k (i+1) (by omega);refine ⟨m+1,?_⟩;have e:Vm l (.h0 (i:Int))=bif Wr (rd l i).s != 0 then .ret [.int .i64 (Wr (rd l i).s)] else .to (.h0 ((i+1:Nat):Int)):=by simp (disch:=omega) only [Vm,Zg,show∀l,z1d l=true from fun _=>rfl,Zi,Zf,Zk,Zx,Zj,Ah,Ab]
  rw [Zv,e,Yg hi];unfold rkE;rcases Yx (Wr (rd l i).s != 0) with q | q
  ·rw [q,Ab,Ab,Zp,q,Ab]
  ·rw [q,Aa,Aa,hm]
end
theorem j3r (l:List Pa) (h:Ji l=true): ∃n,Yy (Vm l) n (y4y l)=.ret [.int .i64 (z8i l)]:=by
 have hl:=z4y h;unfold y4y z8i;by_cases g:50<l.length
 ·exact ⟨0,by rw [Yt (by omega),Ai g];rfl⟩
 ·obtain ⟨n,hn⟩:=u8g l hl h l.length 0 (Ag _);refine ⟨n,?_⟩;rw [Xc (by omega),An g];exact hn
def fRlc :List AVal→Option (AVal×Bool)
 | [a0]=>match asL Pa a0 with
  | some (L0,g0,n0)=>some (.int .i64 (z8i L0),isT Pa n0 g0&&(Ji L0))
  | _=>none
 | _=>none
theorem v7u {S:Specs} (hS:Zu prog S):Zu prog (S.with nRlc fRlc):=by
 refine z0v hS (by kernel_rfl) fun args v h=> ?_;unfold fRlc at h;split at h
 ·rename_i a0;split at h
  ·rename_i L0 g0 n0 e0;simp only [Ae,Ad,Ac] at h;obtain ⟨rfl,ho0,hw⟩:=h;obtain ⟨N,hN⟩:=j3r L0 hw;exact ⟨_,_,(.cons (Yh e0 ho0) .nil),rfl,u2a L0 N _ hN,3,rfl⟩
  ·cases h
 ·cases h
def Vr3 :Specs:=(Vr2.with nRlc fRlc)
theorem x2n :Zu prog Vr3:=(v7u Xy)
theorem chg {L:List R2} (h:Can L) {y:Int} (hy:y∈y0o L) (hS:pt L (y - 1)↔pt L y):False:=by
 obtain ⟨s,hs,h1⟩:=AN.1 hy;have hp:=h.pos s hs;have sepL: ∀t∈L,t=s∨t.b<s.a∨s.b<t.a:=fun t ht=>by
  obtain ⟨i,hi,ei⟩:=AS hs;obtain ⟨j,hj,ej⟩:=AS ht;have pw:=Bk.1 h.sep;rcases Bt i j with q | q | q
  ·have:=pw i j hi hj q;rw [ei,ej] at this;exact .inr (.inr this)
  ·subst q;exact .inl (ej.symm.trans ei)
  ·have:=pw j i hj hi q;rw [ei,ej] at this;exact .inr (.inl this)
 simp only [AI,BC,Cm] at h1;rcases h1 with rfl | rfl
 ·obtain ⟨t,ht,t1,t2⟩:=hS.2 ⟨s,hs,AV _,hp⟩;rcases sepL t ht with rfl | q | q <;> omega
 ·obtain ⟨t,ht,t1,t2⟩:=hS.1 ⟨s,hs,by omega,by omega⟩;rcases sepL t ht with rfl | q | q <;> omega
theorem z9r : ∀(l S:List Int),l.Pairwise (· ≠ ·)→(∀x∈l,x∈S)→l.length≤S.length
 | [],S,_,_=>AD _
 | x::l,S,h,hs=>by obtain ⟨h1,h2⟩:=A1.1 h;have hx:=hs x (by simp);have:=z9r l (S.erase x) h2 fun y hy=>(List.mem_erase_of_ne (fun e=>h1 y hy e.symm)).2 (hs y (by simp [hy]));rw [List.length_erase_of_mem hx] at this;have:=List.length_pos_of_mem hx;simp only [AU];omega
theorem j1d {a b:List R2} (ha:a.all z1j=true) (hb:b.all z1j=true):(spJ 2 a b).length +(spJ 2 b a).length ≤a.length+b.length:=by
 obtain ⟨c1,p1⟩:=y6n 2 ha hb;obtain ⟨c2,p2⟩:=y6n 2 hb ha;have q1: ∀y,pt (spJ 2 a b) y↔pt a y∧ ¬pt b y:=fun y=>by rw [show pt (spJ 2 a b) y↔_ from p1 y];unfold opB;simp
 have q2: ∀y,pt (spJ 2 b a) y↔pt b y∧ ¬pt a y:=fun y=>by rw [show pt (spJ 2 b a) y↔_ from p2 y];unfold opB;simp
 have f: ∀y:Int,∃z,(z=2*y∧ ¬(pt a (y - 1)↔pt a y))∨(z=2*y+1∧(pt a (y - 1)↔pt a y)):=fun y=>by
  by_cases h:pt a (y - 1)↔pt a y
  ·exact ⟨_,.inr ⟨rfl,h⟩⟩
  ·exact ⟨_,.inl ⟨rfl,h⟩⟩
 have g: ∀y:Int,∃z,(z=2*y+1∧ ¬(pt b (y - 1)↔pt b y))∨(z=2*y∧(pt b (y - 1)↔pt b y)):=fun y=>by
  by_cases h:pt b (y - 1)↔pt b y
  ·exact ⟨_,.inr ⟨rfl,h⟩⟩
  ·exact ⟨_,.inl ⟨rfl,h⟩⟩
 obtain ⟨f,hf⟩:=Classical.axiomOfChoice f;obtain ⟨g,hg⟩:=Classical.axiomOfChoice g;have key:=z9r ((y0o (spJ 2 a b)).map f++(y0o (spJ 2 b a)).map g) ((y0o a).map (2* ·)++(y0o b).map (2* · +1)) (by
  refine BN.2 ⟨List.pairwise_map.2 ((y0n c1).imp fun {x y} h=> ?_),List.pairwise_map.2 ((y0n c2).imp fun {x y} h=> ?_),?_⟩
  ·have:=hf x;have:=hf y;omega
  ·have:=hg x;have:=hg y;omega
  ·intro x hx z hz;obtain ⟨y,hy,rfl⟩:=AQ.1 hx;obtain ⟨y',hy',rfl⟩:=AQ.1 hz;intro e;have e1:y'=y:=by have:=hf y;have:=hg y';omega
   subst e1;have n1:=chg c1 hy;have n2:=chg c2 hy';rw [q1,q1] at n1;rw [q2,q2] at n2;rcases hf y' with ⟨e1,h1⟩ | ⟨e1,h1⟩ <;> rcases hg y' with ⟨e2,h2⟩ | ⟨e2,h2⟩
   ·omega
   ·by_cases h3:pt b y'
    ·exact n1 (by simp [h2,h3])
    ·exact n2 (by simp [h2,h3])
   ·by_cases h3:pt a y'
    ·exact n2 (by simp [h1,h3])
    ·exact n1 (by simp [h1,h3])
   ·omega) (by
  intro x hx;rcases AF.1 hx with hx | hx
  ·obtain ⟨y,hy,rfl⟩:=AQ.1 hx;have n1:=chg c1 hy;rw [q1,q1] at n1;rcases hf y with ⟨e1,h1⟩ | ⟨e1,h1⟩
   ·refine AF.2 (.inl (AQ.2 ⟨y,A9 fun hn=>h1 (y1o hn),e1.symm⟩))
   ·refine AF.2 (.inr (AQ.2 ⟨y,A9 fun hn=>n1 (by rw [h1,y1o hn]),e1.symm⟩))
  ·obtain ⟨y,hy,rfl⟩:=AQ.1 hx;have n1:=chg c2 hy;rw [q2,q2] at n1;rcases hg y with ⟨e1,h1⟩ | ⟨e1,h1⟩
   ·refine AF.2 (.inr (AQ.2 ⟨y,A9 fun hn=>h1 (y1o hn),e1.symm⟩))
   ·refine AF.2 (.inl (AQ.2 ⟨y,A9 fun hn=>n1 (by rw [h1,y1o hn]),e1.symm⟩)))
 simp only [Aw,A6,Qr] at key;omega
theorem x2k : ∀(l m:List Int),l.Pairwise (· < ·)→m.Pairwise (· < ·)→(∀x,x∈l↔x∈m)→l=m
 | [],[],_,_,_=>rfl
 | [],y::m,_,_,h=>by have:=(h y).2 (by simp);cases this
 | x::l,[],_,_,h=>by have:=(h x).1 (by simp);cases this
 | x::l,y::m,hl,hm,h=>by
  obtain ⟨l1,l2⟩:=A1.1 hl;obtain ⟨m1,m2⟩:=A1.1 hm;have e:x=y:=by
   have hx:=(h x).1 (by simp);have hy:=(h y).2 (by simp);rcases AI.1 hx with hx | hx
   ·exact hx
   ·rcases AI.1 hy with hy | hy
    ·exact hy.symm
    ·have:=l1 y hy;have:=m1 x hx;omega
  subst e
  congr 1
  refine x2k l m l2 m2 fun z=>⟨fun hz=> ?_,fun hz=> ?_⟩
  ·have:=l1 z hz;rcases AI.1 ((h z).1 (by simp [hz])) with q | q
   ·omega
   ·exact q
  ·have:=m1 z hz;rcases AI.1 ((h z).2 (by simp [hz])) with q | q
   ·omega
   ·exact q
namespace Dim
variable {α β:Type} {D:Dim α β}
theorem w7a (l:List α):(D.cuts l).Pairwise (· < ·):=by show (Js (D.ends l)).Pairwise (· < ·);rw [Kr];exact (Xm _).1
theorem w6z (l:List α) (x:Int):x∈D.cuts l↔x∈D.ends l:=by show x∈Js (D.ends l)↔_;rw [Kr];exact (Xm _).2 x
theorem w6x (l:List α) (x:Int):x∈D.ends l↔ ∃r∈l,x=D.lo r∨x=D.hi r:=by
 induction l with
 | nil=>exact ⟨fun h=>(by cases h),fun ⟨r,h,_⟩=>(by cases h)⟩
 | cons r l ih=>
  show x∈D.lo r::D.hi r::D.ends l↔_;rw [AI,AI,ih];constructor
  ·rintro (h | h | ⟨s,hs,h⟩)
   ·exact ⟨r,by simp,.inl h⟩
   ·exact ⟨r,by simp,.inr h⟩
   ·exact ⟨s,by simp [hs],h⟩
  ·rintro ⟨s,hs,h⟩;rcases AI.1 hs with rfl | hs
   ·rcases h with h | h
    ·exact .inl h
    ·exact .inr (.inl h)
   ·exact .inr (.inr ⟨s,hs,h⟩)
theorem cuts_comm (a b:List α):D.cuts (a++b)=D.cuts (b++a):=x2k _ _ (w7a _) (w7a _) fun x=>by
 rw [w6z,w6z,w6x,w6x];constructor <;> exact fun ⟨r,hr,h⟩=>⟨r,by rw [AF] at*;exact hr.symm,h⟩
end Dim
theorem u2u {a b:List R4} (ha: ∀r∈a,Vo r=true) (hb: ∀r∈b,Vo r=true):(rgJ 2 a b).length +(rgJ 2 b a).length ≤(a.length+b.length)*(a.length+b.length):=by
 have hv: ∀r∈a++b,D4.lo r<D4.hi r:=fun r hr=>by
  have hv:Vo r=true:=by
   rcases AF.1 hr with h | h
   ·exact ha r h
   ·exact hb r h
  simp only [Vo,Ac,As] at hv;exact hv.1
 have g1:=D4.goS_length (fun x=>spJ 2 (D4.inn a x) (D4.inn b x)) (D4.cuts (a++b)) ((D4.cuts (a++b)).length - 1) 0 ⟨[],[],0,0⟩;have g2:=D4.goS_length (fun x=>spJ 2 (D4.inn b x) (D4.inn a x)) (D4.cuts (a++b)) ((D4.cuts (a++b)).length - 1) 0 ⟨[],[],0,0⟩;have h2:=D4.open_sum (a++b) hv ((D4.cuts (a++b)).length - 1) (Nat.sub_le _ _);have e1:(rgJ 2 b a).length =(D4.goS (fun x=>spJ 2 (D4.inn b x) (D4.inn a x)) (D4.cuts (a++b)) ((D4.cuts (a++b)).length - 1) 0 ⟨[],[],0,0⟩).out.length :=by unfold rgJ;rw [Dim.cuts_comm b a]
 have e2:(rgJ 2 a b).length =(D4.goS (fun x=>spJ 2 (D4.inn a x) (D4.inn b x)) (D4.cuts (a++b)) ((D4.cuts (a++b)).length - 1) 0 ⟨[],[],0,0⟩).out.length :=rfl;rw [e1,e2];rw [Aw] at h2;refine AK (Nat.add_le_add g1 g2) (AK ?_ h2);simp only [Bs,Ag];generalize (D4.cuts (a++b)).length - 1=k
 induction k with
 | zero=>exact Ar _
 | succ k ih=>rw [Ce,BH,BH,BH,B9,B9,B9];have:=j1d (Jb ha (rd (D4.cuts (a++b)) k)) (Jb hb (rd (D4.cuts (a++b)) k));simp only [AY,Bd,Bz,List.sum_nil];rw [D4.inn_append,Aw];omega
open Go.Proofs.Tryz
open Go.Proofs Go.Sort Go.Shelf Go.RowKit Go.Lib
def v2b (P:Int→Int→Bool) (x:Int):Nat→Int→List R4
 | 0,_=>[]
 | k+1,y=>(bif P x y then [⟨x,y,x+1,y+1⟩] else [])++v2b P x k (y+1)
def y1x (P:Int→Int→Bool) (m:Nat) (y:Int):Nat→Int→List R4
 | 0,_=>[]
 | k+1,x=>v2b P x m y++y1x P m y k (x+1)
theorem y4q (P:Int→Int→Bool) (x:Int): ∀k y,(v2b P x k y).length ≤k
 | 0,_=>AD _
 | k+1,y=>by
  have h:=y4q P x k (y+1);unfold v2b;rw [Aw];cases P x y
  ·rw [Aa,Bs];omega
  ·rw [Ab,Bo];omega
theorem x7i (P:Int→Int→Bool) (m:Nat) (y:Int): ∀k x,(y1x P m y k x).length ≤k*m
 | 0,_=>AD _
 | k+1,x=>by have h:=x7i P m y k (x+1);have h2:=y4q P x m y;unfold y1x;rw [Aw,Nat.succ_mul];omega
def uX (L:List R6) (i:Int):List Int:=bif i == 0 then Uy L 1 else Uy L 0
def uY (L:List R6) (i:Int):List Int:=bif i == 0 then Uy L 2 else bif i == 1 then Uy L 2 else Uy L 1
def z1f (xs:List Int):Int:=rd xs (xs.length - 1)
def z0x (xs:List Int):Nat:=(z1f xs - rd xs 0).toNat
def w7o (m:R6) (a p x y:Int):Bool:=bif eqB m o6 then true else j4f m.a m.b m.c m.d m.e m.f (Vf a p x y).a (Vf a p x y).b (Vf a p x y).c
def z2p (S N:List R6) (m:R6) (a own oth x y:Int):Bool:=w7o m a oth x y&&(rh6V S (Vf a own x y).a (Vf a own x y).b (Vf a own x y).c && !rh6V N (Vf a oth x y).a (Vf a oth x y).b (Vf a oth x y).c)
def z9z (S N:List R6) (m:R6) (d p:Int):List R4:=joV 2 (y1x (z2p S N m (dhA d) (x5i d p) (y5i d p)) (z0x (uY S (dhA d))) (rd (uY S (dhA d)) 0) (z0x (uX S (dhA d))) (rd (uX S (dhA d)) 0)) []
def qdR (d p:Int) (t:R4):R7:=⟨wrap .u8 d,(Vf (dhA d) p t.a t.b).a,(Vf (dhA d) p t.a t.b).b,(Vf (dhA d) p t.a t.b).c,(Vf (dhA d) p t.c t.d).a,(Vf (dhA d) p t.c t.d).b,(Vf (dhA d) p t.c t.d).c⟩
def w9g (S N:List R6) (m:R6) (d:Int) (ps:List Int):List R7:=ps.flatMap fun p=>(z9z S N m d p).map (qdR d p)
def u1x (S N:List R6) (m:R6):Nat→Nat→List R7
 | 0,_=>[]
 | k+1,d=>w9g S N m (d:Int) (Uy S (dhA (d:Int)))++u1x S N m k (d+1)
def x8k (S N:List R6) (a b c d e f:Int):List R7:=u1x S N ⟨a,b,c,d,e,f⟩ 6 0
def x3w (S:List R6):Bool:=decide (S.length≤6)&&S.all fun r=>decide (-12≤r.a∧r.a≤12)&&(decide (-12≤r.b∧r.b≤12)&&(decide (-12≤r.c∧r.c≤12)&&(decide (-12≤r.d∧r.d≤12)&&(decide (-12≤r.e∧r.e≤12)&&decide (-12≤r.f∧r.f≤12)))))
def z2v (S N:List R6) (_ _ _ _ _ _:Int):Bool:=x3w S&&decide (N.length≤1000)
theorem j1r (l:List Int):(z1w l).length ≤l.length:=by have h:=Xm l;exact z9r _ _ (h.1.imp fun {a b} k=>by omega) fun x hx=>(h.2 x).1 hx
theorem z7d {S:List R6} (h:x3w S=true) (i:Int):(Uy S i).length ≤12∧(∀x∈Uy S i,-12≤x∧x≤12)∧(Uy S i).Pairwise (· < ·)∧(S≠ []→0<(Uy S i).length):=by
 obtain ⟨h1,h2⟩:=Bn.1 h;have h1:=AA h1;have hl:=j1r (j0l S i);have he:=z8b S i;refine ⟨by unfold Uy;omega,fun x hx=> ?_,(Xm _).1,fun hn=> ?_⟩
 ·obtain ⟨r,hr,k⟩:=AN.1 (((Xm _).2 x).1 hx);have b:=At.1 h2 r hr;simp only [Ac,As] at b;obtain ⟨b1,b2,b3,b4,b5,b6⟩:=b;simp only [AI,BC,Cm] at k;have cr: ∀{u v w:Int},(-12≤u∧u≤12)→(-12≤v∧v≤12)→(-12≤w∧w≤12)→ -12≤z6k u v w i∧z6k u v w i≤12:=fun {u v w} h1 h2 h3=>by
   unfold z6k;cases i == 0
   ·cases i == 1
    ·exact h3
    ·exact h2
   ·exact h1
  rcases k with rfl | rfl
  ·exact cr b1 b2 b3
  ·exact cr b4 b5 b6
 ·cases S with
  | nil=>exact absurd rfl hn
  | cons r S=>have:z6k r.a r.b r.c i∈Uy (r::S) i:=((Xm _).2 _).2 (AN.2 ⟨r,by simp,by simp⟩);exact List.length_pos_of_mem this
theorem y7r (kind:Int) (l m:List R4): ∀(k i:Nat) (out:List R4) (last:List R2) (first:Nat),(jF kind l m k i out last first).length ≤out.length+k*(ysV l m).length
 | 0,i,out,last,first=>by show out.length≤_;omega
 | k+1,i,out,last,first=>by
  have hs:=y8i (ysV l m) ((ysV l m).map (v8n kind l m (rd (xsV l m) i)));unfold jF;cases decide (0<i)&&Qu (y9a kind l m (rd (xsV l m) i)) last
  ·refine AK (y7r kind l m k (i+1) _ _ _) ?_;unfold u9g y9a;rw [Aw,A6,Nat.succ_mul];omega
  ·refine AK (y7r kind l m k (i+1) _ _ _) ?_;unfold v7y;rw [Aw,A6,AZ,BM,Nat.succ_mul];omega
theorem v0o (l:List R4) (h:l.length≤1600):(joV 2 l []).length ≤10240000:=by have h1:=Kp l [];have h2:=y0w l [];have h3:=y7r 2 l [] ((xsV l []).length - 1) 0 [] [] 0;simp only [Bs] at h1 h2 h3;have h4:((xsV l []).length - 1)*(ysV l []).length ≤3200*3200:=Nat.mul_le_mul (by omega) (by omega);unfold joV;omega
def j5a (xs:List Int):Prop:=xs.length≤12∧(∀x∈xs,-12≤x∧x≤12)∧xs.Pairwise (· < ·)∧0<xs.length
theorem z3v {xs:List Int} (h:j5a xs) {i:Nat} (hi:i<xs.length): -12≤rd xs i∧rd xs i≤12:=h.2.1 _ (by rw [Yi hi];exact AM hi)
theorem v2n {S:List R6} (h:x3w S=true) (hn:S≠ []) (i:Int):j5a (uX S i):=by
 unfold uX;cases i == 0
 ·obtain ⟨a,b,c,d⟩:=z7d h 0;exact ⟨a,b,c,d hn⟩
 ·obtain ⟨a,b,c,d⟩:=z7d h 1;exact ⟨a,b,c,d hn⟩
theorem v2m {S:List R6} (h:x3w S=true) (hn:S≠ []) (i:Int):j5a (uY S i):=by
 unfold uY;cases i == 0
 ·cases i == 1
  ·obtain ⟨a,b,c,d⟩:=z7d h 1;exact ⟨a,b,c,d hn⟩
  ·obtain ⟨a,b,c,d⟩:=z7d h 2;exact ⟨a,b,c,d hn⟩
 ·obtain ⟨a,b,c,d⟩:=z7d h 2;exact ⟨a,b,c,d hn⟩
section
variable (S N:List R6) (m:R6) (hS:x3w S=true) (hN:N.length≤1000)
include hS hN
theorem u7x (out:List R7) (d a own oth x:Int) (zs xs ys:List Int) (v15:Int) (hy:j5a ys) (hx: -12≤x∧x≤12): ∀(k:Nat) (y:Int) (acc:List R4),y+(k:Int)=z1f ys→ -12≤y→acc.length+k≤2000→
  ∃n,∀M,Yy (Xd S N m.a m.b m.c m.d m.e m.f) (M+n) (.to (.h3 out d a zs xs ys v15 own oth acc x y))=Yy (Xd S N m.a m.b m.c m.d m.e m.f) M (.to (.h2 out d a zs xs ys v15 own oth (acc++v2b (z2p S N m a own oth) x k y) (x+1)))
 | 0,y,acc,h,_,_=>by
  have _u:=hS;have _v:=hN;have h0:=hy.2.2.2;have hl:=hy.1;refine ⟨1,fun M=> ?_⟩;rw [Zv,show v2b (z2p S N m a own oth) x 0 y=[] from rfl,Az];have e1:wrap .i64 ((ys.length:Int) - 1)=((ys.length - 1:Nat):Int):=by rw [Zk (by omega)];omega
  have e2:rd ys (ys.length - 1)=z1f ys:=rfl;simp (disch:=omega) only [Xd,e1,e2,Zj,Zf,Zt,Zk,Ah,Ab,Aa]
 | k +1,y,acc,h,hy0,ha=>by
  have h0:=hy.2.2.2;have hl:=hy.1;have hz:=z3v hy (show ys.length - 1<ys.length by omega);have fA:z1f ys=rd ys (ys.length - 1):=rfl;have e1:wrap .i64 ((ys.length:Int) - 1)=((ys.length - 1:Nat):Int):=by rw [Zk (by omega)];omega
  have oS: ∀u v w,Qi S u v w=true:=fun _ _ _=>Ai (by have:=AA (Bn.1 hS).1;omega);have oN: ∀u v w,Qi N u v w=true:=fun _ _ _=>Ai (by omega);have hq:=y4q (z2p S N m a own oth) x k (y+1);obtain ⟨n,hn⟩:=u7x out d a own oth x zs xs ys v15 hy hx k (y+1) (acc++(bif z2p S N m a own oth x y then [⟨x,y,x+1,y+1⟩] else [])) (by omega) (by omega) (by
   rw [Aw];cases z2p S N m a own oth x y
   ·rw [Aa,Bs];omega
   ·rw [Ab,Bo];omega)
  refine ⟨n+1,fun M=> ?_⟩;have eR:v2b (z2p S N m a own oth) x (k+1) y=(bif z2p S N m a own oth x y then [⟨x,y,x+1,y+1⟩] else [])++v2b (z2p S N m a own oth) x k (y+1):=rfl;rw [eR,←AL,←hn M,←AB,Zv]
  congr 1
  have m1:decide (0+acc.length=acc.length)=true:=Ai (by omega);have b4:Nat.beq 4 4=true:=rfl;have ez:((m.a == 0&&(m.b == 0&&m.c == 0))&&(m.d == 0&&(m.e == 0&&m.f == 0)))=eqB m o6:=by simp only [eqB,o6,Ah]
  unfold z2p w7o;cases q0:eqB m o6 with
  | true=>
   cases q1:rh6V S (Vf a own x y).a (Vf a own x y).b (Vf a own x y).c with
   | true=>
    cases q2:rh6V N (Vf a oth x y).a (Vf a oth x y).b (Vf a oth x y).c with
    | true=>simp (disch:=omega) only [Xd,e1,←fA,ez,q0,q1,q2,oS,oN,Zg,Zj,Zf,Zi,Zk,Ah,Aj,AE,Ab,Aa,Az]
    | false=>simp (disch:=omega) only [Xd,e1,←fA,ez,q0,q1,q2,oS,oN,Zg,Zj,Zf,Zi,Zk,Zh,m1,b4,Ah,Aj,AG,Ab,Aa]
   | false=>simp (disch:=omega) only [Xd,e1,←fA,ez,q0,q1,oS,oN,Zg,Zj,Zf,Zi,Zk,Ah,Aj,A5,Ab,Aa,Az]
  | false=>
   cases q3:j4f m.a m.b m.c m.d m.e m.f (Vf a oth x y).a (Vf a oth x y).b (Vf a oth x y).c with
   | false=>simp (disch:=omega) only [Xd,e1,←fA,ez,q0,q3,oS,oN,Zg,Zj,Zf,Zi,Zk,Ah,Aj,A5,Ab,Aa,Az]
   | true=>
    cases q1:rh6V S (Vf a own x y).a (Vf a own x y).b (Vf a own x y).c with
    | true=>
     cases q2:rh6V N (Vf a oth x y).a (Vf a oth x y).b (Vf a oth x y).c with
     | true=>simp (disch:=omega) only [Xd,e1,←fA,ez,q0,q1,q2,q3,oS,oN,Zg,Zj,Zf,Zi,Zk,Ah,Aj,AE,Ab,Aa,Az]
     | false=>simp (disch:=omega) only [Xd,e1,←fA,ez,q0,q1,q2,q3,oS,oN,Zg,Zj,Zf,Zi,Zk,Zh,m1,b4,Ah,Aj,AG,Ab,Aa]
    | false=>simp (disch:=omega) only [Xd,e1,←fA,ez,q0,q1,q3,oS,oN,Zg,Zj,Zf,Zi,Zk,Ah,Aj,A5,Ab,Aa,Az]
theorem u7y (out:List R7) (d a own oth:Int) (zs xs ys:List Int) (v15:Int) (hxs:j5a xs) (hy:j5a ys): ∀(k:Nat) (x:Int) (acc:List R4),x+(k:Int)=z1f xs→ -12≤x→acc.length+24*k≤1000→
  ∃n,∀M,Yy (Xd S N m.a m.b m.c m.d m.e m.f) (M+n) (.to (.h2 out d a zs xs ys v15 own oth acc x))=Yy (Xd S N m.a m.b m.c m.d m.e m.f) M (.to (.h4 out d a zs xs ys v15 (joV 2 (acc++y1x (z2p S N m a own oth) (z0x ys) (rd ys 0) k x) []) 0))
 | 0,x,acc,h,_,ha=>by
  have _u:=hS;have _v:=hN;have h0:=hxs.2.2.2;have hl:=hxs.1;refine ⟨1,fun M=> ?_⟩;rw [Zv,show y1x (z2p S N m a own oth) (z0x ys) (rd ys 0) 0 x=[] from rfl,Az];have e1:wrap .i64 ((xs.length:Int) - 1)=((xs.length - 1:Nat):Int):=by rw [Zk (by omega)];omega
  have e2:rd xs (xs.length - 1)=z1f xs:=rfl;have oJ:Qe 2 acc []=true:=Ai (by simp only [Bs];omega);simp (disch:=omega) only [Xd,e1,e2,oJ,Zg,Zj,Zf,Zt,Ah,Ab,Aa]
 | k+1,x,acc,h,hx0,ha=>by
  have h0:=hxs.2.2.2;have hl:=hxs.1;have hy0:=hy.2.2.2;have hz:=z3v hxs (show xs.length - 1<xs.length by omega);have fA:z1f xs=rd xs (xs.length - 1):=rfl;have hyl:z1f ys=rd ys (ys.length - 1):=rfl;have hz1:=z3v hy (show ys.length - 1<ys.length by omega);have hz2:=z3v hy hy0;have hle:rd ys 0≤z1f ys:=by
   rw [hyl];rcases BG (ys.length - 1) with q | q
   ·rw [q];exact AV _
   ·exact Cu (z9s hy.2.2.1 q (by omega))
  have hsp:rd ys 0+(z0x ys:Int)=z1f ys:=by unfold z0x;omega
  have hs24:z0x ys≤24:=by unfold z0x;omega
  have e1:wrap .i64 ((xs.length:Int) - 1)=((xs.length - 1:Nat):Int):=by rw [Zk (by omega)];omega
  have hr:=y4q (z2p S N m a own oth) x (z0x ys) (rd ys 0);obtain ⟨n1,h1⟩:=u7x S N m hS hN out d a own oth x zs xs ys v15 hy (by omega) (z0x ys) (rd ys 0) acc hsp (by omega) (by omega);obtain ⟨n2,h2⟩:=u7y out d a own oth zs xs ys v15 hxs hy k (x+1) (acc++v2b (z2p S N m a own oth) x (z0x ys) (rd ys 0)) (by omega) (by omega) (by rw [Aw];omega);refine ⟨n2+n1+1,fun M=> ?_⟩;have eG:y1x (z2p S N m a own oth) (z0x ys) (rd ys 0) (k+1) x=v2b (z2p S N m a own oth) x (z0x ys) (rd ys 0)++y1x (z2p S N m a own oth) (z0x ys) (rd ys 0) k (x+1):=rfl;have eS:Xd S N m.a m.b m.c m.d m.e m.f (.h2 out d a zs xs ys v15 own oth acc x)=.to (.h3 out d a zs xs ys v15 own oth acc x (rd ys 0)):=by have z0:decide ((0:Int)≤0∧0<(ys.length:Int))=true:=Ai (by omega);simp (disch:=omega) only [Xd,e1,←fA,z0,Zj,Zf,Zi,Ah,Ab]
  rw [eG,←AL,←h2 M,←h1 (M+n2),show M+(n2+n1+1)=M+n2+n1+1 by omega,Zv,eS]
theorem u7w (d a:Int) (zs xs ys:List Int) (i:Nat) (hi:i<zs.length) (hz:zs.length≤12) (R:List R4) (hR:R.length≤10240000) (ha:a=dhA d): ∀(k j:Nat) (out:List R7),j+k=R.length→out.length≤1000000000+j→
  ∃n,∀M,Yy (Xd S N m.a m.b m.c m.d m.e m.f) (M+n) (.to (.h4 out d a zs xs ys (i:Int) R (j:Int)))=Yy (Xd S N m.a m.b m.c m.d m.e m.f) M (.to (.h1 (out++(R.drop j).map (qdR d (rd zs i))) d a zs xs ys ((i+1:Nat):Int)))
 | 0,j,out,h,_=>by have _u:=hS;have _v:=hN;refine ⟨1,fun M=> ?_⟩;rw [Zv,Au (by omega),Bd,Az];simp (disch:=omega) only [Xd,Zt,Zk,Zx,Aa]
 | k+1,j,out,h,ho=>by
  have hj:j<R.length:=by omega
  obtain ⟨n,hn⟩:=u7w d a zs xs ys i hi hz R hR ha k (j+1) (out++[qdR d (rd zs i) (rd R j)]) (by omega) (by simp only [Aw,Bo];omega);refine ⟨n+1,fun M=> ?_⟩;rw [Yg hj,AY,←AB,Zv,show out++qdR d (rd zs i) (rd R j)::(R.drop (j+1)).map (qdR d (rd zs i))=(out++[qdR d (rd zs i) (rd R j)])++(R.drop (j+1)).map (qdR d (rd zs i)) by simp,←hn M]
  congr 1
  have m1:decide (0+out.length=out.length)=true:=Ai (by omega);have b7:Nat.beq 7 7=true:=rfl;subst ha;simp (disch:=omega) only [Xd,qdR,Zi,Zf,Zh,Zk,Zx,Zj,m1,b7,Ah,Aj,Ab]
end
theorem z5m {xs:List Int} (h:j5a xs):z0x xs≤24∧rd xs 0+(z0x xs:Int)=z1f xs:=by
 have h0:=h.2.2.2;have h1:=z3v h (show xs.length - 1<xs.length by omega);have h2:=z3v h h0;have hl:z1f xs=rd xs (xs.length - 1):=rfl;have hle:rd xs 0≤z1f xs:=by
  rw [hl];rcases BG (xs.length - 1) with q | q
  ·rw [q];exact AV _
  ·exact Cu (z9s h.2.2.1 q (by omega))
 unfold z0x;omega
theorem x7m {S:List R6} (hS:x3w S=true) (hn:S≠ []) (N:List R6) (m:R6) (d p:Int):(z9z S N m d p).length ≤10240000:=by have h1:=(z5m (v2n hS hn (dhA d))).1;have h2:=(z5m (v2m hS hn (dhA d))).1;refine v0o _ (AK (x7i _ _ _ _ _) ?_);exact AK (Nat.mul_le_mul h1 h2) (by decide)
section
variable (S N:List R6) (m:R6) (hS:x3w S=true) (hN:N.length≤1000)
include hS hN
theorem u7z (d:Nat) (hd:d<6): ∀(k i:Nat) (out:List R7),i+k=(Uy S (dhA (d:Int))).length →out.length+10240000*k≤900000000→
  ∃n,∀M,Yy (Xd S N m.a m.b m.c m.d m.e m.f) (M+n) (.to (.h1 out (d:Int) (dhA (d:Int)) (Uy S (dhA (d:Int))) (uX S (dhA (d:Int))) (uY S (dhA (d:Int))) (i:Int)))=Yy (Xd S N m.a m.b m.c m.d m.e m.f) M (.to (.h0 (out++w9g S N m (d:Int) ((Uy S (dhA (d:Int))).drop i)) ((d+1:Nat):Int)))
 | 0,i,out,h,_=>by have hl:=(z7d hS (dhA (d:Int))).1;refine ⟨1,fun M=> ?_⟩;rw [Zv,Au (by omega),show w9g S N m (d:Int) []=[] from rfl,Az];simp (disch:=omega) only [Xd,Zt,Zk,Zx,Aa]
 | k+1,i,out,h,ho=>by
  have hl:=(z7d hS (dhA (d:Int))).1;have hi:i<(Uy S (dhA (d:Int))).length :=by omega
  have hn:S≠ []:=fun e=>by
   have:(Uy S (dhA (d:Int))).length =0:=by rw [e];rfl
   omega
  have hx:=v2n hS hn (dhA (d:Int));have hy:=v2m hS hn (dhA (d:Int));have hb:=(z7d hS (dhA (d:Int))).2.1 (rd (Uy S (dhA (d:Int))) i) (by rw [Yi hi];exact AM hi);obtain ⟨s1,s2⟩:=z5m hx;have h0x:=hx.2.2.2;have h0y:=hy.2.2.2;have hx0:=z3v hx h0x;have hf:=x7m hS hn N m (d:Int) (rd (Uy S (dhA (d:Int))) i);obtain ⟨n1,h1⟩:=u7y S N m hS hN out (d:Int) (dhA (d:Int)) (x5i (d:Int) (rd (Uy S (dhA (d:Int))) i)) (y5i (d:Int) (rd (Uy S (dhA (d:Int))) i)) (Uy S (dhA (d:Int))) (uX S (dhA (d:Int))) (uY S (dhA (d:Int))) (i:Int) hx hy (z0x (uX S (dhA (d:Int)))) (rd (uX S (dhA (d:Int))) 0) [] s2 (by omega) (by simp only [Bs];omega);obtain ⟨n2,h2⟩:=u7w S N m hS hN (d:Int) (dhA (d:Int)) (Uy S (dhA (d:Int))) (uX S (dhA (d:Int))) (uY S (dhA (d:Int))) i hi hl (z9z S N m (d:Int) (rd (Uy S (dhA (d:Int))) i)) (by omega) rfl (z9z S N m (d:Int) (rd (Uy S (dhA (d:Int))) i)).length 0 out (Ag _) (by omega);obtain ⟨n3,h3⟩:=u7z d hd k (i+1) (out++(z9z S N m (d:Int) (rd (Uy S (dhA (d:Int))) i)).map (qdR (d:Int) (rd (Uy S (dhA (d:Int))) i))) (by omega) (by rw [Aw,A6];omega);refine ⟨n3+n2+n1+1,fun M=> ?_⟩;rw [AX] at h2;have eP:w9g S N m (d:Int) (rd (Uy S (dhA (d:Int))) i::(Uy S (dhA (d:Int))).drop (i+1))=(z9z S N m (d:Int) (rd (Uy S (dhA (d:Int))) i)).map (qdR (d:Int) (rd (Uy S (dhA (d:Int))) i))++w9g S N m (d:Int) ((Uy S (dhA (d:Int))).drop (i+1)):=rfl;have eS:Xd S N m.a m.b m.c m.d m.e m.f (.h1 out (d:Int) (dhA (d:Int)) (Uy S (dhA (d:Int))) (uX S (dhA (d:Int))) (uY S (dhA (d:Int))) (i:Int))=.to (.h2 out (d:Int) (dhA (d:Int)) (Uy S (dhA (d:Int))) (uX S (dhA (d:Int))) (uY S (dhA (d:Int))) (i:Int) (x5i (d:Int) (rd (Uy S (dhA (d:Int))) i)) (y5i (d:Int) (rd (Uy S (dhA (d:Int))) i)) [] (rd (uX S (dhA (d:Int))) 0)):=by have z0:decide ((0:Int)≤0∧0<((uX S (dhA (d:Int))).length :Int))=true:=Ai (by omega);unfold x5i y5i;cases q:(Int.tmod (d:Int) 2 == 1) <;> simp (disch:=omega) only [Xd,q,z0,Zj,Zf,Zi,Ah,Ab,Aa]
  rw [Yg hi,eP,←AL,←h3 M,←h2 (M+n3),show M+(n3+n2+n1+1)=M+n3+n2+n1+1 by omega,Zv,eS];have h1:=h1 (M+n3+n2);rw [Bc] at h1;exact h1
theorem u8a : ∀(k d:Nat) (out:List R7),d+k=6→out.length≤122880000*d→
  ∃n,Yy (Xd S N m.a m.b m.c m.d m.e m.f) n (.to (.h0 out (d:Int)))=.ret [.dat (out++u1x S N m k d).length (Zz (out++u1x S N m k d))]
 | 0,d,out,h,_=>by have _u:=hS;have _v:=hN;refine ⟨1,?_⟩;rw [Zv,show u1x S N m 0 d=[] from rfl,Az];simp (disch:=omega) only [Xd,Zt,Aa,Zp]
 | k+1,d,out,h,ho=>by
  have hd:d<6:=by omega
  have hl:=(z7d hS (dhA (d:Int))).1;obtain ⟨n1,h1⟩:=u7z S N m hS hN d hd (Uy S (dhA (d:Int))).length 0 out (Ag _) (by omega);have hP:(w9g S N m (d:Int) (Uy S (dhA (d:Int)))).length ≤10240000*(Uy S (dhA (d:Int))).length :=by
   have go: ∀ps:List Int,(∀p∈ps,(z9z S N m (d:Int) p).length ≤10240000)→(w9g S N m (d:Int) ps).length ≤10240000*ps.length:=fun ps=>by
    induction ps with
    | nil=>intro _;exact AD _
    | cons p ps ih=>intro hp;have i1:=ih fun x hx=>hp x (by simp [hx]);have i2:=hp p (by simp);show ((z9z S N m (d:Int) p).map (qdR (d:Int) p)++w9g S N m (d:Int) ps).length ≤_;rw [Aw,A6,AU];omega
   by_cases hn:S=[]
   ·subst hn;exact AD _
   ·exact go _ fun p _=>x7m hS hn N m (d:Int) p
  obtain ⟨n2,h2⟩:=u8a k (d+1) (out++w9g S N m (d:Int) (Uy S (dhA (d:Int)))) (by omega) (by rw [Aw];omega);refine ⟨n2+n1+1,?_⟩;have hL:=AA (Bn.1 hS).1;have o9: ∀i,Uj S i=true:=fun i=>Ai (by omega);have e0:Xd S N m.a m.b m.c m.d m.e m.f (.h0 out (d:Int))=.to (.h1 out (d:Int) (dhA (d:Int)) (Uy S (dhA (d:Int))) (uX S (dhA (d:Int))) (uY S (dhA (d:Int))) ((0:Nat):Int)):=by
   have ed:wrap .i64 (Int.tdiv (d:Int) 2)=dhA (d:Int):=rfl;unfold uX uY;cases q1:(dhA (d:Int) == 0)
   ·cases q2:(dhA (d:Int) == 1) <;> (simp (disch:=omega) only [Xd,ed,q1,q2,o9,Zg,Zi,Ab,Aa];rfl)
   ·simp (disch:=omega) only [Xd,ed,q1,o9,Zg,Zi,Ab,Aa];rfl
  rw [Zv,e0,h1 n2,AX,show u1x S N m (k+1) d=w9g S N m (d:Int) (Uy S (dhA (d:Int)))++u1x S N m k (d+1) from rfl,←AL];exact h2
end
theorem j3k (S N:List R6) (a b c d e f:Int) (h:z2v S N a b c d e f=true): ∃n,Yy (Xd S N a b c d e f) n (y4u S N a b c d e f)=.ret [.dat (x8k S N a b c d e f).length (Zz (x8k S N a b c d e f))]:=by obtain ⟨h1,h2⟩:=Bn.1 h;obtain ⟨n,hn⟩:=u8a S N ⟨a,b,c,d,e,f⟩ h1 (AA h2) 6 0 [] rfl (AD _);rw [Bc,z4q] at hn;unfold y4u x8k;exact ⟨n,hn⟩
def fRlq :List AVal→Option (AVal×Bool)
 | [a0,a1,.agg [.int .i64 cH,.int .i64 cI,.int .i64 cJ,.int .i64 cK,.int .i64 cL,.int .i64 cM]]=>match asL R6 a0,asL R6 a1 with
  | some (L0,g0,n0),some (L1,g1,n1)=>some (.dat (x8k L0 L1 cH cI cJ cK cL cM).length (Zz (x8k L0 L1 cH cI cJ cK cL cM)),isT R6 n0 g0&&(isT R6 n1 g1&&(z2v L0 L1 cH cI cJ cK cL cM)))
  | _,_=>none
 | _=>none
theorem j6q {S:Specs} (hS:Zu prog S):Zu prog (S.with nRlq fRlq):=by
 refine z0v hS (by kernel_rfl) fun args v h=> ?_;unfold fRlq at h;split at h
 ·rename_i a0 a1 cH cI cJ cK cL cM;split at h
  ·rename_i L0 g0 n0 L1 g1 n1 e0 e1;simp only [Ae,Ad,Ac] at h;obtain ⟨rfl,ho0,ho1,hw⟩:=h;obtain ⟨N,hN⟩:=j3k L0 L1 cH cI cJ cK cL cM hw;exact ⟨_,_,(.cons (Yh e0 ho0) (.cons (Yh e1 ho1) (.cons (.refl _) .nil))),rfl,u1u L0 L1 cH cI cJ cK cL cM N _ hN,3,rfl⟩
  ·cases h
 ·cases h
def Vr3q :Specs:=(Vr3.with nRlq fRlq)
theorem j8n :Zu prog Vr3q:=(j6q x2n)
inductive rlwS where
 | h0 (v4:List R6) (v5:Int)
def rlwC (l0:List Pa):rlwS→Cfg
 | .h0 v4 v5=>⟨⟨34,0,true⟩,none,(Zc prog 15 [1,1,1,0,1,0,0] 0),none,(Zy prog 14),⟨Ya [(0,(.dat l0.length (Zz l0))),(4,(.dat v4.length (Zz v4))),(5,(ii v5))],Vd [] 0,0,[],true⟩,[],.leaf⟩
def rlwN0 :List (Option (List Nat)):=[some [0,4,5]]
def rlwM0 :List (Option (List Nat)):=[]
def z7q (l0:List Pa):rlwS→Xu rlwS
 | .h0 v4 v5=>(bif (decide (v5<(l0.length:Int))) then (bif ((decide (0≤v5∧v5<(l0.length:Int)))&&true) then (bif (z9d 2 (cvT v4) (cvT (rd l0 v5.toNat).s)) then (bif ((Qj 2 (cvT v4) (cvT (rd l0 v5.toNat).s)) != 0) then (.ret [.nils,(.int .i64 (Qj 2 (cvT v4) (cvT (rd l0 v5.toNat).s)))]) else (.to (.h0 (z5g 2 (cvT v4) (cvT (rd l0 v5.toNat).s)) (wrap .i64 (v5+1))))) else .stuck) else .stuck) else (.ret [(.dat v4.length (Zz v4)),(.int .i64 0)]))
def y4r (l0:List Pa):Xu rlwS:=(bif (Ji (cvT l0)) then (bif ((z8i (cvT l0)) != 0) then (.ret [.nils,(.int .i64 (z8i (cvT l0)))]) else (.to (.h0 ([]:List R6) 0))) else .stuck)
theorem w9c (l0:List Pa): ∀s,Xq prog (Zy prog 15) (rlwC l0) (rlwC l0 s) (z7q l0 s)
 | .h0 v4 v5=>(lb (fun k0=>(lo fun aH=>(lo fun aY=>(lb (fun k1=>(lr 34 15 [1,1,1,0,1,0,0,1,0,0,1,0,1,0,0] 1 14 [(2,.nils),(3,(ii (Qj 2 (cvT v4) (cvT (rd l0 (tn v5)).s))))] (sl x2n 40 [] ⟨[],[],[some [2,3]],[]⟩ ⟨[],[],[]⟩ (bl 2 3) (tt k1 (pp (pp (xr v4) (pp (xI R6 (rd l0 (tn v5)).s.length (Zz (rd l0 (tn v5)).s)) (xw aY))) (ww aH (tt k0 nn))))))) (fun k1=>(sl x2n 46 [] ⟨[],[],rlwN0,rlwM0⟩ ⟨[],[],[]⟩ (bl 2 1) (tt k1 (pp (pp (xr v4) (pp (xI R6 (rd l0 (tn v5)).s.length (Zz (rd l0 (tn v5)).s)) (xw aY))) (ww aH (tt k0 nn)))))))))) (fun k0=>(lr 34 3 [1,1,1,1,0] 1 14 [(2,(.dat v4.length (Zz v4))),(3,(ii 0))] (sl x2n 16 [] ⟨[],[],[some [2,3]],[]⟩ ⟨[],[],[]⟩ [false] (tt k0 nn)))))
theorem w0e (l0:List Pa):Xq prog (Zy prog 15) (rlwC l0) (Zb prog 15 [(.dat l0.length (Zz l0))] true []) (y4r l0):=(lo fun bJ=>(lb (fun k0=>(lr 34 15 [1,0,1,0,0] 1 14 [(2,.nils),(3,(ii (z8i (cvT l0))))] (sl x2n 20 [] ⟨[],[],[some [2,3]],[]⟩ ⟨[],[],[]⟩ [true] (pp (pp (xr l0) (xw bJ)) (tt k0 (pp (pp (xr l0) (xw bJ)) nn)))))) (fun k0=>(sl x2n 25 [] ⟨[],[],rlwN0,rlwM0⟩ ⟨[(4,.list 0 (Zz ([]:List R6)))],[],[]⟩ [false] (tt k0 (pp (pp (xr l0) (xw bJ)) nn))))))
theorem u1r (l0:List Pa) (n:Nat) (vs:List AVal) (h:Yy (z7q l0) n (y4r l0)=.ret vs):Jx prog (Zy prog 15) (Zb prog 15 [(.dat l0.length (Zz l0))] true []) vs:=by have:=Zd (w9c l0) n _ (w0e l0);rwa [h] at this
inductive swoS where
def swoC (l0:List Pa):swoS→Cfg
 :=nofun
def x8w (l0:List Pa):swoS→Xu swoS
 :=nofun
def y3w (l0:List Pa):Xu swoS:=(bif (Jf (cvT l0)) then (bif ((z2l (cvT l0)) != 0) then (.ret [.nils,(.int .i64 (z2l (cvT l0)))]) else (bif (Qf (cvT l0)) then (.ret [(.dat (Yv (cvT l0)).length (Zz (Yv (cvT l0)))),(.int .i64 (z0e (cvT l0)))]) else .stuck)) else .stuck)
theorem w7t (l0:List Pa): ∀s,Xq prog (Zy prog 14) (swoC l0) (swoC l0 s) (x8w l0 s)
 :=nofun
theorem x8x (l0:List Pa):Xq prog (Zy prog 14) (swoC l0) (Zb prog 14 [(.dat l0.length (Zz l0))] true []) (y3w l0):=(lo fun bJ=>(lb (fun k0=>(lr 14 14 [1,0,1,1,0,0] 1 14 [(2,.nils),(3,(ii (z2l (cvT l0))))] (sl Wf 24 [] ⟨[],[],[some [2,3]],[]⟩ ⟨[],[],[]⟩ [true] (tt k0 (pp (pp (xr l0) (xw bJ)) nn))))) (fun k0=>(lo fun o0=>(lr 14 3 [1,1,1,1,0] 1 14 [(2,(.dat (Yv (cvT l0)).length (Zz (Yv (cvT l0))))),(3,(ii (z0e (cvT l0))))] (sl Wf 28 [] ⟨[],[],[some [2,3]],[]⟩ ⟨[],[],[]⟩ [false] (pp (pp (xr l0) (xw o0)) (tt k0 (pp (pp (xr l0) (xw bJ)) nn)))))))))
theorem u0b (l0:List Pa) (n:Nat) (vs:List AVal) (h:Yy (x8w l0) n (y3w l0)=.ret vs):Jx prog (Zy prog 14) (Zb prog 14 [(.dat l0.length (Zz l0))] true []) vs:=by have:=Zd (w7t l0) n _ (x8x l0);rwa [h] at this
def z8n (l:List Pa):Int:=bif z2l l != 0 then z2l l else z0e l
def z4v (l:List Pa):List R6:=z4t (z8n l) (whL [] l)
def z8m (l:List Pa):Bool:=smP l
theorem j1h (l:List Pa) (h:z8m l=true): ∃n,Yy (x8w l) n (y3w l)=.ret (bif z2l l != 0 then [.nils,.int .i64 (z2l l)] else [.dat (Yv l).length (Zz (Yv l)),.int .i64 (z0e l)]):=⟨0,by
 have h:smP l=true:=h;have o2:Qf l=true:=Ai (z4y h);unfold y3w;simp only [Zg,show Jf l=true from h,o2,Ab];cases z2l l != 0 <;> rfl⟩
def fSwo :List AVal→Option (AVal×Bool)
 | [a0]=>match asL Pa a0 with
  | some (L0,g0,n0)=>some (.tup [.dat (z4v L0).length (Zz (z4v L0)),.int .i64 (z8n L0)],isT Pa n0 g0&&(z8m L0))
  | _=>none
 | _=>none
theorem j1g (l:List Pa) (ρ:Rho) (u:Value) (hu:Yw ρ (z0h (bif z2l l != 0 then [.nils,.int .i64 (z2l l)] else [.dat (Yv l).length (Zz (Yv l)),.int .i64 (z0e l)])) u):Yw ρ (.tup [.dat (z4v l).length (Zz (z4v l)),.int .i64 (z8n l)]) u:=by
 unfold z4v z8n;rcases Yx (z2l l != 0) with q | q
 ·rw [q,Ab] at hu ⊢;refine Kx (z2l l) (whL [] l) ρ u ?_;rw [Wx _ q];exact hu
 ·rw [q,Aa] at hu ⊢;exact hu
theorem j6c {S:Specs} (hS:Zu prog S):Zu prog (S.with v6h fSwo):=by
 refine w3d hS (by kernel_rfl) fun args v h=> ?_;unfold fSwo at h;split at h
 ·rename_i a0;split at h
  ·rename_i L0 g0 n0 e0;simp only [Ae,Ad,Ac] at h;obtain ⟨rfl,ho0,hw⟩:=h;obtain ⟨N,hN⟩:=j1h L0 hw;exact ⟨_,_,(.cons (Yh e0 ho0) .nil),j1g L0,u0b L0 N _ hN,3,by cases z2l L0 != 0 <;> rfl⟩
  ·cases h
 ·cases h
def rwE :List R6→List Pa→Int
 | _,[]=>0
 | acc,x::r=>bif Qj 2 acc x.s != 0 then Qj 2 acc x.s else rwE (z5g 2 acc x.s) r
def rwL :List R6→List Pa→List R6
 | acc,[]=>acc
 | acc,x::r=>rwL (z5g 2 acc x.s) r
def z0y (l:List Pa):Int:=bif z8i l != 0 then z8i l else rwE [] l
def Vv (l:List Pa):List R6:=z4t (z0y l) (rwL [] l)
def z2u (l:List Pa):Bool:=smP l
theorem w5h : ∀{l:List Pa},rkE l=0→ ∀x∈l,Wr x.s=0
 | [],_,x,hx=>by cases hx
 | y::l,h,x,hx=>by
  unfold rkE at h;rcases Yx (Wr y.s != 0) with q | q
  ·rw [q,Ab] at h;rw [h] at q;cases q
  ·rw [q,Aa] at h;rcases AI.1 hx with rfl | hx
   ·simpa using q
   ·exact w5h h x hx
theorem z9c {l:List Pa} (h:z8i l=0):l.length≤50∧rkE l=0∧rkG l l.length 0=0:=by
 unfold z8i at h;by_cases g:50<l.length
 ·rw [Ai g] at h;cases h
 ·rw [An g,Aa] at h;rcases Yx (rkE l != 0) with q | q
  ·rw [q,Ab] at h;rw [h] at q;cases q
  ·rw [q,Aa] at h;exact ⟨by omega,by simpa using q,h⟩
theorem v4u {l:List Pa} (h:z8i l=0) {i:Nat} (hi:i<l.length):Wr (rd l i).s =0∧(rd l i).s.length ≤400:=by have e:=w5h (z9c h).2.1 (rd l i) (by rw [Yi hi];exact AM hi);exact ⟨e,z5w (by rw [y0k,e];rfl)⟩
theorem v4y (k:Int) (l m:List R6):(z5g k l m).length ≤400:=by
 unfold z5g z4t;rcases Yx (Qj k l m != 0) with q | q
 ·rw [q];exact AD _
 ·rw [q,Aa];rcases x1v k l m with h | h
  ·exact h
  ·have e:Qj k l m=0:=by simpa using q
   unfold Qj at e;rw [h] at e;rcases Yx (Wr l != 0) with a | a
   ·rw [a,Ab] at e;rw [e] at a;cases a
   rcases Yx (Wr m != 0) with b | b
   ·rw [a,b,Aa,Ab] at e;rw [e] at b;cases b
   rw [a,b] at e;cases e
theorem v4e : ∀(l:List Pa) (acc:List R6),acc.length≤400→(rwL acc l).length ≤400
 | [],_,h=>h
 | x::r,acc,_=>v4e r _ (v4y 2 acc x.s)
theorem v4s (l:List Pa):(Vv l).length ≤400:=by
 unfold Vv z4t;cases z0y l != 0
 ·exact v4e l [] (AD _)
 ·exact AD _
theorem u7u (l:List Pa) (hl:z8i l=0): ∀(k i:Nat) (acc:List R6),i+k=l.length→acc.length≤400→ ∃n,Yy (z7q l) n (.to (.h0 acc (i:Int)))=.ret (z6p (rwE acc (l.drop i)) (rwL acc (l.drop i)))
 | 0,i,acc,h,_=>by have h5:=(z9c hl).1;rw [Au (by omega)];refine ⟨1,?_⟩;rw [Zv];simp (disch:=omega) only [z7q,Zt,Aa,Zp];rfl
 | k+1,i,acc,h,ha=>by
  have h5:=(z9c hl).1;have hi:i<l.length:=by omega
  have hs:=(v4u hl hi).2;obtain ⟨n,hn⟩:=u7u l hl k (i+1) (z5g 2 acc (rd l i).s) (by omega) (v4y _ _ _);refine ⟨n+1,?_⟩;rw [Zv,Yg hi];have oJ:z9d 2 acc (rd l i).s =true:=Ys ⟨w6j (by omega),w6j (by omega)⟩;have e:z7q l (.h0 acc (i:Int))=bif Qj 2 acc (rd l i).s != 0 then .ret [.nils,.int .i64 (Qj 2 acc (rd l i).s)] else .to (.h0 (z5g 2 acc (rd l i).s) ((i+1:Nat):Int)):=by simp (disch:=omega) only [z7q,Zg,oJ,Zi,Zf,Zk,Zx,Zj,Ah,Ab]
  rw [e];unfold rwE rwL;rcases Yx (Qj 2 acc (rd l i).s != 0) with q | q
  ·rw [q,Ab,Ab,Zp,Wx _ q]
  ·rw [q,Aa,Aa,hn]
theorem j3h (l:List Pa) (h:z2u l=true): ∃n,Yy (z7q l) n (y4r l)=.ret (z6p (z0y l) (rwL [] l)):=by
 have h:smP l=true:=h;unfold y4r z0y;simp only [Zg,show Ji l=true from h,Ab];rcases Yx (z8i l != 0) with q | q
 ·exact ⟨0,by rw [q,Ab,Ab,Wx _ q];rfl⟩
 ·obtain ⟨n,hn⟩:=u7u l (by simpa using q) l.length 0 [] (Ag _) (AD _);exact ⟨n,by rw [q,Aa,Aa];exact hn⟩
def fRlw :List AVal→Option (AVal×Bool)
 | [a0]=>match asL Pa a0 with
  | some (L0,g0,n0)=>some (.tup [.dat (Vv L0).length (Zz (Vv L0)),.int .i64 (z0y L0)],isT Pa n0 g0&&(z2u L0))
  | _=>none
 | _=>none
theorem v7t {S:Specs} (hS:Zu prog S):Zu prog (S.with nRlw fRlw):=by
 refine w3d hS (by kernel_rfl) fun args v h=> ?_;unfold fRlw at h;split at h
 ·rename_i a0;split at h
  ·rename_i L0 g0 n0 e0;simp only [Ae,Ad,Ac] at h;obtain ⟨rfl,ho0,hw⟩:=h;obtain ⟨N,hN⟩:=j3h L0 hw;exact ⟨_,_,(.cons (Yh e0 ho0) .nil),Kx _ _,u1r L0 N _ hN,3,z1c _ _⟩
  ·cases h
 ·cases h
theorem twi_id (L:List R6):v2o L=L:=rfl
def Jt (l:List Pa):List Pa:=l
def z8u (l:List Pa):Bool:=smP l
theorem u7o (l:List Pa) (hs:smP l=true): ∀(k i:Nat) (acc:List Pa),i+k=l.length→acc=l.take i→ ∃n,Yy (y1g l) n (.to (.h0 acc (i:Int)))=.ret [.dat l.length (Zz l)]
 | 0,i,acc,h,ha=>by have hl:=z4y hs;refine ⟨1,?_⟩;rw [Zv,ha,AP (by omega)];simp (disch:=omega) only [y1g,Zt,Aa,Zp]
 | k+1,i,acc,h,ha=>by
  have hl:=z4y hs;have hi:i<l.length:=by omega
  have hS:=v3l hs hi;have hle:acc.length=i:=by rw [ha,AZ];omega
  obtain ⟨n,hn⟩:=u7o l hs k (i+1) (acc++[rd l i]) (by omega) (by
   rw [ha,Bg];have:l[i]? =some (rd l i):=by rw [Yi hi];exact Ao _
   rw [this];rfl)
  refine ⟨n+1,?_⟩;rw [Zv,←hn]
  congr 1
  have m1:decide (0+acc.length=acc.length)=true:=Ai (by omega);have b7:Nat.beq 7 7=true:=rfl;have oT:z8l (rd l i).s =true:=Ai hS;simp (disch:=omega) only [y1g,oT,twi_id,Zg,Zi,Zf,Zh,Zk,Zx,Zj,m1,b7,Ah,Aj,Ab]
theorem j3c (l:List Pa) (h:z8u l=true): ∃n,Yy (y1g l) n (x3i l)=.ret [.dat (Jt l).length (Zz (Jt l))]:=u7o l h l.length 0 [] (Ag _) rfl
def fRtw :List AVal→Option (AVal×Bool)
 | [a0]=>match asL Pa a0 with
  | some (L0,g0,n0)=>some (.dat (Jt L0).length (Zz (Jt L0)),isT Pa n0 g0&&(z8u L0))
  | _=>none
 | _=>none
theorem j6n {S:Specs} (hS:Zu prog S):Zu prog (S.with nRtw fRtw):=by
 refine z0v hS (by kernel_rfl) fun args v h=> ?_;unfold fRtw at h;split at h
 ·rename_i a0;split at h
  ·rename_i L0 g0 n0 e0;simp only [Ae,Ad,Ac] at h;obtain ⟨rfl,ho0,hw⟩:=h;obtain ⟨N,hN⟩:=j3c L0 hw;exact ⟨_,_,(.cons (Yh e0 ho0) .nil),rfl,u1k L0 N _ hN,3,rfl⟩
  ·cases h
 ·cases h
def eqP (x y:Pa):Bool:=eqB (bxP x) (bxP y)&&Uo x.s y.s
def rlmF (l m:List Pa):Nat→Nat→Bool
 | 0,_=>true
 | k+1,i=>eqP (rd l i) (rd m i)&&rlmF l m k (i+1)
def j3q (l m:List Pa):Bool:=bif ((l.length:Int) != (m.length:Int)) then false else rlmF l m l.length 0
def z5f (l _m:List Pa):Bool:=smP l&&l.all fun x=>decide (x.s.length≤1000000)
theorem u8c (l m:List Pa) (hs:smP l=true) (h6: ∀x∈l,x.s.length≤1000000) (hm:l.length=m.length): ∀(k i:Nat),i+k=l.length→ ∃n,Yy (z3p l m) n (.to (.h0 (i:Int)))=.ret [.bool (rlmF l m k i)]
 | 0,i,h=>by have hl:=z4y hs;refine ⟨1,?_⟩;rw [Zv];simp (disch:=omega) only [z3p,Zt,Aa,Zp];rfl
 | k+1,i,h=>by
  have hl:=z4y hs;have hi:i<l.length:=by omega
  obtain ⟨n,hn⟩:=u8c l m hs h6 hm k (i+1) (by omega);refine ⟨n+1,?_⟩;have o6': ∀y,Ws (rd l i).s y=true:=fun y=>Ai (h6 _ (by rw [Yi hi];exact AM hi));have e:z3p l m (.h0 (i:Int))=bif eqP (rd l i) (rd m i) then .to (.h0 ((i+1:Nat):Int)) else .ret [.bool false]:=by
   unfold eqP;cases q:eqB (bxP (rd l i)) (bxP (rd m i)) with
   | false=>simp only [eqB,bxP,Ah] at q;simp (disch:=omega) only [z3p,q,Zi,Zf,Zj,Ah,AG,A5,Ab,Aa]
   | true=>
    simp only [eqB,bxP,Ah] at q;cases q2:Uo (rd l i).s (rd m i).s with
    | false=>simp (disch:=omega) only [z3p,q,q2,o6',Zg,Zi,Zf,Zj,Ah,AE,AG,Ck,Ab,Aa]
    | true=>simp (disch:=omega) only [z3p,q,q2,o6',Zg,Zi,Zf,Zk,Zx,Zj,Ah,AE,Ab,Aa]
  rw [Zv,e];show _=Xu.ret [.bool (eqP (rd l i) (rd m i)&&rlmF l m k (i+1))];cases eqP (rd l i) (rd m i) with
  | false=>rw [Aa,Zp,A5]
  | true=>rw [Ab,hn,Aj]
theorem j3p (l m:List Pa) (h:z5f l m=true): ∃n,Yy (z3p l m) n (y4x l m)=.ret [.bool (j3q l m)]:=by
 obtain ⟨hs,h6⟩:=Bn.1 h;unfold y4x j3q;rcases Yx ((l.length:Int) != (m.length:Int)) with q | q
 ·exact ⟨0,by rw [q];rfl⟩
 ·obtain ⟨n,hn⟩:=u8c l m hs (fun x hx=>AA (At.1 h6 x hx)) (by have:(l.length:Int)=(m.length:Int):=(by simpa using q);omega) l.length 0 (Ag _)
  exact ⟨n,by rw [q,Aa,Aa];exact hn⟩
def fRlm :List AVal→Option (AVal×Bool)
 | [a0,a1]=>match asL Pa a0,asL Pa a1 with
  | some (L0,g0,n0),some (L1,g1,n1)=>some (.bool (j3q L0 L1),isT Pa n0 g0&&(isT Pa n1 g1&&(z5f L0 L1)))
  | _,_=>none
 | _=>none
theorem j6s {S:Specs} (hS:Zu prog S):Zu prog (S.with nRlm fRlm):=by
 refine z0v hS (by kernel_rfl) fun args v h=> ?_;unfold fRlm at h;split at h
 ·rename_i a0 a1;split at h
  ·rename_i L0 g0 n0 L1 g1 n1 e0 e1;simp only [Ae,Ad,Ac] at h;obtain ⟨rfl,ho0,ho1,hw⟩:=h;obtain ⟨N,hN⟩:=j3p L0 L1 hw;exact ⟨_,_,(.cons (Yh e0 ho0) (.cons (Yh e1 ho1) .nil)),rfl,u1z L0 L1 N _ hN,3,rfl⟩
  ·cases h
 ·cases h
def nrX (x:Pa):Bool:= !decide ((x.s.length:Int)>6)&&(w1u x.s&&(x8l x.a x.b x.c (-2000000)&&x8l x.d x.e x.f (-2000000)))
def v2c (l:List Pa):Bool:=bif decide ((l.length:Int)>50) then decide ((l.length:Int)≤55) else l.all nrX&&decide ((l.length:Int)≤6)
def z9b (_l:List Pa):Bool:=true
theorem u8b (l:List Pa) (hl:l.length≤50): ∀(k i:Nat),i+k=l.length→ ∃n,Yy (z0z l) n (.to (.h0 (i:Int)))=.ret [.bool ((l.drop i).all nrX&&decide ((l.length:Int)≤6))]
 | 0,i,h=>by refine ⟨1,?_⟩;rw [Zv,Au (by omega)];simp (disch:=omega) only [z0z,Zt,Aa,Zp];rfl
 | k +1,i,h=>by
  have hi:i<l.length:=by omega
  obtain ⟨n,hn⟩:=u8b l hl k (i+1) (by omega);refine ⟨n+1,?_⟩;rw [Zv,Yg hi,List.all_cons];have e:z0z l (.h0 (i:Int))=bif nrX (rd l i) then .to (.h0 ((i+1:Nat):Int)) else .ret [.bool false]:=by
   unfold nrX;cases q1:decide (((rd l i).s.length :Int)>6) with
   | true=>simp (disch:=omega) only [z0z,q1,Zi,Zf,Zj,Ah,AE,A5,Ab,Aa]
   | false=>
    cases q2:w1u (rd l i).s with
    | false=>simp (disch:=omega) only [z0z,q1,q2,show∀l,Qk l=true from fun _=>rfl,Zg,Zi,Zf,Zj,Ah,AG,A5,Ck,Ab,Aa]
    | true=>
     cases q3:x8l (rd l i).a (rd l i).b (rd l i).c (-2000000) with
     | false=>simp (disch:=omega) only [z0z,q1,q2,q3,show∀l,Qk l=true from fun _=>rfl,Zg,Zi,Zf,Zj,Ah,AG,AE,A5,Ck,Ab,Aa]
     | true=>
      cases q4:x8l (rd l i).d (rd l i).e (rd l i).f (-2000000) with
      | false=>simp (disch:=omega) only [z0z,q1,q2,q3,q4,show∀l,Qk l=true from fun _=>rfl,Zg,Zi,Zf,Zj,Ah,AG,AE,A5,Ck,Ab,Aa]
      | true=>simp (disch:=omega) only [z0z,q1,q2,q3,q4,show∀l,Qk l=true from fun _=>rfl,Zg,Zi,Zf,Zk,Zx,Zj,Ah,AG,AE,Aj,Ab,Aa]
  rw [e];cases nrX (rd l i) with
  | false=>rw [Aa,Zp,A5,A5]
  | true=>rw [Ab,hn,Aj]
theorem j3n (l:List Pa) (h:z9b l=true): ∃n,Yy (z0z l) n (y4v l)=.ret [.bool (v2c l)]:=by
 unfold y4v v2c;by_cases g:(l.length:Int)>50
 ·exact ⟨0,by rw [Yt g];rfl⟩
 ·obtain ⟨n,hn⟩:=u8b l (by omega) l.length 0 (Ag _);exact ⟨n,by rw [Xc g];exact hn⟩
def fRln :List AVal→Option (AVal×Bool)
 | [a0]=>match asL Pa a0 with
  | some (L0,g0,n0)=>some (.bool (v2c L0),isT Pa n0 g0&&(z9b L0))
  | _=>none
 | _=>none
theorem j6r {S:Specs} (hS:Zu prog S):Zu prog (S.with nRln fRln):=by
 refine z0v hS (by kernel_rfl) fun args v h=> ?_;unfold fRln at h;split at h
 ·rename_i a0;split at h
  ·rename_i L0 g0 n0 e0;simp only [Ae,Ad,Ac] at h;obtain ⟨rfl,ho0,hw⟩:=h;obtain ⟨N,hN⟩:=j3n L0 hw;exact ⟨_,_,(.cons (Yh e0 ho0) .nil),rfl,u1y L0 N _ hN,3,rfl⟩
  ·cases h
 ·cases h
def Vr4 :Specs:=(Vr3q.with nRlw fRlw)
theorem z4p :Zu prog Vr4:=(v7t j8n)
inductive rlsS where
def rlsC (l0:List Pa) (x1:Int):rlsS→Cfg
 :=nofun
def w0h (l0:List Pa) (x1:Int):rlsS→Xu rlsS
 :=nofun
def y4t (l0:List Pa) (x1:Int):Xu rlsS:=(bif (Ji (cvT l0)) then (bif ((z8i (cvT l0)) != 0) then (.ret [.nils,(.int .i64 (z8i (cvT l0)))]) else (bif (decide (x1<0)) then (.ret [.nils,(.int .i64 2)]) else (bif (decide (x1≥(l0.length:Int))) then (.ret [.nils,(.int .i64 2)]) else (bif (z2u (cvT l0)) then (bif ((z0y (cvT l0)) != 0) then (.ret [.nils,(.int .i64 (z0y (cvT l0)))]) else (bif ((decide (0≤x1∧x1<(l0.length:Int)))&&true) then (bif (z2v (cvT (rd l0 x1.toNat).s) (cvT (Vv (cvT l0))) 0 0 0 0 0 0) then (.ret [(.dat (x8k (cvT (rd l0 x1.toNat).s) (cvT (Vv (cvT l0))) 0 0 0 0 0 0).length (Zz (x8k (cvT (rd l0 x1.toNat).s) (cvT (Vv (cvT l0))) 0 0 0 0 0 0))),(.int .i64 0)]) else .stuck) else .stuck)) else .stuck)))) else .stuck)
theorem w9e (l0:List Pa) (x1:Int): ∀s,Xq prog (Zy prog 17) (rlsC l0 x1) (rlsC l0 x1 s) (w0h l0 x1 s)
 :=nofun
theorem w0i (l0:List Pa) (x1:Int):Xq prog (Zy prog 17) (rlsC l0 x1) (Zb prog 17 [(.dat l0.length (Zz l0)),(.int .i64 x1)] true []) (y4t l0 x1):=(lo fun bJ=>(lb (fun k0=>(lr 37 17 [1,0,1,0,0] 1 16 [(4,.nils),(5,(ii (z8i (cvT l0))))] (sl z4p 20 [] ⟨[],[],[some [4,5]],[]⟩ ⟨[],[],[]⟩ [true] (pp (pp (xr l0) (xw bJ)) (tt k0 (pp (pp (xr l0) (xw bJ)) nn)))))) (fun k0=>(lb (fun k1=>(lr 37 17 [1,1,0,1,0,0] 1 16 [(4,.nils),(5,(ii 2))] (sl z4p 32 [] ⟨[],[],[some [4,5]],[]⟩ ⟨[],[],[]⟩ [false,true,true,true,true,true] (tt k1 (tt k0 (pp (pp (xr l0) (xw bJ)) nn)))))) (fun k1=>(lb (fun k2=>(lr 37 17 [1,1,0,1,0,0] 1 16 [(4,.nils),(5,(ii 2))] (sl z4p 32 [] ⟨[],[],[some [4,5]],[]⟩ ⟨[],[],[]⟩ [false,false,false,false,false,true] (tt k2 (tt k1 (tt k0 (pp (pp (xr l0) (xw bJ)) nn))))))) (fun k2=>(lo fun bU=>(lb (fun k3=>(lr 37 17 [1,1,1,1,0,1,0,0] 1 16 [(4,.nils),(5,(ii (z0y (cvT l0))))] (sl z4p 51 [] ⟨[],[],[some [4,5]],[]⟩ ⟨[],[],[]⟩ [false,false,false,false,false,false,true] (tt k3 (pp (pp (xr l0) (xw bU)) (tt k2 (tt k1 (tt k0 (pp (pp (xr l0) (xw bJ)) nn))))))))) (fun k3=>(lo fun o0=>(lo fun o1=>(lr 37 3 [1,1,1,1,0] 1 16 [(4,(.dat (x8k (cvT (rd l0 (tn x1)).s) (cvT (Vv (cvT l0))) 0 0 0 0 0 0).length (Zz (x8k (cvT (rd l0 (tn x1)).s) (cvT (Vv (cvT l0))) 0 0 0 0 0 0)))),(5,(ii 0))] (sl z4p 59 [] ⟨[],[],[some [4,5]],[]⟩ ⟨[],[],[]⟩ [false,false,false,false,false,false,false] (pp (pp (xI R6 (rd l0 (tn x1)).s.length (Zz (rd l0 (tn x1)).s)) (pp (xI R6 (Vv (cvT l0)).length (Zz (Vv (cvT l0)))) (xw o1))) (ww o0 (tt k3 (pp (pp (xr l0) (xw bU)) (tt k2 (tt k1 (tt k0 (pp (pp (xr l0) (xw bJ)) nn))))))))))))))))))))))
theorem u1t (l0:List Pa) (x1:Int) (n:Nat) (vs:List AVal) (h:Yy (w0h l0 x1) n (y4t l0 x1)=.ret vs):Jx prog (Zy prog 17) (Zb prog 17 [(.dat l0.length (Zz l0)),(.int .i64 x1)] true []) vs:=by have:=Zd (w9e l0 x1) n _ (w0i l0 x1);rwa [h] at this
inductive rltS where
abbrev u7v (l0:List Pa) (x1:Int) (x2:Int):=(x8k (cvT (rd l0 (tn x1)).s) (cvT (rd l0 (tn x2)).s) (rd l0 (tn x2)).a (rd l0 (tn x2)).b (rd l0 (tn x2)).c (rd l0 (tn x2)).d (rd l0 (tn x2)).e (rd l0 (tn x2)).f)
def rltC (l0:List Pa) (x1:Int) (x2:Int):rltS→Cfg
 :=nofun
def w0f (l0:List Pa) (x1:Int) (x2:Int):rltS→Xu rltS
 :=nofun
def y4s (l0:List Pa) (x1:Int) (x2:Int):Xu rltS:=(bif (Ji (cvT l0)) then (bif ((z8i (cvT l0)) != 0) then (.ret [.nils,(.int .i64 (z8i (cvT l0)))]) else (bif (decide (x1<0)) then (.ret [.nils,(.int .i64 2)]) else (bif (decide (x1≥(l0.length:Int))) then (.ret [.nils,(.int .i64 2)]) else (bif (decide (x2<0)) then (.ret [.nils,(.int .i64 2)]) else (bif (decide (x2≥(l0.length:Int))) then (.ret [.nils,(.int .i64 2)]) else (bif (x1 == x2) then (.ret [.nils,(.int .i64 2)]) else (bif ((decide (0≤x1∧x1<(l0.length:Int)))&&true) then (bif ((decide (0≤x2∧x2<(l0.length:Int)))&&true) then (bif (z2v (cvT (rd l0 x1.toNat).s) (cvT (rd l0 x2.toNat).s) (rd l0 x2.toNat).a (rd l0 x2.toNat).b (rd l0 x2.toNat).c (rd l0 x2.toNat).d (rd l0 x2.toNat).e (rd l0 x2.toNat).f) then (.ret [(.dat (x8k (cvT (rd l0 x1.toNat).s) (cvT (rd l0 x2.toNat).s) (rd l0 x2.toNat).a (rd l0 x2.toNat).b (rd l0 x2.toNat).c (rd l0 x2.toNat).d (rd l0 x2.toNat).e (rd l0 x2.toNat).f).length (Zz (x8k (cvT (rd l0 x1.toNat).s) (cvT (rd l0 x2.toNat).s) (rd l0 x2.toNat).a (rd l0 x2.toNat).b (rd l0 x2.toNat).c (rd l0 x2.toNat).d (rd l0 x2.toNat).e (rd l0 x2.toNat).f))),(.int .i64 0)]) else .stuck) else .stuck) else .stuck))))))) else .stuck)
theorem w9d (l0:List Pa) (x1:Int) (x2:Int): ∀s,Xq prog (Zy prog 19) (rltC l0 x1 x2) (rltC l0 x1 x2 s) (w0f l0 x1 x2 s)
 :=nofun
theorem w0g (l0:List Pa) (x1:Int) (x2:Int):Xq prog (Zy prog 19) (rltC l0 x1 x2) (Zb prog 19 [(.dat l0.length (Zz l0)),(.int .i64 x1),(.int .i64 x2)] true []) (y4s l0 x1 x2):=(lo fun bJ=>(lb (fun k0=>(lr 52 19 [1,0,1,0,0] 1 10 [(6,.nils),(7,(ii (z8i (cvT l0))))] (sl z4p 20 [] ⟨[],[],[some [6,7]],[]⟩ ⟨[],[],[]⟩ [true] (pp (pp (xr l0) (xw bJ)) (tt k0 (pp (pp (xr l0) (xw bJ)) nn)))))) (fun k0=>(lb (fun k1=>(lr 52 19 [1,1,0,1,0,0] 1 10 [(6,.nils),(7,(ii 2))] (sl z4p 47 [] ⟨[],[],[some [6,7]],[]⟩ ⟨[],[],[]⟩ [false,true,true,true,true,true,true,true,true,true,true,true,true,true,true] (tt k1 (tt k0 (pp (pp (xr l0) (xw bJ)) nn)))))) (fun k1=>(lb (fun k2=>(lr 52 19 [1,1,0,1,0,0] 1 10 [(6,.nils),(7,(ii 2))] (sl z4p 47 [] ⟨[],[],[some [6,7]],[]⟩ ⟨[],[],[]⟩ [false,false,false,false,false,true,true,true,true,true,true,true,true,true,true] (tt k2 (tt k1 (tt k0 (pp (pp (xr l0) (xw bJ)) nn))))))) (fun k2=>(lb (fun k3=>(lr 52 19 [1,1,0,1,0,0] 1 10 [(6,.nils),(7,(ii 2))] (sl z4p 47 [] ⟨[],[],[some [6,7]],[]⟩ ⟨[],[],[]⟩ [false,false,false,false,false,false,false,true,true,true,true,true,true,true,true] (tt k3 (tt k2 (tt k1 (tt k0 (pp (pp (xr l0) (xw bJ)) nn)))))))) (fun k3=>(lb (fun k4=>(lr 52 19 [1,1,0,1,0,0] 1 10 [(6,.nils),(7,(ii 2))] (sl z4p 47 [] ⟨[],[],[some [6,7]],[]⟩ ⟨[],[],[]⟩ [false,false,false,false,false,false,false,false,false,false,false,true,true,true,true] (tt k4 (tt k3 (tt k2 (tt k1 (tt k0 (pp (pp (xr l0) (xw bJ)) nn))))))))) (fun k4=>(lb (fun k5=>(lr 52 19 [1,1,0,1,0,0] 1 10 [(6,.nils),(7,(ii 2))] (sl z4p 47 [] ⟨[],[],[some [6,7]],[]⟩ ⟨[],[],[]⟩ [false,false,false,false,false,false,false,false,false,false,false,false,false,false,true] (tt k5 (tt k4 (tt k3 (tt k2 (tt k1 (tt k0 (pp (pp (xr l0) (xw bJ)) nn)))))))))) (fun k5=>(lo fun o0=>(lo fun o1=>(lo fun o2=>(lr 52 3 [1,1,1,1,0] 1 10 [(6,(.dat (u7v l0 x1 x2).length (Zz (u7v l0 x1 x2)))),(7,(ii 0))] (sl z4p 45 [] ⟨[],[],[some [6,7]],[]⟩ ⟨[],[],[]⟩ [false,false,false,false,false,false,false,false,false,false,false,false,false,false,false] (pp (pp (xI R6 (rd l0 (tn x1)).s.length (Zz (rd l0 (tn x1)).s)) (pp (xI R6 (rd l0 (tn x2)).s.length (Zz (rd l0 (tn x2)).s)) (xw o2))) (ww o1 (ww o1 (ww o0 (tt k5 (tt k4 (tt k3 (tt k2 (tt k1 (tt k0 (pp (pp (xr l0) (xw bJ)) nn)))))))))))))))))))))))))))))
theorem u1s (l0:List Pa) (x1:Int) (x2:Int) (n:Nat) (vs:List AVal) (h:Yy (w0f l0 x1 x2) n (y4s l0 x1 x2)=.ret vs):Jx prog (Zy prog 19) (Zb prog 19 [(.dat l0.length (Zz l0)),(.int .i64 x1),(.int .i64 x2)] true []) vs:=by have:=Zd (w9d l0 x1 x2) n _ (w0g l0 x1 x2);rwa [h] at this
def nrP (l:List Pa):Bool:=smP l&&(decide (50<l.length)||l.all fun x=>x3w x.s)
theorem u9i {l:List Pa} (h:nrP l=true) (h5:l.length≤50) {i:Nat} (hi:i<l.length):x3w (rd l i).s =true:=by have:=(Bn.1 h).2;rw [An (by omega),Bl] at this;exact At.1 this _ (by rw [Yi hi];exact AM hi)
def rlsL0 (l:List Pa) (x:Int) (A:List R6):List R7:=x8k (rd l x.toNat).s A 0 0 0 0 0 0
def rlsL (l:List Pa) (x:Int):List R7:=rlsL0 l x (Vv l)
def z6x (l:List Pa) (x:Int):Int:=bif z8i l != 0 then z8i l else bif decide (x<0)||decide (x≥(l.length:Int)) then 2 else bif z0y l != 0 then z0y l else 0
def Ka (l:List Pa) (x:Int):List R7:=z4t (z6x l x) (rlsL l x)
def z9a (l:List Pa) (_:Int):Bool:=nrP l
theorem j3j (l:List Pa) (x:Int) (h:z9a l x=true): ∃n,Yy (w0h l x) n (y4t l x)=.ret (z6p (z6x l x) (rlsL l x)):=by
 have hs:smP l=true:=(Bn.1 h).1;refine ⟨0,?_⟩;unfold y4t z6x;simp only [Zg,show Ji l=true from hs,show z2u l=true from hs,Ab];rcases Yx (z8i l != 0) with q | q
 ·rw [q,Ab,Ab,Wx _ q];rfl
 by_cases g1:x<0
 ·rw [q,Ai g1];rfl
 by_cases g2:x≥(l.length:Int)
 ·rw [q,An g1,Ai g2];rfl
 rcases Yx (z0y l != 0) with q2 | q2
 ·rw [q,An g1,An g2,q2];simp only [Ab,Aa,Cg];rw [Wx _ q2];rfl
 have hx:0≤x∧x<(l.length:Int):=by omega
 have h5:=(z9c (show z8i l=0 by simpa using q)).1;have oQ:z2v (rd l x.toNat).s (Vv l) 0 0 0 0 0 0=true:=by show (x3w _&&decide _)=true;rw [u9i h h5 (by omega),Ai (by have:=v4s l;omega)];rfl
 rw [q,An g1,An g2,q2,Zf hx,oQ];rfl
def fRls :List AVal→Option (AVal×Bool)
 | [a0,.int .i64 x1]=>match asL Pa a0 with
  | some (L0,g0,n0)=>some (.tup [.dat (Ka L0 x1).length (Zz (Ka L0 x1)),.int .i64 (z6x L0 x1)],isT Pa n0 g0&&(z9a L0 x1))
  | _=>none
 | _=>none
theorem j6p {S:Specs} (hS:Zu prog S):Zu prog (S.with nRls fRls):=by
 refine w3d hS (by kernel_rfl) fun args v h=> ?_;unfold fRls at h;split at h
 ·rename_i a0 x1;split at h
  ·rename_i L0 g0 n0 e0;simp only [Ae,Ad,Ac] at h;obtain ⟨rfl,ho0,hw⟩:=h;obtain ⟨N,hN⟩:=j3j L0 x1 hw;exact ⟨_,_,(.cons (Yh e0 ho0) (.cons (.refl _) .nil)),Kx _ _,u1t L0 x1 N _ hN,3,z1c _ _⟩
  ·cases h
 ·cases h
def rltL (l:List Pa) (x y:Int):List R7:=x8k (rd l x.toNat).s (rd l y.toNat).s (rd l y.toNat).a (rd l y.toNat).b (rd l y.toNat).c (rd l y.toNat).d (rd l y.toNat).e (rd l y.toNat).f
def z6w (l:List Pa) (x y:Int):Int:=bif z8i l != 0 then z8i l else bif decide (x<0)||(decide (x≥(l.length:Int))||(decide (y<0)||(decide (y≥(l.length:Int))||(x == y)))) then 2 else 0
def z0f (l:List Pa) (x y:Int):List R7:=z4t (z6w l x y) (rltL l x y)
def z8z (l:List Pa) (_ _:Int):Bool:=nrP l
theorem j3i (l:List Pa) (x y:Int) (h:z8z l x y=true): ∃n,Yy (w0f l x y) n (y4s l x y)=.ret (z6p (z6w l x y) (rltL l x y)):=by
 have hs:smP l=true:=(Bn.1 h).1;refine ⟨0,?_⟩;unfold y4s z6w;simp only [Zg,show Ji l=true from hs,Ab];rcases Yx (z8i l != 0) with q | q
 ·rw [q,Ab,Ab,Wx _ q];rfl
 by_cases g1:x<0
 ·rw [q,Ai g1];rfl
 by_cases g2:x≥(l.length:Int)
 ·rw [q,An g1,Ai g2];rfl
 by_cases g3:y<0
 ·rw [q,An g1,An g2,Ai g3];rfl
 by_cases g4:y≥(l.length:Int)
 ·rw [q,An g1,An g2,An g3,Ai g4];rfl
 rcases Yx (x == y) with q2 | q2
 ·rw [q,An g1,An g2,An g3,An g4,q2];rfl
 have hx:0≤x∧x<(l.length:Int):=by omega
 have hy:0≤y∧y<(l.length:Int):=by omega
 have q0:z8i l=0:=by simpa using q
 have h5:=(z9c q0).1;have hT:=(v4u q0 (show Int.toNat y<l.length by omega)).2;have oQ: ∀a b c d e f,z2v (rd l x.toNat).s (rd l y.toNat).s a b c d e f=true:=fun a b c d e f=>by show (x3w _&&decide _)=true;rw [u9i h h5 (by omega),Ai (by omega)];rfl
 rw [q,An g1,An g2,An g3,An g4,q2,Zf hx,Zf hy,oQ];rfl
def fRlt :List AVal→Option (AVal×Bool)
 | [a0,.int .i64 x1,.int .i64 x2]=>match asL Pa a0 with
  | some (L0,g0,n0)=>some (.tup [.dat (z0f L0 x1 x2).length (Zz (z0f L0 x1 x2)),.int .i64 (z6w L0 x1 x2)],isT Pa n0 g0&&(z8z L0 x1 x2))
  | _=>none
 | _=>none
theorem j6o {S:Specs} (hS:Zu prog S):Zu prog (S.with nRlt fRlt):=by
 refine w3d hS (by kernel_rfl) fun args v h=> ?_;unfold fRlt at h;split at h
 ·rename_i a0 x1 x2;split at h
  ·rename_i L0 g0 n0 e0;simp only [Ae,Ad,Ac] at h;obtain ⟨rfl,ho0,hw⟩:=h;obtain ⟨N,hN⟩:=j3i L0 x1 x2 hw;exact ⟨_,_,(.cons (Yh e0 ho0) (.cons (.refl _) (.cons (.refl _) .nil))),Kx _ _,u1s L0 x1 x2 N _ hN,3,z1c _ _⟩
  ·cases h
 ·cases h
def Vz :Specs:=((((((((Vg0.with v6h fSwo).with nRtw fRtw).with nRlm fRlm).with nRln fRln).with nRlc fRlc).with nRlw fRlw).with nRls fRls).with nRlt fRlt).with v6j fRsq
theorem x5f :Zu prog Vz:=v7s (j6o (j6p (v7t (v7u (j6r (j6s (j6n (j6c Vg0_ok))))))))
inductive lskS where
abbrev Wi (l0:List Pa):=(Zz (Jt (cvT l0)))
abbrev z2e (l0:List Pa):=(z4v (cvT (Jt (cvT l0))))
abbrev z6z (l0:List Pa) (x1:Int):=(z8q (cvT (Jt (cvT l0))) x1)
abbrev y7i (l0:List Pa):=(Zz (Vv (cvT l0)))
def lskC (l0:List Pa) (x1:Int) (x2:Int):lskS→Cfg
 :=nofun
def w2b (l0:List Pa) (x1:Int) (x2:Int):lskS→Xu lskS
 :=nofun
def y5k (l0:List Pa) (x1:Int) (x2:Int):Xu lskS:=(bif (z9b (cvT l0)) then (bif (!(v2c (cvT l0))) then (.ret [(.bool true)]) else (bif (z8u (cvT l0)) then (bif (z8m (cvT (Jt (cvT l0)))) then (bif (z2u (cvT l0)) then (bif (z8p (cvT (Jt (cvT l0))) x1) then (bif (z9a (cvT l0) x1) then (bif (z8o (cvT (Jt (cvT l0))) x1 x2) then (bif (z8z (cvT l0) x1 x2) then (bif (Jf (cvT (Jt (cvT l0)))) then (bif (Ji (cvT l0)) then (bif ((z2l (cvT (Jt (cvT l0)))) == (z8i (cvT l0))) then (bif (Ws (cvT (z4v (cvT (Jt (cvT l0))))) (cvT (Vv (cvT l0)))) then (bif (Uo (cvT (z4v (cvT (Jt (cvT l0))))) (cvT (Vv (cvT l0)))) then (bif ((z8n (cvT (Jt (cvT l0)))) == (z0y (cvT l0))) then (bif (z2s (cvT (z8q (cvT (Jt (cvT l0))) x1)) (cvT (Ka (cvT l0) x1))) then (bif (rsqV (cvT (z8q (cvT (Jt (cvT l0))) x1)) (cvT (Ka (cvT l0) x1))) then (bif ((z5a (cvT (Jt (cvT l0))) x1) == (z6x (cvT l0) x1)) then (bif (z2s (cvT (z1v (cvT (Jt (cvT l0))) x1 x2)) (cvT (z0f (cvT l0) x1 x2))) then (bif (rsqV (cvT (z1v (cvT (Jt (cvT l0))) x1 x2)) (cvT (z0f (cvT l0) x1 x2))) then (bif ((z4w (cvT (Jt (cvT l0))) x1 x2) == (z6w (cvT l0) x1 x2)) then (bif (z5f (cvT (Jt (cvT l0))) (cvT l0)) then (.ret [(.bool (j3q (cvT (Jt (cvT l0))) (cvT l0)))]) else .stuck) else (.ret [(.bool false)])) else (.ret [(.bool false)])) else .stuck) else (.ret [(.bool false)])) else (.ret [(.bool false)])) else .stuck) else (.ret [(.bool false)])) else (.ret [(.bool false)])) else .stuck) else (.ret [(.bool false)])) else .stuck) else .stuck) else .stuck) else .stuck) else .stuck) else .stuck) else .stuck) else .stuck) else .stuck)) else .stuck)
theorem v0e (l0:List Pa) (x1:Int) (x2:Int): ∀s,Xq prog (Zy prog 4) (lskC l0 x1 x2) (lskC l0 x1 x2 s) (w2b l0 x1 x2 s)
 :=nofun
theorem w2c (l0:List Pa) (x1:Int) (x2:Int):Xq prog (Zy prog 4) (lskC l0 x1 x2) (Zb prog 4 [(.dat l0.length (Zz l0)),(.int .i64 x1),(.int .i64 x2)] true []) (y5k l0 x1 x2):=(lo fun bJ=>(lb (fun k0=>(lr 101 4 [1,0,1,0,0] 1 3 [(6,(.bool true))] (sl x5f 16 [] ⟨[],[],[some [6]],[]⟩ ⟨[],[],[]⟩ [true] (tt k0 (pp (pp (xr l0) (xw bJ)) nn))))) (fun k0=>(lo fun aH=>(lo fun aY=>(lo fun cP=>(lo fun dG=>(lo fun dK=>(lo fun dL=>(lo fun dM=>(lo fun dN=>(lo fun dO=>(lb (fun k1=>(lo fun bL=>(lb (fun k2=>(lb (fun k3=>(lo fun bZ=>(lb (fun k4=>(lb (fun k5=>(lo fun dJ=>(lb (fun k6=>(lb (fun k7=>(lo fun o0=>(lr 101 3 [1,1,1,1,0] 1 3 [(6,(.bool (j3q (cvT (Jt (cvT l0))) (cvT l0))))] (sl x5f 129 [] ⟨[],[],[some [6]],[]⟩ ⟨[],[],[]⟩ [false,true,true,true,true,true,true,true,true,true,true,true,true,true,true,true,true,true,true,true,true,true] (pp (pp (xI Pa (Jt (cvT l0)).length (Wi l0)) (pp (xr l0) (xw o0))) (tt k7 (tt k6 (pp (pp (xI R7 (z1v (cvT (Jt (cvT l0))) x1 x2).length (Zz (z1v (cvT (Jt (cvT l0))) x1 x2))) (pp (xI R7 (z0f (cvT l0) x1 x2).length (Zz (z0f (cvT l0) x1 x2))) (xw dJ))) (tt k5 (tt k4 (pp (pp (xI R7 (z6z l0 x1).length (Zz (z6z l0 x1))) (pp (xI R7 (Ka (cvT l0) x1).length (Zz (Ka (cvT l0) x1))) (xw bZ))) (tt k3 (tt k2 (pp (pp (xI R6 (z2e l0).length (Zz (z2e l0))) (pp (xI R6 (Vv (cvT l0)).length (y7i l0)) (xw bL))) (tt k1 (pp (pp (xr l0) (xw dO)) (pp (pp (xI Pa (Jt (cvT l0)).length (Wi l0)) (xw dN)) (pp (pp (xr l0) (xw dM)) (pp (pp (xI Pa (Jt (cvT l0)).length (Wi l0)) (xw dL)) (pp (pp (xr l0) (xw dK)) (pp (pp (xI Pa (Jt (cvT l0)).length (Wi l0)) (xw dG)) (pp (pp (xr l0) (xw cP)) (pp (pp (xI Pa (Jt (cvT l0)).length (Wi l0)) (xw aY)) (pp (pp (xr l0) (xw aH)) (tt k0 (pp (pp (xr l0) (xw bJ)) nn)))))))))))))))))))))))))) (fun k7=>(lr 101 3 [1,1,1,1,0] 1 3 [(6,(.bool false))] (sl x5f 129 [] ⟨[],[],[some [6]],[]⟩ ⟨[],[],[]⟩ [false,true,true,true,true,true,true,true,true,true,true,true,true,true,true,true,true,true,true,false,false,false] (tt k7 (tt k6 (pp (pp (xI R7 (z1v (cvT (Jt (cvT l0))) x1 x2).length (Zz (z1v (cvT (Jt (cvT l0))) x1 x2))) (pp (xI R7 (z0f (cvT l0) x1 x2).length (Zz (z0f (cvT l0) x1 x2))) (xw dJ))) (tt k5 (tt k4 (pp (pp (xI R7 (z6z l0 x1).length (Zz (z6z l0 x1))) (pp (xI R7 (Ka (cvT l0) x1).length (Zz (Ka (cvT l0) x1))) (xw bZ))) (tt k3 (tt k2 (pp (pp (xI R6 (z2e l0).length (Zz (z2e l0))) (pp (xI R6 (Vv (cvT l0)).length (y7i l0)) (xw bL))) (tt k1 (pp (pp (xr l0) (xw dO)) (pp (pp (xI Pa (Jt (cvT l0)).length (Wi l0)) (xw dN)) (pp (pp (xr l0) (xw dM)) (pp (pp (xI Pa (Jt (cvT l0)).length (Wi l0)) (xw dL)) (pp (pp (xr l0) (xw dK)) (pp (pp (xI Pa (Jt (cvT l0)).length (Wi l0)) (xw dG)) (pp (pp (xr l0) (xw cP)) (pp (pp (xI Pa (Jt (cvT l0)).length (Wi l0)) (xw aY)) (pp (pp (xr l0) (xw aH)) (tt k0 (pp (pp (xr l0) (xw bJ)) nn)))))))))))))))))))))))))) (fun k6=>(lr 101 3 [1,1,1,1,0] 1 3 [(6,(.bool false))] (sl x5f 129 [] ⟨[],[],[some [6]],[]⟩ ⟨[],[],[]⟩ [false,true,true,true,true,true,true,true,true,true,true,true,true,true,true,true,false,false,false,false,false,false] (tt k6 (pp (pp (xI R7 (z1v (cvT (Jt (cvT l0))) x1 x2).length (Zz (z1v (cvT (Jt (cvT l0))) x1 x2))) (pp (xI R7 (z0f (cvT l0) x1 x2).length (Zz (z0f (cvT l0) x1 x2))) (xw dJ))) (tt k5 (tt k4 (pp (pp (xI R7 (z6z l0 x1).length (Zz (z6z l0 x1))) (pp (xI R7 (Ka (cvT l0) x1).length (Zz (Ka (cvT l0) x1))) (xw bZ))) (tt k3 (tt k2 (pp (pp (xI R6 (z2e l0).length (Zz (z2e l0))) (pp (xI R6 (Vv (cvT l0)).length (y7i l0)) (xw bL))) (tt k1 (pp (pp (xr l0) (xw dO)) (pp (pp (xI Pa (Jt (cvT l0)).length (Wi l0)) (xw dN)) (pp (pp (xr l0) (xw dM)) (pp (pp (xI Pa (Jt (cvT l0)).length (Wi l0)) (xw dL)) (pp (pp (xr l0) (xw dK)) (pp (pp (xI Pa (Jt (cvT l0)).length (Wi l0)) (xw dG)) (pp (pp (xr l0) (xw cP)) (pp (pp (xI Pa (Jt (cvT l0)).length (Wi l0)) (xw aY)) (pp (pp (xr l0) (xw aH)) (tt k0 (pp (pp (xr l0) (xw bJ)) nn)))))))))))))))))))))))))) (fun k5=>(lr 101 3 [1,1,1,1,0] 1 3 [(6,(.bool false))] (sl x5f 129 [] ⟨[],[],[some [6]],[]⟩ ⟨[],[],[]⟩ [false,true,true,true,true,true,true,true,true,true,true,true,true,false,false,false,false,false,false,false,false,false] (tt k5 (tt k4 (pp (pp (xI R7 (z6z l0 x1).length (Zz (z6z l0 x1))) (pp (xI R7 (Ka (cvT l0) x1).length (Zz (Ka (cvT l0) x1))) (xw bZ))) (tt k3 (tt k2 (pp (pp (xI R6 (z2e l0).length (Zz (z2e l0))) (pp (xI R6 (Vv (cvT l0)).length (y7i l0)) (xw bL))) (tt k1 (pp (pp (xr l0) (xw dO)) (pp (pp (xI Pa (Jt (cvT l0)).length (Wi l0)) (xw dN)) (pp (pp (xr l0) (xw dM)) (pp (pp (xI Pa (Jt (cvT l0)).length (Wi l0)) (xw dL)) (pp (pp (xr l0) (xw dK)) (pp (pp (xI Pa (Jt (cvT l0)).length (Wi l0)) (xw dG)) (pp (pp (xr l0) (xw cP)) (pp (pp (xI Pa (Jt (cvT l0)).length (Wi l0)) (xw aY)) (pp (pp (xr l0) (xw aH)) (tt k0 (pp (pp (xr l0) (xw bJ)) nn))))))))))))))))))))))) (fun k4=>(lr 101 3 [1,1,1,1,0] 1 3 [(6,(.bool false))] (sl x5f 129 [] ⟨[],[],[some [6]],[]⟩ ⟨[],[],[]⟩ [false,true,true,true,true,true,true,true,true,true,false,false,false,false,false,false,false,false,false,false,false,false] (tt k4 (pp (pp (xI R7 (z6z l0 x1).length (Zz (z6z l0 x1))) (pp (xI R7 (Ka (cvT l0) x1).length (Zz (Ka (cvT l0) x1))) (xw bZ))) (tt k3 (tt k2 (pp (pp (xI R6 (z2e l0).length (Zz (z2e l0))) (pp (xI R6 (Vv (cvT l0)).length (y7i l0)) (xw bL))) (tt k1 (pp (pp (xr l0) (xw dO)) (pp (pp (xI Pa (Jt (cvT l0)).length (Wi l0)) (xw dN)) (pp (pp (xr l0) (xw dM)) (pp (pp (xI Pa (Jt (cvT l0)).length (Wi l0)) (xw dL)) (pp (pp (xr l0) (xw dK)) (pp (pp (xI Pa (Jt (cvT l0)).length (Wi l0)) (xw dG)) (pp (pp (xr l0) (xw cP)) (pp (pp (xI Pa (Jt (cvT l0)).length (Wi l0)) (xw aY)) (pp (pp (xr l0) (xw aH)) (tt k0 (pp (pp (xr l0) (xw bJ)) nn))))))))))))))))))))))) (fun k3=>(lr 101 3 [1,1,1,1,0] 1 3 [(6,(.bool false))] (sl x5f 129 [] ⟨[],[],[some [6]],[]⟩ ⟨[],[],[]⟩ [false,true,true,true,true,true,true,false,false,false,false,false,false,false,false,false,false,false,false,false,false,false] (tt k3 (tt k2 (pp (pp (xI R6 (z2e l0).length (Zz (z2e l0))) (pp (xI R6 (Vv (cvT l0)).length (y7i l0)) (xw bL))) (tt k1 (pp (pp (xr l0) (xw dO)) (pp (pp (xI Pa (Jt (cvT l0)).length (Wi l0)) (xw dN)) (pp (pp (xr l0) (xw dM)) (pp (pp (xI Pa (Jt (cvT l0)).length (Wi l0)) (xw dL)) (pp (pp (xr l0) (xw dK)) (pp (pp (xI Pa (Jt (cvT l0)).length (Wi l0)) (xw dG)) (pp (pp (xr l0) (xw cP)) (pp (pp (xI Pa (Jt (cvT l0)).length (Wi l0)) (xw aY)) (pp (pp (xr l0) (xw aH)) (tt k0 (pp (pp (xr l0) (xw bJ)) nn)))))))))))))))))))) (fun k2=>(lr 101 3 [1,1,1,1,0] 1 3 [(6,(.bool false))] (sl x5f 129 [] ⟨[],[],[some [6]],[]⟩ ⟨[],[],[]⟩ [false,true,true,true,false,false,false,false,false,false,false,false,false,false,false,false,false,false,false,false,false,false] (tt k2 (pp (pp (xI R6 (z2e l0).length (Zz (z2e l0))) (pp (xI R6 (Vv (cvT l0)).length (y7i l0)) (xw bL))) (tt k1 (pp (pp (xr l0) (xw dO)) (pp (pp (xI Pa (Jt (cvT l0)).length (Wi l0)) (xw dN)) (pp (pp (xr l0) (xw dM)) (pp (pp (xI Pa (Jt (cvT l0)).length (Wi l0)) (xw dL)) (pp (pp (xr l0) (xw dK)) (pp (pp (xI Pa (Jt (cvT l0)).length (Wi l0)) (xw dG)) (pp (pp (xr l0) (xw cP)) (pp (pp (xI Pa (Jt (cvT l0)).length (Wi l0)) (xw aY)) (pp (pp (xr l0) (xw aH)) (tt k0 (pp (pp (xr l0) (xw bJ)) nn)))))))))))))))))))) (fun k1=>(lr 101 3 [1,1,1,1,0] 1 3 [(6,(.bool false))] (sl x5f 129 [] ⟨[],[],[some [6]],[]⟩ ⟨[],[],[]⟩ [false,false,false,false,false,false,false,false,false,false,false,false,false,false,false,false,false,false,false,false,false,false] (tt k1 (pp (pp (xr l0) (xw dO)) (pp (pp (xI Pa (Jt (cvT l0)).length (Wi l0)) (xw dN)) (pp (pp (xr l0) (xw dM)) (pp (pp (xI Pa (Jt (cvT l0)).length (Wi l0)) (xw dL)) (pp (pp (xr l0) (xw dK)) (pp (pp (xI Pa (Jt (cvT l0)).length (Wi l0)) (xw dG)) (pp (pp (xr l0) (xw cP)) (pp (pp (xI Pa (Jt (cvT l0)).length (Wi l0)) (xw aY)) (pp (pp (xr l0) (xw aH)) (tt k0 (pp (pp (xr l0) (xw bJ)) nn))))))))))))))))))))))))))))
theorem lsk_ends (l0:List Pa) (x1:Int) (x2:Int) (n:Nat) (vs:List AVal) (h:Yy (w2b l0 x1 x2) n (y5k l0 x1 x2)=.ret vs):Jx prog (Zy prog 4) (Zb prog 4 [(.dat l0.length (Zz l0)),(.int .i64 x1),(.int .i64 x2)] true []) vs:=by have:=Zd (v0e l0 x1 x2) n _ (w2c l0 x1 x2);rwa [h] at this
def inS (X:List R6) (x y z:Int):Prop:= ∃r∈X,(r.a≤x∧x<r.d)∧(r.b≤y∧y<r.e)∧(r.c≤z∧z<r.f)
theorem y1w (X:List R6) (x y z:Int):inS X x y z↔ptL x5r.inB X (z,x,y):=by
 constructor
 ·rintro ⟨r,hr,h1,h2,h3⟩;exact ⟨r,hr,h3.1,h3.2,h1.1,h1.2,h2.1,h2.2⟩
 ·rintro ⟨r,hr,h1,h2,h3,h4,h5,h6⟩;exact ⟨r,hr,⟨h3,h4⟩,⟨h5,h6⟩,h1,h2⟩
namespace Dim
variable {α β:Type} {D:Dim α β}
theorem j5r (hD:D.Fair) (s:List β) (a b x:Int):D.inn (s.map (D.put a b)) x=if a≤x∧x<b then s else []:=by
 unfold inn;have e:(s.map (D.put a b)).filter (fun r=>decide (D.lo r≤x)&&decide (x<D.hi r))=if a≤x∧x<b then s.map (D.put a b) else []:=by
  split
  ·rename_i h;refine List.filter_eq_self.2 fun r hr=> ?_;obtain ⟨c,_,rfl⟩:=AQ.1 hr;rw [hD.lo_put,hD.hi_put,Ai h.1,Ai h.2];rfl
  ·rename_i h;refine List.filter_eq_nil_iff.2 fun r hr hq=>h ?_;obtain ⟨c,_,rfl⟩:=AQ.1 hr;rw [hD.lo_put,hD.hi_put,Ac] at hq;exact ⟨AA hq.1,AA hq.2⟩
 rw [e];split
 ·rw [List.map_map];exact (BT fun c _=>hD.pr_put a b c).trans (List.map_id _)
 ·rfl
theorem inn_can (hD:D.Fair) {γ:Type} (M:Sem β γ) (x:Int): ∀G:List (Qc β),z1r M G→M.can (D.inn (D.flat G) x)
 | [],_=>M.nil
 | g::r,h=>by
  rw [show D.flat (g::r)=g.s.map (D.put g.a g.b)++D.flat r from rfl,D.inn_append,j5r hD];split
  ·rename_i hx;have e:D.inn (D.flat r) x=[]:=by unfold inn;rw [List.map_eq_nil_iff,List.filter_eq_nil_iff];intro a ha hq;obtain ⟨k,hk,ha⟩:=AN.1 ha;obtain ⟨c,_,rfl⟩:=AQ.1 ha;rw [hD.lo_put,Ac] at hq;have h1:=AA hq.1;have:=h.later k hk;omega
   rw [e,Az];exact h.head.2.1
  ·rw [Bc];exact inn_can hD M x r h.tail
end Dim
theorem x3e {L:List R6} (hl:L.length≤400) (hv: ∀r∈L,z3k r=true) (hc:x5r.can L):Yd L=0:=by
 have hi: ∀z,D4.out (D6.inn L z)=D6.inn L z:=fun z=>by obtain ⟨h1,h2⟩:=z3q (z8e hv z) (AK (D6.inn_length L z) hl);obtain ⟨G,hG,e⟩:=hc;exact Wh.uniq _ _ h1 (by rw [e];exact Dim.inn_can z8g Wh z G hG) h2
 have hs:Secs L:=fun z=>by rw [hi z];exact AK (D6.inn_length L z) hl
 obtain ⟨h1,h2⟩:=j1y hv hl hs;have e:=x5r.uniq _ _ h1 hc h2;have ok: ∀k i,okF L k i=true:=fun k=>by
  induction k with
  | zero=>intro i;rfl
  | succ k ih=>intro i;show (bif Ww (D6.inn L (rd (D6.cuts L) i)) != 0 then false else okF L k (i+1))=true;rw [(z1y (z8e hv _) (AK (D6.inn_length L _) hl) (hs _)).2];exact ih (i+1)
 unfold Yd;rw [An (by omega),At.2 hv,ok,e,An (by omega),show Uo L L=true from Ai rfl];rfl
theorem j8g {L:List R6} (hc:x5r.can L) (hb: ∀x y z,inS L x y z→(-1000000≤x∧x<1000000)∧(-1000000≤y∧y<1000000)∧(-1000000≤z∧z<1000000)): ∀r∈L,z3k r=true:=fun r hr=>by
 have hp:r.a<r.d∧r.b<r.e∧r.c<r.f:=by obtain ⟨G,hG,e⟩:=hc;rw [e] at hr;obtain ⟨g,hg,hr⟩:=AN.1 hr;obtain ⟨b,hb,rfl⟩:=AQ.1 hr;obtain ⟨h1,⟨H,hH,e2⟩,_⟩:=hG.all g hg;rw [e2] at hb;obtain ⟨k,hk,hb⟩:=AN.1 hb;obtain ⟨c,hc,rfl⟩:=AQ.1 hb;obtain ⟨h2,h3,_⟩:=hH.all k hk;exact ⟨h2,Can.pos h3 c hc,h1⟩
 have h1:=hb r.a r.b r.c ⟨r,hr,by omega,by omega,by omega⟩;have h2:=hb (r.d - 1) (r.e - 1) (r.f - 1) ⟨r,hr,by omega,by omega,by omega⟩;rw [y9t];simp only [x8j,Ac,As];omega
open Go.Proofs Go.Sort Go.Shelf Go.RowKit Go.Lib
theorem at_nil (z:Int):atV ([]:List R6) z=[]:=rfl
namespace Dim
variable {α β:Type} (D:Dim α β)
theorem refS (hs: ∀a b,D.same a b=true↔a=b) (sec:Int→List β) (cs:List Int): ∀(k i:Nat) (s:Sw α β) (out:List α) (last:List β) (first:Nat),
  s.out=out→s.last=last→(last≠ []→s.first=first)→(last=[]→out.length≤first)→(0<i→s.fin=rd cs i)→(i=0→last=[])→
  (D.goS sec cs k i s).out =D.ref sec cs k i out last first
 | 0,i,s,out,last,first,h1,h2,h3,h4,h5,h6=>h1
 | k +1,i,s,out,last,first,h1,h2,h3,h4,h5,h6=>by
  subst h1 h2;have e1:D.goS sec cs (k+1) i s=D.goS sec cs k (i+1) (D.oneS (sec (rd cs i)) (rd cs i) (rd cs (i+1)) s):=rfl;rw [e1];unfold ref;rcases Yx (decide (0<(sec (rd cs i)).length)&&((s.fin == rd cs i)&&D.same s.last (sec (rd cs i)))) with q | q
  ·have e:D.oneS (sec (rd cs i)) (rd cs i) (rd cs (i+1)) s=⟨D.grow s.out s.first (rd cs (i+1)),s.last,s.first,rd cs (i+1)⟩:=by unfold oneS;rw [q];rfl
   simp only [Ac,As] at q;obtain ⟨q1,q2,q3⟩:=q;have q3:=(hs _ _).1 q3;have hne:s.last≠ []:=fun h=>by rw [h] at q3;rw [←q3] at q1;exact Co _ q1
   have hi:0<i:=Nat.pos_of_ne_zero fun h=>hne (h6 h);have e2:(decide (0<i)&&D.same (sec (rd cs i)) s.last)=true:=by rw [Ai hi,Aj,hs,q3]
   rw [e2,Ab,e];refine refS hs sec cs k (i+1) _ _ _ _ ?_ rfl h3 (fun h=>absurd h hne) (fun _=>rfl) (fun h=>by omega);rw [h3 hne]
  ·have e:D.oneS (sec (rd cs i)) (rd cs i) (rd cs (i+1)) s=⟨s.out++(sec (rd cs i)).map (D.put (rd cs i) (rd cs (i+1))),sec (rd cs i),s.out.length,rd cs (i+1)⟩:=by unfold oneS;rw [q];rfl
   rcases Yx (decide (0<i)&&D.same (sec (rd cs i)) s.last) with q2 | q2
   ·rw [q2,Ab,e];simp only [Ac,As] at q2;obtain ⟨hi,q3⟩:=q2;have q3:=(hs _ _).1 q3;rw [(hs s.last (sec (rd cs i))).2 q3.symm,Ah,h5 hi] at q;have hz:sec (rd cs i)=[]:=by
     cases h:sec (rd cs i) with
     | nil=>rfl
     | cons a b=>rw [h] at q;simp at q
    have hl:s.last=[]:=(by rw [←q3,hz]);have hf:=h4 hl;rw [hz,Bd,Az];refine refS hs sec cs k (i+1) _ _ _ _ ?_ hl.symm (fun h=>absurd hl h) (fun _=> ?_) (fun _=>rfl) (fun h=>by omega)
    ·exact (D.grow_nil _ _ _ hf).symm
    ·rw [D.grow_length];exact hf
   ·rw [q2,Aa,e];exact refS hs sec cs k (i+1) _ _ _ _ rfl rfl (fun _=>rfl) (fun h=>by rw [h];simp) (fun _=>rfl) (fun h=>by omega)
theorem refS0 (hs: ∀a b,D.same a b=true↔a=b) (sec:Int→List β) (cs:List Int):D.ref sec cs (cs.length - 1) 0 [] [] 0=(D.goS sec cs (cs.length - 1) 0 ⟨[],[],0,0⟩).out :=
 (D.refS hs sec cs _ 0 _ [] [] 0 rfl rfl (fun _=>rfl) (fun _=>Ar _) (fun h=>absurd h (Co _)) (fun _=>rfl)).symm
end Dim
theorem j2m (l:List R4) (hv:l.all Vo=true) (x:Int):swV (D4.inn l x)=y9a 2 l [] x:=by
 have hin:=D4.inn_length l x;have hvi:(D4.inn l x).all z1j=true:=At.2 fun s hs=>by obtain ⟨r,hr,_,_,rfl⟩:=z7x hs;have:=At.1 hv r hr;simp only [Vo,z1j,Ac,As] at this ⊢;omega
 obtain ⟨c1,c2⟩:=y0x _ hvi;obtain ⟨y1,y2⟩:=Xm (z1o l++z1o []);have e2:y9a 2 l [] x=y3g (ysV l []) ((ysV l []).map fun y=>has4V l x y):=by
  unfold y9a
  congr 1
  exact BT fun y _=>v8m l x y
 obtain ⟨d1,d2⟩:=w7e (ysV l []) y1 (fun y=>has4V l x y) (D4.inn l x) (fun s hs=>by
  obtain ⟨r,hr,_,_,rfl⟩:=z7x hs;unfold ysV;exact ⟨(y2 _).2 (AF.2 (.inl (AN.2 ⟨r,hr,by simp⟩))),(y2 _).2 (AF.2 (.inl (AN.2 ⟨r,hr,by simp⟩)))⟩) (fun y=>by
  unfold has4V;rw [Cv];constructor
  ·rintro ⟨r,hr,h⟩;simp only [in4,Ac,As] at h;exact ⟨_,v6n hr h.1 h.2.1,h.2.2.1,h.2.2.2⟩
  ·rintro ⟨s,hs,h1,h2⟩;obtain ⟨r,hr,r1,r2,rfl⟩:=z7x hs;refine ⟨r,hr,?_⟩;simp only [in4,Ac,As];exact ⟨r1,r2,h1,h2⟩)
 rw [e2];exact w7d _ _ c1 d1 fun y=>by rw [c2,d2]
theorem j1k :swV []=[]:=by
 obtain ⟨h1,h2⟩:=y0x [] rfl;exact y1q z4r h1 fun q hq=>by obtain ⟨s,hs,_⟩:=(h2 q).1 hq;cases hs
theorem v6t {l:List R4} (hv: ∀r∈l,Vo r=true):Wh.can (joV 2 l [])∧ ∀p,ptL Wh.inB (joV 2 l []) p↔ptL Wh.inB l p:=by
 have e:joV 2 l []=(D4.goS (fun x=>swV (D4.inn l x)) (D4.cuts (l++[])) ((D4.cuts (l++[])).length - 1) 0 ⟨[],[],0,0⟩).out :=by
  rw [Az,joV,w6k,←v9r,←Dim.refS0 D4 z8s]
  congr 1
  funext x
  exact (j2m l (At.2 hv) x).symm
 rw [e];have hs: ∀x,z4r.can (swV (D4.inn l x))∧ ∀y,ptL z4r.inB (swV (D4.inn l x)) y↔ptL z4r.inB (D4.inn l x) y:=fun x=>y0x _ (Jb hv x);obtain ⟨h1,h2⟩:=Dim.goJ_can z2q z8s z4r l [] (fun s _=>swV s) (fun x=>(hs x).1) j1k;refine ⟨h1,fun ⟨x,y⟩=> ?_⟩;rw [show ptL Wh.inB _ (x,y)↔_ from h2 x y,(hs x).2,Dim.pt_inn];rfl
def u6p (l:List R6):List R6:=D6.ref (y1f 2 l []) (D6.cuts l) ((D6.cuts l).length - 1) 0 [] [] 0
theorem jo_nil :joV 2 [] []=[]:=rfl
theorem w4v {l:List R6} (hv: ∀r∈l,z3k r=true):x5r.can (u6p l)∧ ∀x y z,inS (u6p l) x y z↔inS l x y z:=by
 have e:u6p l=(D6.goS (fun z=>joV 2 (D6.inn l z) []) (D6.cuts (l++[])) ((D6.cuts (l++[])).length - 1) 0 ⟨[],[],0,0⟩).out :=by rw [Az,←Dim.refS0 D6 z8r];rfl
 rw [e];have hq: ∀z,Wh.can (joV 2 (D6.inn l z) [])∧ ∀p,ptL Wh.inB (joV 2 (D6.inn l z) []) p↔ptL Wh.inB (D6.inn l z) p:=fun z=>v6t (z8e hv z);obtain ⟨h1,h2⟩:=Dim.goJ_can z8g z8r Wh l [] (fun s _=>joV 2 s []) (fun x=>(hq x).1) jo_nil;refine ⟨h1,fun x y z=> ?_⟩;rw [y1w,y1w,show ptL x5r.inB _ (z,x,y)↔_ from h2 z (x,y),(hq z).2,Dim.pt_inn];rfl
theorem u5r (a b:List R4):xsV a b=xsV (a++b) []:=by unfold xsV z3j;rw [BS,List.flatMap_nil,Az]
theorem ys_app (a b:List R4):ysV a b=ysV (a++b) []:=by unfold ysV z1o;rw [BS,List.flatMap_nil,Az]
theorem j2n (a b:List R4) (x:Int):y9a 2 a b x=y9a 2 (a++b) [] x:=by
 unfold y9a;rw [ys_app]
 congr 1
 exact BT fun y _=>by unfold v8n y3c has4V;rw [List.any_append];show (_||_)=((_||_)||false);rw [Cg]
theorem v6u (a b:List R4): ∀(k i:Nat) (out:List R4) (last:List R2) (first:Nat),jF 2 a b k i out last first=jF 2 (a++b) [] k i out last first
 | 0,_,_,_,_=>rfl
 | k+1,i,out,last,first=>by unfold jF;rw [u5r,j2n,v6u a b k,v6u a b k]
theorem jo_app (a b:List R4):joV 2 a b=joV 2 (a++b) []:=by unfold joV;rw [u5r,v6u]
theorem at_app (a b:List R6) (z:Int):atV (a++b) z=atV a z++atV b z:=by unfold atV;rw [List.filter_append,BH]
theorem w4z (a b:List R6) (z:Int):y1f 2 a b z=y1f 2 (a++b) [] z:=by unfold y1f;rw [jo_app,←at_app,at_nil]
theorem v8h (a b:List R6):Vu a b=D6.cuts (a++b):=by rw [w4o];unfold Vu z3i;rw [BS,List.flatMap_nil,Az]
def okJ (a b:List R6):Nat→Nat→Bool
 | 0,_=>true
 | k+1,i=>bif z5n 2 a b (rd (D6.cuts (a++b)) i) then false else okJ a b k (i+1)
theorem j5l (a b:List R6): ∀(k i:Nat) (out:List R6) (last:List R4) (first:Nat),jsF 2 a b k i out last first=bif okJ a b k i then some (D6.ref (y1f 2 (a++b) []) (D6.cuts (a++b)) k i out last first) else none
 | 0,_,_,_,_=>rfl
 | k+1,i,out,last,first=>by
  unfold jsF okJ Dim.ref;rw [v8h];rcases Yx (z5n 2 a b (rd (D6.cuts (a++b)) i)) with q | q
  ·rw [q];rfl
  ·rw [q,Aa,Aa,w4z,j5l a b k,j5l a b k];have e:D6.same (y1f 2 (a++b) [] (rd (D6.cuts (a++b)) i)) last=Ur (y1f 2 (a++b) [] (rd (D6.cuts (a++b)) i)) last:=rfl;rw [e];cases (decide (0<i)&&Ur (y1f 2 (a++b) [] (rd (D6.cuts (a++b)) i)) last) <;> rfl
theorem jsO_J (a b:List R6):jsO 2 a b=bif okJ a b ((D6.cuts (a++b)).length - 1) 0 then some (u6p (a++b)) else none:=by unfold jsO;rw [j5l,v8h];rfl
theorem w2l {a b:List R6} (h:z2n 2 a b=true):Qq 2 a b=u6p (a++b)∧(u6p (a++b)).length ≤400:=by
 unfold z2n at h;unfold Qq;rw [jsO_J] at h ⊢;rcases Yx (okJ a b ((D6.cuts (a++b)).length - 1) 0) with q | q
 ·rw [q] at h ⊢;exact ⟨rfl,by have:=AA h;omega⟩
 ·rw [q] at h;cases h
theorem js_ok {a b:List R6} (hm: ∀z,z5n 2 a b z=false) (hl:(u6p (a++b)).length ≤400):z2n 2 a b=true:=by
 have ok: ∀k i,okJ a b k i=true:=fun k=>by
  induction k with
  | zero=>intro i;rfl
  | succ k ih=>intro i;unfold okJ;rw [hm];exact ih (i+1)
 unfold z2n;rw [jsO_J,ok];exact Ai (by omega)
theorem u5h {X Y:List R6} (hX:x5r.can X) (hY:x5r.can Y) (h: ∀x y z,inS X x y z↔inS Y x y z):X=Y:=
 x5r.uniq X Y hX hY fun ⟨z,x,y⟩=>by rw [←y1w,←y1w];exact h x y z
theorem w2s (l:List R6) (x y z:Int):ptL Wh.inB (D6.inn l z) (x,y)↔inS l x y z:=by rw [y1w,Dim.pt_inn];rfl
open Go.Proofs Go.Sort Go.Shelf Go.RowKit Go.Lib
def stG {β:Type}:List (Qc β)→List Int
 | []=>[]
 | [g]=>[g.a,g.b]
 | g::h::r=>g.a::stG (h::r)
theorem v3a {β:Type}: ∀G:List (Qc β),G≠ []→(stG G).length =G.length+1
 | [],h=>absurd rfl h
 | [g],_=>rfl
 | g::h::r,_=>by show (stG (h::r)).length +1=_;rw [v3a (h::r) (by simp)];rfl
section
variable {β γ:Type} {M:Sem β γ}
def chG (M:Sem β γ) (G:List (Qc β)) (x:Int):Prop:= ∃q,¬(ptG M G (x - 1) q↔ptG M G x q)
theorem x9f : ∀(g:Qc β) (r:List (Qc β)),z1r M (g::r)→ ∀x∈stG (g::r),g.a≤x
 | g,[],h,x,hx=>by
  have:=h.head.1;have hx:x∈ [g.a,g.b]:=hx;simp only [AI,BC,Cm] at hx;rcases hx with rfl | rfl <;> omega
 | g,k::r,h,x,hx=>by
  have hx:x∈g.a::stG (k::r):=hx;rcases AI.1 hx with rfl | hx
  ·exact AV _
  ·have:=x9f k r h.tail x hx;have:=h.later k (by simp);have:=h.head.1;omega
theorem v3c : ∀G:List (Qc β),z1r M G→(stG G).Pairwise (· < ·)
 | [],_=>.nil
 | [g],h=>by have:=h.head.1;show [g.a,g.b].Pairwise (· < ·);simp [this]
 | g::k::r,h=>by refine A1.2 ⟨fun x hx=> ?_,v3c (k::r) h.tail⟩;have:=x9f k r h.tail x hx;have:=h.later k (by simp);have:=h.head.1;omega
theorem x5p {g:Qc β} {r:List (Qc β)} (h:z1r M (g::r)):chG M (g::r) g.a:=by obtain ⟨q,hq⟩:=M.some _ h.head.2.1 h.head.2.2;refine ⟨q,fun e=> ?_⟩;have:=h.low (e.2 ((h.sec0 ⟨AV _,h.head.1⟩ q).2 hq));omega
theorem v3b : ∀G:List (Qc β),z1r M G→ ∀x∈stG G,chG M G x
 | [],_,x,hx=>by cases hx
 | [g],h,x,hx=>by
  have hx:x∈ [g.a,g.b]:=hx;simp only [AI,BC,Cm] at hx;rcases hx with rfl | rfl
  ·exact x5p h
  ·obtain ⟨q,hq⟩:=M.some _ h.head.2.1 h.head.2.2;have hp:=h.head.1;refine ⟨q,fun e=> ?_⟩;have:=e.1 ((h.sec0 ⟨by omega,by omega⟩ q).2 hq);obtain ⟨k,hk,_⟩:=(h.rest g.b q).2 ⟨AV _,this⟩;cases hk
 | g::k::r,h,x,hx=>by
  have hx:x∈g.a::stG (k::r):=hx;rcases AI.1 hx with rfl | hx
  ·exact x5p h
  ·have h1:=x9f k r h.tail x hx;have h2:=h.later k (by simp);have hp:=h.head.1;obtain ⟨q,hq⟩:=v3b (k::r) h.tail x hx;by_cases e:g.b<x
   ·refine ⟨q,fun k1=>hq ?_⟩;rw [h.rest,h.rest,k1];constructor <;> exact fun ⟨_,m⟩=>⟨by omega,m⟩
   ·refine A9 fun hn=> ?_;have hn: ∀q,ptG M (g::k::r) (x - 1) q↔ptG M (g::k::r) x q:=fun q=>A9 fun m=>hn ⟨q,m⟩;cases h with
    | cons _ _ _ ok nx kk=>refine nx.2 (by omega) (M.uniq _ _ ok.2.1 kk.head.2.1 fun q=> ?_);have hk:=kk.head.1;rw [←(z1r.cons g k r ok nx kk).sec0 (x:=x - 1) ⟨by omega,by omega⟩ q,hn q,←kk.sec0 (x:=x) ⟨by omega,by omega⟩ q,(z1r.cons g k r ok nx kk).rest];exact ⟨fun m=>⟨by omega,m⟩,fun m=>m.2⟩
theorem u0p {G:List (Qc β)} (h:z1r M G) (U:List Int) (hU: ∀x,chG M G x→x∈U):G.length≤U.length - 1:=by
 cases G with
 | nil=>exact AD _
 | cons g r=>have:=z9r (stG (g::r)) U ((v3c _ h).imp fun {a b} k=>by omega) fun x hx=>hU x (v3b _ h x hx);rw [v3a _ (by simp)] at this;omega
end
theorem v8v {β γ:Type} {M:Sem β γ}: ∀G:List (Qc β),z1r M G→G.Pairwise fun g k=>g.b≤k.a
 | [],_=>.nil
 | g::r,h=>A1.2 ⟨h.later,v8v r h.tail⟩
theorem v7h {α β:Type} (D:Dim α β) (k:Nat): ∀G:List (Qc β),(∀g∈G,g.s.length≤k)→(D.flat G).length ≤G.length*k
 | [],_=>AD _
 | g::r,h=>by have ih:=v7h D k r fun x hx=>h x (by simp [hx]);have:=h g (by simp);show ((g.s.map (D.put g.a g.b))++D.flat r).length ≤_;rw [Aw,A6,AU,Nat.succ_mul];omega
theorem j8h {l:List R4} (hc:Wh.can l) (P:Int→Int→Prop) (hp: ∀x y,ptL Wh.inB l (x,y)↔P x y) (U:List Int) (hU: ∀x y,¬(P (x - 1) y↔P x y)→x∈U) (k:Nat)
  (hk: ∀(x:Int) (s:List R2),z4r.can s→(∀y,ptL z4r.inB s y↔P x y)→s.length≤k):l.length≤(U.length - 1)*k:=by
 obtain ⟨G,hG,rfl⟩:=hc;have e: ∀x y,ptG z4r G x y↔P x y:=fun x y=>by rw [←hp];exact (Dim.flat_pt z2q z4r G x y).symm
 refine AK (v7h D4 k G fun g hg=>hk g.a g.s (hG.all g hg).2.1 fun y=> ?_) (AH k (u0p hG U fun x ⟨q,hq⟩=>hU x q (by rw [←e,←e];exact hq)));have hg1:=(hG.all g hg).1;have c1:=Dim.inn_can z2q z4r g.a G hG;rw [←hp];constructor
 ·intro m;exact (Dim.flat_pt z2q z4r G g.a y).2 ⟨g,hg,AV _,hg1,m⟩
 ·intro m;obtain ⟨k,hk,k1,k2,k3⟩:=(Dim.flat_pt z2q z4r G g.a y).1 m;have:k=g:=by
   obtain ⟨i,hi,ei⟩:=AS hg;obtain ⟨j,hj,ej⟩:=AS hk;have pw:=v8v G hG;have pw:=Bk.1 pw;rcases Bt i j with q | q | q
   ·have:=pw i j hi hj q;rw [ei,ej] at this;omega
   ·subst q;rw [←ei,ej]
   ·have:=pw j i hj hi q;have:=(hG.all k hk).1;rw [ei,ej] at*;omega
  rw [←this];exact k3
theorem j0p (c:Nat): ∀(l E:List Int),l.Pairwise (· ≠ ·)→(∀x∈l,c≤E.count x)→c*l.length≤E.length
 | [],E,_,_=>AD _
 | x::l,E,h,hs=>by
  obtain ⟨h1,h2⟩:=A1.1 h;have hx:=hs x (by simp);have:=j0p c l (E.filter fun y=> !(y == x)) h2 fun y hy=>by rw [List.count_filter (by simp [(h1 y hy).symm])];exact hs y (by simp [hy])
  have e:E.length=E.count x+(E.filter fun y=> !(y == x)).length :=by
   have:=List.length_eq_countP_add_countP (fun y=>y == x) (l:=E);rw [this,List.countP_eq_length_filter (p:=fun a=>decide ¬(a == x)=true)]
   congr 2
   refine List.filter_congr fun a _=> ?_;cases a == x <;> rfl
  rw [AU,Nat.mul_succ];omega
theorem j1t {s:List R2} (hc:z4r.can s) (E:List Int) (c:Nat) (hE: ∀y,¬(ptL z4r.inB s (y - 1)↔ptL z4r.inB s y)→c≤E.count y):c*(2*s.length)≤E.length:=by have hc:Can s:=hc;have:=j0p c (y0o s) E ((y0n hc).imp fun {a b} k=>by omega) fun y hy=>hE y fun e=>chg hc hy e;rwa [Qr] at this
def endsQ (q:Ax) (L:List R6):List Int:=L.flatMap fun r=>[q.lo r,q.hi r]
def plQ (q:Ax) (L:List R6):List Int:=Js (endsQ q L)
def Ax.inB (q:Ax) (r:R6) (p u v:Int):Prop:=(q.lo r≤p∧p<q.hi r)∧((q.rc r).a ≤u∧u<(q.rc r).c)∧((q.rc r).b ≤v∧v<(q.rc r).d)
def Ax.inL (q:Ax) (L:List R6) (p u v:Int):Prop:= ∃r∈L,q.inB r p u v
def Ax.to (q:Ax) (p u v:Int):Int×Int×Int:=match q with
 | .x =>(p,u,v)
 | .y =>(u,p,v)
 | .z =>(u,v,p)
theorem Ax.inL_S (q:Ax) (L:List R6) (p u v:Int):q.inL L p u v↔inS L (q.to p u v).1 (q.to p u v).2.1 (q.to p u v).2.2:=by
 cases q <;> constructor <;> rintro ⟨r,hr,h1,h2,h3⟩
 ·exact ⟨r,hr,h1,h2,h3⟩
 ·exact ⟨r,hr,h1,h2,h3⟩
 ·exact ⟨r,hr,h2,h1,h3⟩
 ·exact ⟨r,hr,h2,h1,h3⟩
 ·exact ⟨r,hr,h2,h3,h1⟩
 ·exact ⟨r,hr,h3,h1,h2⟩
theorem j4w (l:List R4) (u v:Int):ptL Wh.inB l (u,v)↔ ∃r∈l,(r.a≤u∧u<r.c)∧(r.b≤v∧v<r.d):=by
 constructor
 ·rintro ⟨r,hr,h1,h2,h3,h4⟩;exact ⟨r,hr,⟨h1,h2⟩,h3,h4⟩
 ·rintro ⟨r,hr,⟨h1,h2⟩,h3,h4⟩;exact ⟨r,hr,h1,h2,h3,h4⟩
theorem x7q (q:Ax) (L:List R6) (p u v:Int):ptL Wh.inB (z7c q L p) (u,v)↔q.inL L p u v:=by
 rw [j4w];constructor
 ·rintro ⟨s,hs,h⟩;obtain ⟨r,hr,rfl⟩:=AQ.1 hs;obtain ⟨h1,h2⟩:=A2.1 hr;simp only [Ac,As] at h2;exact ⟨r,h1,h2,h⟩
 ·rintro ⟨r,hr,h1,h2⟩;exact ⟨q.rc r,AQ.2 ⟨r,A2.2 ⟨hr,by simp only [Ac,As];exact h1⟩,rfl⟩,h2⟩
theorem Ax.val (q:Ax) {r:R6} (h:z3k r=true):Vo (q.rc r)=true∧q.lo r<q.hi r∧ -1000000≤q.lo r∧q.hi r≤1000000:=by
 have:=z0w h;cases q
 ·refine ⟨?_,by show r.a<r.d;omega,by show _≤r.a;omega,by show r.d≤_;omega⟩;show Vo ⟨r.b,r.c,r.e,r.f⟩=true;simp only [Vo,Ac,As]
  (repeat' apply And.intro) <;> omega
 ·refine ⟨?_,by show r.b<r.e;omega,by show _≤r.b;omega,by show r.e≤_;omega⟩;show Vo ⟨r.a,r.c,r.d,r.f⟩=true;simp only [Vo,Ac,As]
  (repeat' apply And.intro) <;> omega
 ·refine ⟨?_,by show r.c<r.f;omega,by show _≤r.c;omega,by show r.f≤_;omega⟩;show Vo ⟨r.a,r.b,r.d,r.e⟩=true;simp only [Vo,Ac,As]
  (repeat' apply And.intro) <;> omega
theorem y2d (q:Ax) {L:List R6} (hv: ∀r∈L,z3k r=true) (p:Int): ∀s∈z7c q L p,Vo s=true:=fun s hs=>by obtain ⟨r,hr,rfl⟩:=AQ.1 hs;exact (q.val (hv r (A2.1 hr).1)).1
theorem x4o (q:Ax) (L:List R6) (p:Int):(z7c q L p).length ≤L.length:=by unfold z7c;rw [A6];exact Cf _ _
theorem x4r {l:List R4} (hc:Wh.can l) (hb: ∀u v,ptL Wh.inB l (u,v)→(-1000000≤u∧u<1000000)∧(-1000000≤v∧v<1000000)): ∀r∈l,Vo r=true:=fun r hr=>by
 have hp:r.a<r.c∧r.b<r.d:=by obtain ⟨G,hG,e⟩:=hc;rw [e] at hr;obtain ⟨g,hg,hr⟩:=AN.1 hr;obtain ⟨b,hb,rfl⟩:=AQ.1 hr;obtain ⟨h1,h2,_⟩:=hG.all g hg;exact ⟨h1,Can.pos h2 b hb⟩
 have h1:=hb r.a r.b ((j4w _ _ _).2 ⟨r,hr,by omega,by omega⟩);have h2:=hb (r.c - 1) (r.d - 1) ((j4w _ _ _).2 ⟨r,hr,by omega,by omega⟩);simp only [Vo,Ac,As];omega
theorem x2t {l:List R4} (hv: ∀r∈l,Vo r=true) {u v:Int} (h:ptL Wh.inB l (u,v)):(-1000000≤u∧u<1000000)∧(-1000000≤v∧v<1000000):=by obtain ⟨r,hr,h1,h2⟩:=(j4w _ _ _).1 h;have:=hv r hr;simp only [Vo,Ac,As] at this;omega
structure Few (c l:List R4) (n:Nat):Prop where
 can:Wh.can l
 pts: ∀u v,ptL Wh.inB l (u,v)↔ptL Wh.inB c (u,v)
 val: ∀r∈l,Vo r=true
 len:l.length≤n*n
 sec: ∀x,(D4.inn l x).length ≤n
theorem j4x {l:List R4} (hv: ∀r∈l,Vo r=true) (hl:l.length≤400):(D4.out l).length ≤l.length*l.length:=by
 have h:=z1b 0 hv (fun r (h:r∈([]:List R4))=>by cases h);have e:rgJ 0 l []=D4.out l:=Wh.uniq _ _ h.1 (z3q hv hl).1 fun p=>by rw [h.2.1,(z3q hv hl).2];have: ¬ptL Wh.inB ([]:List R4) p:=y6x _ _;by_cases hp:ptL Wh.inB l p <;> simp [opB,hp,this]
 have:=h.2.2;rw [e] at this;exact this
theorem x4f {l:List R4} (hc:Wh.can l) (x:Int):z4r.can (D4.inn l x):=by obtain ⟨G,hG,e⟩:=hc;rw [e];exact Dim.inn_can z2q z4r x G hG
theorem v7m {c:List R4} (hv: ∀r∈c,Vo r=true) (hl:c.length≤20):Few c (D4.out c) c.length:=by
 obtain ⟨h1,h2⟩:=z3q hv (by omega);refine ⟨h1,fun u v=>h2 (u,v),x4r h1 fun u v h=>x2t hv ((h2 _).1 h),j4x hv (by omega),fun x=> ?_⟩;have h3:=z5v 0 (a:=D4.inn c x) (b:=[]) (Jb hv x) rfl;have h4:=y6n 0 (a:=D4.inn c x) (b:=[]) (Jb hv x) rfl;have e:spJ 0 (D4.inn c x) []=D4.inn (D4.out c) x:=z4r.uniq _ _ h4.1 (x4f h1 x) fun y=>by
  rw [h4.2];have a1:=y6y c x y;have a2:=y6y (D4.out c) x y;have: ¬pt [] y:=fun ⟨_,h,_⟩=>by cases h
  show _↔pt (D4.inn (D4.out c) x) y;rw [a2,h2,←a1];by_cases hp:pt (D4.inn c x) y <;> simp [opB,hp,this]
 rw [←e];have:=D4.inn_length c x;simp only [Bs] at h3;omega
theorem w5l {l:List R4} (hl:l.length≤400) (hv: ∀r∈l,Vo r=true) (hc:Wh.can l):y2y l=0:=by
 obtain ⟨h1,h2⟩:=z3q hv hl;have e:D4.out l=l:=Wh.uniq _ _ h1 hc h2;have m1:z2d l=0:=by show y9l (D4.out l).length =0;rw [e];unfold y9l;rw [An (by omega)];rfl
 have m0:Wp l=l:=by unfold Wp z4t;rw [show j0f l=0 from m1,e];rfl
 unfold y2y rgcF;rw [An (by omega),At.2 hv,m1,m0,show Ur l l=true from Ai rfl];rfl
theorem w3c {E:Int→Int} {cs:List Int} (h: ∀x,E x=0): ∀k i,y9c E cs k i=0
 | 0,i=>rfl
 | k+1,i=>by show (bif E (rd cs i) != 0 then E (rd cs i) else y9c E cs k (i+1))=0;rw [h];exact w3c h k (i+1)
theorem x3q (o:Op) {a b:List R4} (la:a.length≤400) (lb:b.length≤400) (va: ∀r∈a,Vo r=true) (vb: ∀r∈b,Vo r=true) (ca:Wh.can a) (cb:Wh.can b)
  (sa: ∀x,(D4.inn a x).length +(D4.inn b x).length ≤400) (lj:(rgJ o.k a b).length ≤400):rgE o a b=0:=by
 have sc: ∀(l:List R4) (x:Int),l.length≤400→(∀r∈l,Vo r=true)→Wh.can l→x0s (D4.inn l x)=0:=fun l x hl hv hc=>
  (x3f _).2 ⟨AK (D4.inn_length l x) hl,Jb hv x,x4f hc x⟩
 have hz: ∀x,rgA o a b x=0:=fun x=>by unfold rgA spE;rw [sc a x la va ca,sc b x lb vb cb];have:=z5v o.k (Jb va x) (Jb vb x);show y9l _=0;unfold y9l;rw [An (by have:=sa x;omega)];rfl
 unfold rgE;rw [w5l la va ca,w5l lb vb cb,w3c hz];show y9l _=0;unfold y9l;rw [An (by omega)];rfl
def hiL (q:Ax) (L:List R6) (p:Int):List R4:=(L.filter fun r=>decide (q.hi r=p)).map q.rc
def loL (q:Ax) (L:List R6) (p:Int):List R4:=(L.filter fun r=>decide (q.lo r=p)).map q.rc
theorem v2q (q:Ax) {L:List R6} (hv: ∀r∈L,q.lo r<q.hi r) (p:Int):(hiL q L p).length +(loL q L p).length ≤L.length:=by
 unfold hiL loL;rw [A6,A6]
 induction L with
 | nil=>exact Ar _
 | cons r L ih=>
  have ih:=ih fun s hs=>hv s (by simp [hs]);have:=hv r (by simp);rw [BW,BW];by_cases h1:q.hi r=p
  ·rw [AC (by simp [h1]),Ay (by simp;omega)];simp only [AU];omega
  ·rw [Ay (by simp [h1])];by_cases h2:q.lo r=p
   ·rw [AC (by simp [h2])];simp only [AU];omega
   ·rw [Ay (by simp [h2])];simp only [AU];omega
theorem hi_pt (q:Ax) (L:List R6) (p u v:Int):ptL Wh.inB (hiL q L p) (u,v)↔ ∃r∈L,q.hi r=p∧((q.rc r).a ≤u∧u<(q.rc r).c)∧((q.rc r).b ≤v∧v<(q.rc r).d):=by
 rw [j4w];constructor
 ·rintro ⟨s,hs,h⟩;obtain ⟨r,hr,rfl⟩:=AQ.1 hs;obtain ⟨h1,h2⟩:=A2.1 hr;exact ⟨r,h1,AA h2,h⟩
 ·rintro ⟨r,hr,h1,h2⟩;exact ⟨q.rc r,AQ.2 ⟨r,A2.2 ⟨hr,Ai h1⟩,rfl⟩,h2⟩
theorem lo_pt (q:Ax) (L:List R6) (p u v:Int):ptL Wh.inB (loL q L p) (u,v)↔ ∃r∈L,q.lo r=p∧((q.rc r).a ≤u∧u<(q.rc r).c)∧((q.rc r).b ≤v∧v<(q.rc r).d):=by
 rw [j4w];constructor
 ·rintro ⟨s,hs,h⟩;obtain ⟨r,hr,rfl⟩:=AQ.1 hs;obtain ⟨h1,h2⟩:=A2.1 hr;exact ⟨r,h1,AA h2,h⟩
 ·rintro ⟨r,hr,h1,h2⟩;exact ⟨q.rc r,AQ.2 ⟨r,A2.2 ⟨hr,Ai h1⟩,rfl⟩,h2⟩
theorem Ap6.not (q:Ax) {r s:R6} (h:Ap6 r s) {p u v:Int} (h1:q.inB r p u v) (h2:q.inB s p u v):False:=by obtain ⟨a1,a2,a3⟩:=h1;obtain ⟨b1,b2,b3⟩:=h2;unfold Ap6 at h;cases q <;> simp only [Ax.lo,Ax.hi,Ax.rc] at* <;> omega
theorem u9h {L:List R6} (hL:L.Pairwise Ap6) (q:Ax) {r s:R6} (hr:r∈L) (hs:s∈L) {p u v:Int} (h1:q.inB r p u v) (h2:q.inB s p u v):r=s:=by
 obtain ⟨i,hi,ei⟩:=AS hr;obtain ⟨j,hj,ej⟩:=AS hs;have pw:=Bk.1 hL;rcases Bt i j with h | h | h
 ·have:=pw i j hi hj h;rw [ei,ej] at this;exact (this.not q h1 h2).elim
 ·subst h;exact ei.symm.trans ej
 ·have:=pw j i hj hi h;rw [ei,ej] at this;exact (this.not q h2 h1).elim
theorem v9z (q:Ax) {L:List R6} (hL:L.Pairwise Ap6) (hv: ∀r∈L,q.lo r<q.hi r) (p u v:Int):
  (q.inL L (p - 1) u v∧ ¬q.inL L p u v)↔(ptL Wh.inB (hiL q L p) (u,v)∧ ¬ptL Wh.inB (loL q L p) (u,v)):=by
 rw [hi_pt,lo_pt];constructor
 ·rintro ⟨⟨r,hr,h1,h2⟩,h3⟩;refine ⟨⟨r,hr,?_,h2⟩,fun ⟨s,hs,k1,k2⟩=>h3 ⟨s,hs,⟨by omega,by have:=hv s hs;omega⟩,k2⟩⟩;refine A9 fun hn=>h3 ⟨r,hr,⟨by omega,by omega⟩,h2⟩
 ·rintro ⟨⟨r,hr,h1,h2⟩,h3⟩;have hlt:=hv r hr;have hb:q.inB r (p - 1) u v:=⟨⟨by omega,by omega⟩,h2⟩
  refine ⟨⟨r,hr,hb⟩,fun ⟨s,hs,k1,k2⟩=> ?_⟩;by_cases e:q.lo s=p
  ·exact h3 ⟨s,hs,e,k2⟩
  ·have:=u9h hL q hr hs hb ⟨⟨by omega,by omega⟩,k2⟩;subst this;omega
theorem v1d (q:Ax) {L:List R6} (hL:L.Pairwise Ap6) (hv: ∀r∈L,q.lo r<q.hi r) (p u v:Int):
  (q.inL L p u v∧ ¬q.inL L (p - 1) u v)↔(ptL Wh.inB (loL q L p) (u,v)∧ ¬ptL Wh.inB (hiL q L p) (u,v)):=by
 rw [hi_pt,lo_pt];constructor
 ·rintro ⟨⟨r,hr,h1,h2⟩,h3⟩;refine ⟨⟨r,hr,?_,h2⟩,fun ⟨s,hs,k1,k2⟩=>h3 ⟨s,hs,⟨by have:=hv s hs;omega,by omega⟩,k2⟩⟩;refine A9 fun hn=>h3 ⟨r,hr,⟨by omega,by omega⟩,h2⟩
 ·rintro ⟨⟨r,hr,h1,h2⟩,h3⟩;have hlt:=hv r hr;have hb:q.inB r p u v:=⟨⟨by omega,by omega⟩,h2⟩
  refine ⟨⟨r,hr,hb⟩,fun ⟨s,hs,k1,k2⟩=> ?_⟩;by_cases e:q.hi s=p
  ·exact h3 ⟨s,hs,e,k2⟩
  ·have:=u9h hL q hr hs hb ⟨⟨by omega,by omega⟩,k2⟩;subst this;omega
def upF (q:Ax) (L:List R6) (p:Int):List R4:=rgJ 2 (D4.out (z7c q L (p - 1))) (D4.out (z7c q L p))
def dnF (q:Ax) (L:List R6) (p:Int):List R4:=rgJ 2 (D4.out (z7c q L p)) (D4.out (z7c q L (p - 1)))
section
variable (q:Ax) {L:List R6} (hv: ∀r∈L,z3k r=true) (hl:L.length≤20) (hL:L.Pairwise Ap6)
include hv hl
theorem fw (p:Int):Few (z7c q L p) (D4.out (z7c q L p)) (z7c q L p).length :=v7m (y2d q hv p) (AK (x4o q L p) hl)
theorem v2l (p:Int):Wh.can (upF q L p)∧ ∀u v,ptL Wh.inB (upF q L p) (u,v)↔(q.inL L (p - 1) u v∧ ¬q.inL L p u v):=by have f1:=fw q hv hl (p - 1);have f2:=fw q hv hl p;obtain ⟨h1,h2,_⟩:=z1b 2 f1.val f2.val;refine ⟨h1,fun u v=> ?_⟩;rw [show ptL Wh.inB (upF q L p) (u,v)↔_ from h2 (u,v),←x7q,←x7q,←f1.pts,←f2.pts];simp [opB]
theorem v8c (p:Int):Wh.can (dnF q L p)∧ ∀u v,ptL Wh.inB (dnF q L p) (u,v)↔(q.inL L p u v∧ ¬q.inL L (p - 1) u v):=by have f1:=fw q hv hl (p - 1);have f2:=fw q hv hl p;obtain ⟨h1,h2,_⟩:=z1b 2 f2.val f1.val;refine ⟨h1,fun u v=> ?_⟩;rw [show ptL Wh.inB (dnF q L p) (u,v)↔_ from h2 (u,v),←x7q,←x7q,←f1.pts,←f2.pts];simp [opB]
include hL
theorem v9y (p:Int):(upF q L p).length +(dnF q L p).length ≤((hiL q L p).length +(loL q L p).length)*((hiL q L p).length +(loL q L p).length):=by
 have hr: ∀r∈L,q.lo r<q.hi r:=fun r h=>(q.val (hv r h)).2.1;have va: ∀s∈hiL q L p,Vo s=true:=fun s hs=>by obtain ⟨r,hr,rfl⟩:=AQ.1 hs;exact (q.val (hv r (A2.1 hr).1)).1
 have vb: ∀s∈loL q L p,Vo s=true:=fun s hs=>by obtain ⟨r,hr,rfl⟩:=AQ.1 hs;exact (q.val (hv r (A2.1 hr).1)).1
 obtain ⟨a1,a2,_⟩:=z1b 2 va vb;obtain ⟨b1,b2,_⟩:=z1b 2 vb va;obtain ⟨u1,u2⟩:=v2l q hv hl p;obtain ⟨d1,d2⟩:=v8c q hv hl p;have e1:upF q L p=rgJ 2 (hiL q L p) (loL q L p):=Wh.uniq _ _ u1 a1 fun ⟨u,v⟩=>by rw [u2,v9z q hL hr,a2];simp [opB]
 have e2:dnF q L p=rgJ 2 (loL q L p) (hiL q L p):=Wh.uniq _ _ d1 b1 fun ⟨u,v⟩=>by rw [d2,v1d q hL hr,b2];simp [opB]
 rw [e1,e2];exact u2u va vb
end
def fcF (q:Ax) (s:Bool) (L:List R6) (p:Int):List R4:=match s with
 | true=>upF q L p
 | false=>dnF q L p
theorem x3u (q:Ax) (L:List R6):(plQ q L).Pairwise (· < ·):=by unfold plQ;rw [Kr];exact (Xm _).1
theorem x8z (a:Int): ∀P:List Int,P.Pairwise (· < ·)→(P.map fun p=>if a=p then 1 else 0).sum ≤1
 | [],_=>AD _
 | p::P,h=>by
  obtain ⟨h1,h2⟩:=A1.1 h;rw [AY,Bz];by_cases e:a=p
  ·rw [AC e];have:(P.map fun p=>if a=p then 1 else 0)=P.map fun _=>0:=BT fun x hx=>by have:=h1 x hx;rw [Ay (by omega)]
   rw [this];have: ∀l:List Int,(l.map fun _=>0).sum =0:=fun l=>by induction l with
    | nil=>rfl
    | cons _ _ ih=>rw [AY,Bz,ih]
   rw [this];exact Ar _
  ·rw [Ay e];have:=x8z a P h2;omega
theorem y6e (f:R6→Int) (P:List Int) (hP:P.Pairwise (· < ·)) (g:R6→R4): ∀L:List R6,(P.map fun p=>((L.filter fun r=>decide (f r=p)).map g).length).sum ≤L.length
 | []=>by
  have: ∀l:List Int,(l.map fun p=>((([]:List R6).filter fun r=>decide (f r=p)).map g).length).sum =0:=fun l=>by induction l with
   | nil=>rfl
   | cons _ _ ih=>rw [AY,Bz,ih];rfl
  rw [this];exact AD _
 | r::L=>by
  have ih:=y6e f P hP g L;have h1:=x8z (f r) P hP;have: ∀l:List Int,(l.map fun p=>(((r::L).filter fun r=>decide (f r=p)).map g).length).sum =(l.map fun p=>if f r=p then 1 else 0).sum +(l.map fun p=>((L.filter fun r=>decide (f r=p)).map g).length).sum :=fun l=>by
   induction l with
   | nil=>rfl
   | cons p l ih=>
    rw [AY,AY,AY,Bz,Bz,Bz,ih,BW];by_cases e:f r=p
    ·rw [AC (Ai e),AC e,AY,AU];omega
    ·rw [Ay (by simp [e]),Ay e];omega
  rw [this,AU];omega
theorem y2b {α β:Type} {f g:α→List β}: ∀{l:List α},(∀a∈l,f a=g a)→l.flatMap f=l.flatMap g
 | [],_=>rfl
 | a::l,h=>by rw [Ct,Ct,h a (by simp),y2b fun x hx=>h x (by simp [hx])]
end Go.Am
end
