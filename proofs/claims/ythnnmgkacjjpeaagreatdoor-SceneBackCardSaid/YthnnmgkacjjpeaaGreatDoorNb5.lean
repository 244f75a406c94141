/- A part of a proof: several texts in one. -/
import Derived.Test.YthnnmgkacjjpeaaGreatDoorNb4
set_option maxRecDepth 1000000
set_option maxHeartbeats 8000000
set_option linter.unusedVariables false
set_option linter.unusedSimpArgs false
noncomputable section
namespace Go.Am
open IntKind (wrap)
open Go.Proofs.Tryz
open Go.Proofs Go.Lib Go.Sort
def C3 (l:List B5):Nat->Int->List (List UInt8)
 | 0,_=>[]
 | k+1,i=>bif decide (0<=i) then (rd l i.toNat).n ::C3 l k (rd l i.toNat).a else []
def FP (l:List B5) (i:Nat):Bool:=(List.range (i+1)).all fun j=>decide (-1<=(rd l j).a)&&decide ((rd l j).a <(j:Int))
def Wv (l:List B5) (i:Int):List UInt8:=Lib.join (C3 l (i.toNat+1) i).reverse [47]
def Vx (l:List B5) (i:Int):Bool:=decide (0<=i/\i<(l.length:Int))&&(decide (l.length<=1000)&&(FP l i.toNat&&l.all fun x=>decide (x.n.length<=500)))
theorem EC {l:List B5} {i j:Nat} (h:FP l i=true) (hj:j<=i): -1<=(rd l j).a /\(rd l j).a <(j:Int):=by have:=Ax.1 h j (A2.2 (by omega));rwa [Ad,Ak,Ak] at this
theorem u2n {l:List B5} {i j:Nat} (h:FP l i=true) (hj:j<=i):FP l j=true:=Ax.2 fun k hk=>by have:=EC h (show k<=i by have:=A2.1 hk;omega);rw [Ad,Ak,Ak];exact this
theorem LZ (l:List B5) (k:Nat) {i:Int} (h: ¬0<=i):C3 l k i=[]:=by
 cases k with
 | zero=>rfl
 | succ k=>unfold C3;rw [Ai h];rfl
theorem w4z {l:List B5} {t:Nat} (ht:FP l t=true): ∀(k m:Nat) (i:Int),i<=(t:Int)->i<(k:Int)->i<(m:Int)->C3 l k i=C3 l m i
 | 0,m,i,h0,h1,h2=>by rw [LZ l 0 (by omega),LZ l m (by omega)]
 | k+1,0,i,h0,h1,h2=>by rw [LZ l (k+1) (by omega),LZ l 0 (by omega)]
 | k+1,m+1,i,h0,h1,h2=>by
  unfold C3;by_cases h:0<=i
  .obtain ⟨j,rfl⟩: ∃j:Nat,i=(j:Int):=⟨i.toNat,by omega⟩
   have hb:=EC ht (show j<=t by omega);rw [Aa h,Af,Af,Zj,w4z ht k m (rd l j).a (by omega) (by omega) (by omega)]
  .rw [Ai h];rfl
theorem x9m (l:List B5): ∀(k:Nat) (i:Int),(C3 l k i).length <=k
 | 0,i=>An _
 | k+1,i=>by
  unfold C3;cases decide (0<=i) with
  | true=>rw [Af,At];have:=x9m l k (rd l i.toNat).a;omega
  | false=>exact AF _
theorem RL {l:List B5} (h:(l.all fun x=>decide (x.n.length<=500))=true) (j:Nat):(rd l j).n.length <=500:=by
 by_cases hj:j<l.length
 .rw [Wb hj];exact Av (Ax.1 h _ (A3 hj))
 .have:rd l j=Xu.d:=by simp [rd,List.getD,List.getElem?_eq_none (show l.length<=j by omega)]
  rw [this];exact AF _
theorem x5o {l:List B5} (h:(l.all fun x=>decide (x.n.length<=500))=true): ∀(k:Nat) (i:Int) (p:List UInt8),p∈C3 l k i->p.length<=500
 | 0,i,p,hp=>by cases hp
 | k+1,i,p,hp=>by
  unfold C3 at hp;cases g:decide (0<=i) with
  | true=>
   rw [g,Af] at hp;cases hp with
   | head=>exact RL h _
   | tail _ hp=>exact x5o h k _ p hp
  | false=>rw [g] at hp;cases hp
theorem v6q (m:Nat): ∀(L:List (List UInt8)),(∀p∈L,p.length<=m)->Lib.lens L<=m*L.length
 | [],h=>by simp [Lib.lens]
 | x::r,h=>by
  have h1:=h x AQ;have h2:=v6q m r fun p hp=>h p (AK _ hp);have e:Lib.lens (x::r)=x.length+Lib.lens r:=by simp [Lib.lens]
  rw [e,At,Nat.mul_add];omega
theorem j3d (L:List (List UInt8)) (h: ∀p∈L,p.length<=500):(Lib.join L [47]).length <=501*L.length:=by
 cases L with
 | nil=>simp [Lib.join_nil]
 | cons x r=>have:=v6q 500 (x::r) h;rw [Lib.join_length];have e:(x::r).length =r.length+1:=rfl;rw [e] at this ⊢;show 1*r.length+_<=_;omega
theorem PJ {l:List B5} {i:Int} (h:Vx l i=true):(Wv l i).length <=1000000:=by unfold Vx at h;simp only [Ad,Ak] at h;obtain ⟨h1,h2,h3,h4⟩:=h;have:=j3d (C3 l (i.toNat+1) i).reverse fun p hp=>x5o h4 _ _ p (B1.1 hp);have hl:=x9m l (i.toNat+1) i;rw [List.length_reverse] at this;unfold Wv;omega
theorem u7j {l:List B5} {x:Int} {t:Nat} (ht:FP l t=true) (hl:l.length<=1000) {R:Xj GK}: ∀(m:Nat) (i:Int) (out:List (List UInt8)),i<(m:Int)->i<=(t:Int)->i<(l.length:Int)->out.length+m<=2000->
  (∃N,Yw (F5 l x) N (.to (.h1 (out++C3 l m i) 0 (wrap .i64 (((out++C3 l m i).length :Int) - 1))))=R)-> ∃N,Yw (F5 l x) N (.to (.h0 out i))=R
 | m,i,out,hm,hit,hil,ho,⟨N,hR⟩=>by
  by_cases h:0<=i
  .match m with
   | 0=>omega
   | m+1=>
    obtain ⟨j,rfl⟩: ∃j:Nat,i=(j:Int):=⟨i.toNat,by omega⟩
    have hb:=EC ht (show j<=t by omega);have e:F5 l x (.h0 out (j:Int))=.to (.h0 (out++[(rd l j).n]) (rd l j).a):=by unfold F5;simp only [Zj];rw [EK h,Af,Zp (P4 (by omega)),Aq,Zp (Ym (by omega))]
    have hu:C3 l (m+1) (j:Int)=(rd l j).n ::C3 l m (rd l j).a :=(by rw [C3,Aa h,Af,Zj]);rw [hu,show out++(rd l j).n ::C3 l m (rd l j).a =(out++[(rd l j).n])++C3 l m (rd l j).a by rw [AH];rfl] at hR;obtain ⟨M,hM⟩:=u7j ht hl m (rd l j).a (out++[(rd l j).n]) (by omega) (by omega) (by omega) (by rw [Ap,AJ];omega) ⟨N,hR⟩;exact ⟨M+1,by rw [Zw,e,hM]⟩
  .refine ⟨N+1,?_⟩;rw [LZ l m h,AL] at hR;rw [Zw,<-hR]
   congr 1
   unfold F5;simp only [];rw [F6 h];rfl
theorem v4v {α:Type} [Xu α] {L:List α} {i:Nat} {v:α} (hi:i<L.length) (k:Nat):rd (L.set i v) k=bif Nat.beq i k then v else rd L k:=by
 unfold rd;rw [Bc,Bc,List.getElem?_set];cases g:Nat.beq i k with
 | true=>obtain rfl:=Ah g;rw [AG rfl,AG hi];rfl
 | false=>
  have:i≠k:=fun e=>by rw [e,BC] at g;cases g
  rw [Az this];rfl
theorem j1k {L M:List (List UInt8)} (hl:M.length=L.length) (h: ∀k,k<L.length->rd M k=rd L (L.length - 1 - k)):M=L.reverse:=by apply Bo (by rw [List.length_reverse,hl]);intro k h1 h2;have:=h k (by omega);rw [Wb h1,Wb (show L.length - 1 - k<L.length by omega)] at this;rw [this,List.getElem_reverse]
theorem u7i {l:List B5} {x:Int} {L:List (List UInt8)} (hL:L.length<=2000) (hj:PP L.reverse [47]=true): ∀(d i j:Nat) (M:List (List UInt8)),M.length=L.length->i+j+1=L.length+0\/(L.length=0/\i=0/\j=0)->j - i<=d->
  (∀k,k<L.length->rd M k=bif decide (k<i)||decide (j<k) then rd L (L.length - 1 - k) else rd L k)->
  ∃N,Yw (F5 l x) N (.to (.h1 M (i:Int) (wrap .i64 ((L.length:Int) - 1 - (i:Int)))))=.ret [.str (N9 L.reverse [47])]
 | d, i,j,M,hM,hij,hd,hk=>by
  have wj:L.length≠0->wrap .i64 ((L.length:Int) - 1 - (i:Int))=(j:Int):=fun h0=>by rw [Zm (by omega)];omega
  by_cases h:i<j
  .have h0:L.length≠0:=by omega
   match d with
   | 0=>omega
   | d +1=>
    have w2:wrap .i64 ((i:Int)+1)=((i+1:Nat):Int):=Zm (by omega);have w3:wrap .i64 ((j:Int) - 1)=wrap .i64 ((L.length:Int) - 1 - ((i+1:Nat):Int)):=by congr 1;omega
    have e:F5 l x (.h1 M (i:Int) (wrap .i64 ((L.length:Int) - 1 - (i:Int))))=.to (.h1 ((M.set i (rd M j)).set j (rd M i)) ((i+1:Nat):Int) (wrap .i64 ((L.length:Int) - 1 - ((i+1:Nat):Int)))):=by rw [wj h0];unfold F5;simp only [Zj,w2,w3,Al];rw [Yb (by omega),Af,Aq,Aq,Zp (Ym (by omega)),Zp (Xc (by omega)),Zp (Ym (by omega)),Zp (Xc (by omega))]
    obtain ⟨N,hN⟩:=u7i (l:=l) (x:=x) hL hj d (i+1) (j - 1) ((M.set i (rd M j)).set j (rd M i)) (by rw [Bg,Bg,hM]) (by omega) (by omega) fun k hkl=>by
     rw [v4v (by rw [Bg];omega),v4v (by omega)];by_cases g1:j=k
     .subst g1;rw [BC,Af,hk i (by omega),Ai (show ¬i<i by omega),Ai (show ¬j<i by omega),Aa (show j - 1<j by omega),Bool.or_true];show rd L i=rd L (L.length - 1 - j)
      congr 1;omega
     .rw [show Nat.beq j k=false from by cases g:Nat.beq j k with
       | false=>rfl
       | true=>exact absurd (Ah g) g1,Ab]
      by_cases g2:i=k
      .subst g2;rw [BC,Af,hk j (by omega),Ai (show ¬j<i by omega),Ai (show ¬j<j by omega),Aa (show i<i+1 by omega)];show rd L j=rd L (L.length - 1 - i)
       congr 1;omega
      .rw [show Nat.beq i k=false from by cases g:Nat.beq i k with
        | false=>rfl
        | true=>exact absurd (Ah g) g2,Ab,hk k hkl,show decide (k<i+1)=decide (k<i) by rw [AS,Ak,Ak];omega,show decide (j - 1<k)=decide (j<k) by rw [AS,Ak,Ak];omega]
    exact ⟨N+1,by rw [Zw,e,hN]⟩
  .have hrev:M=L.reverse:=j1k hM fun k hkl=>by
    rw [hk k hkl];cases g:decide (k<i)||decide (j<k) with
    | true=>rfl
    | false=>
     rw [AT,AY,AY] at g;show rd L k=_
     congr 1;omega
   subst hrev;refine ⟨1,?_⟩;rw [Zw];have hlt: ¬(i:Int)<wrap .i64 ((L.length:Int) - 1 - (i:Int)):=by rw [Zm (by omega)];omega
   unfold F5;simp only [];rw [Yt hlt,Ab,Zp (by rw [Ad,Ad];exact ⟨rfl,Aa (by omega),Xo _⟩),Ug,Zp hj];rfl
theorem j1u (l:List B5) (i:Int) (h:Vx l i=true): ∃N,Yw (F5 l i) N (VG l i)=.ret [.str (Wv l i)]:=by
 have hp:=PJ h;unfold Vx at h;simp only [Ad,Ak] at h;obtain ⟨h1,h2,h3,h4⟩:=h;have eE:=x9m l (i.toNat+1) i;have hjo:PP (C3 l (i.toNat+1) i).reverse [47]=true:=by unfold PP;rw [Ad,Ak,Ak,List.length_reverse];exact ⟨by omega,hp⟩
 unfold VG;refine u7j h3 h2 (i.toNat+1) i [] (by omega) (by omega) (by omega) (by rw [AI];omega) ?_;rw [A1];have:=u7i (l:=l) (x:=i) (L:=C3 l (i.toNat+1) i) (by omega) hjo ((C3 l (i.toNat+1) i).length) 0 ((C3 l (i.toNat+1) i).length - 1) (C3 l (i.toNat+1) i) rfl (by omega) (by omega) fun k hk=>by rw [Ai (show ¬k<0 by omega),Ai (show ¬(C3 l (i.toNat+1) i).length - 1<k by omega)];rfl
 rw [show ((C3 l (i.toNat+1) i).length :Int) - 1 - ((0:Nat):Int)=((C3 l (i.toNat+1) i).length :Int) - 1 by omega] at this;exact this
def FV :List B3->Option (B3×Bool)
 | [a0,.int .i64 i]=>match Cc B5 a0 with
  | some (L,g,n)=>some (.str (Wv L i),CT B5 n g&&Vx L i)
  | _=>none
 | _=>none
theorem j4m {S:B6} (hS:Zv prog S):Zv prog (S.with Sa FV):=CS hS (by kernel_rfl) fun args v h=>by
 unfold FV at h;split at h
 .rename_i a0 i;split at h
  .rename_i L g n e0;simp only [Ae,Ac,Ad] at h;obtain ⟨rfl,ho0,hw⟩:=h;obtain ⟨N,hN⟩:=j1u L i hw;exact ⟨_,_,(.cons (Xh e0 ho0) (.cons (.refl _) .nil)),rfl,u1z L i N _ hN,3,rfl⟩
  .cases h
 .cases h
theorem u3o (sep x p:List UInt8): ∀R:List (List UInt8),Lib.join (R++[x,p]) sep=Lib.join (R++[x++sep++p]) sep
 | []=>by show Lib.join [x,p] sep=Lib.join [x++sep++p] sep;rw [Lib.join_one,Lib.join_cons];simp [Lib.joinTail]
 | y::R=>by rw [AZ,AZ,Lib.join_cons,Lib.join_cons];simp [Lib.joinTail]
theorem u6p {l:List B5} {x:Int} {t:Nat} (ht:FP l t=true) (hl:l.length<=1000) (hn:(l.all fun x=>decide (x.n.length<=500))=true): ∀(m:Nat) (i:Int) (p:List UInt8),i<(m:Int)->i<=(t:Int)->i<(l.length:Int)->m<=1000->p.length+501*m<=600000->
  ∃N,Yw (LU l x) N (.to (.h0 p i))=.ret [.str (Lib.join ((C3 l m i).reverse ++[p]) [47])]
 | m,i,p,hm,hit,hil,hm2,hp=>by
  by_cases h:0<=i
  .match m with
   | 0=>omega
   | m+1=>
    obtain ⟨j,rfl⟩: ∃j:Nat,i=(j:Int):=⟨i.toNat,by omega⟩
    have hb:=EC ht (show j<=t by omega);have hnl:=RL hn j;have e:LU l x (.h0 p (j:Int))=.to (.h0 (((rd l j).n ++[47])++p) (rd l j).a):=by unfold LU;simp only [Zj];rw [EK h,Af,Zp (j0g (by show _+1<=_;omega)),Zp (j0g (by rw [Ap];show _+1+_<=_;omega)),Aq,Zp (Ym (by omega))]
    have hu:C3 l (m+1) (j:Int)=(rd l j).n ::C3 l m (rd l j).a :=(by rw [C3,Aa h,Af,Zj]);obtain ⟨N,hN⟩:=u6p (x:=x) ht hl hn m (rd l j).a (((rd l j).n ++[47])++p) (by omega) (by omega) (by omega) (by omega) (by rw [Ap,Ap];show _+1+_+_<=_;omega);refine ⟨N+1,?_⟩;rw [Zw,e,hN,hu,BY,show (C3 l m (rd l j).a).reverse ++[(rd l j).n]++[p]=(C3 l m (rd l j).a).reverse ++[(rd l j).n,p] from AH _ _ _,u3o]
  .refine ⟨1,?_⟩;rw [Zw,LZ l m h,List.reverse_nil,A1,Lib.join_one];unfold LU;simp only [];rw [F6 h];rfl
theorem j0u (l:List B5) (i:Int) (h:Vx l i=true): ∃N,Yw (LU l i) N (VO l i)=.ret [.str (Wv l i)]:=by
 unfold Vx at h;simp only [Ad,Ak] at h;obtain ⟨h1,h2,h3,h4⟩:=h;obtain ⟨j,rfl⟩: ∃j:Nat,i=(j:Int):=⟨i.toNat,by omega⟩
 rw [Zj] at h3;have hb:=EC h3 (An j);have hnl:=RL h4 j;unfold VO Wv;rw [Aq,Zp (Ym h1),Zj];have hu:C3 l (j+1) (j:Int)=(rd l j).n ::C3 l j (rd l j).a :=by rw [C3,Aa (show (0:Int)<=(j:Int) by omega),Af,Zj]
 rw [hu,BY];exact u6p h3 h2 h4 j (rd l j).a (rd l j).n (by omega) (by omega) (by omega) (by omega) (by omega)
theorem j4f {S:B6} (hS:Zv prog S):Zv prog (S.with SZ FV):=CS hS (by kernel_rfl) fun args v h=>by
 unfold FV at h;split at h
 .rename_i a0 i;split at h
  .rename_i L g n e0;simp only [Ae,Ac,Ad] at h;obtain ⟨rfl,ho0,hw⟩:=h;obtain ⟨N,hN⟩:=j0u L i hw;exact ⟨_,_,(.cons (Xh e0 ho0) (.cons (.refl _) .nil)),rfl,u0u L i N _ hN,3,rfl⟩
  .cases h
 .cases h
def FT (x:B5):Bool:=decide (12<x.s.length)||decide (500<x.n.length)
def greZ (n:Nat):Bool:=decide (12<n)&&decide (n<=200)||decide (220<n)
def Ir (l:List B5):Bool:=(l.take 300).any FT||greZ l.length
theorem j3k (l:List B5):(bif decide ((l.length:Int)>12) then (bif decide ((l.length:Int)<=200) then (.ret [.bool true]) else (.ret [.bool (decide ((l.length:Int)>220))])) else (.ret [.bool (decide ((l.length:Int)>220))]):Xj GQ)=.ret [.bool (greZ l.length)]:=by
 unfold greZ;have e:decide ((l.length:Int)>220)=decide (220<l.length):=by rw [AS,Ak,Ak];omega
 rw [e];by_cases h:12<l.length
 .rw [Xv (by omega),Aa h];by_cases h2:l.length<=200
  .rw [Wc (by omega),Aa h2];rfl
  .rw [Fu (by omega),Ai h2];rfl
 .rw [Wz (by omega),Ai h];rfl
theorem u8k (l:List B5): ∀(k i:Nat),i+k=min l.length 300-> ∃N,Yw (LN l) N (.to (.h0 (i:Int)))=.ret [.bool (((l.take 300).drop i).any FT||greZ l.length)]
 | 0,i,h=>⟨1,by
  rw [Zw,Aw (by rw [Bl];omega)];unfold LN;simp only [];rw [j3k];by_cases g:i<l.length
  .rw [Yb (by omega),Af,Yt (by omega)];rfl
  .rw [Yt (by omega)];rfl⟩
 | k+1,i,h=>by
  have hi:i<l.length:=by omega
  have w2:wrap .i64 ((i:Int)+1)=((i+1:Nat):Int):=Zm (by omega);have e:LN l (.h0 (i:Int))=bif FT (rd l i) then .ret [.bool true] else .to (.h0 ((i+1:Nat):Int)):=by
   unfold LN FT;simp only [Zj,w2];rw [Yb (by omega),Af,Yb (by omega),Af,Aq,Zp (Ym (by omega))];have e1:decide (((rd l i).s.length :Int)>12)=decide (12<(rd l i).s.length):=by rw [AS,Ak,Ak];omega
   have e2:decide (((rd l i).n.length :Int)>500)=decide (500<(rd l i).n.length):=by rw [AS,Ak,Ak];omega
   rw [e1,e2];cases decide (12<(rd l i).s.length) <;> rfl
  have hd:(l.take 300).drop i=rd l i::(l.take 300).drop (i+1):=by rw [AW (show i<(l.take 300).length by rw [Bl];omega),BN,Wb hi]
  rw [hd,B2];cases g:FT (rd l i) with
  | true=>exact ⟨1,by rw [Zw,e,g];rfl⟩
  | false=>obtain ⟨N,hN⟩:=u8k l k (i+1) (by omega);exact ⟨N+1,by rw [Zw,e,g,Ab,hN,Bh]⟩
theorem j3j (l:List B5): ∃N,Yw (LN l) N (x4e l)=.ret [.bool (Ir l)]:=u8k l (min l.length 300) 0 (Al _)
def OZ :List B3->Option (B3×Bool)
 | [a0]=>match Cc B5 a0 with
  | some (L,g,n)=>some (.bool (Ir L),CT B5 n g)
  | _=>none
 | _=>none
theorem j4z {S:B6} (hS:Zv prog S):Zv prog (S.with TP OZ):=CS hS (by kernel_rfl) fun args v h=>by
 unfold OZ at h;split at h
 .rename_i a0;split at h
  .rename_i L g n e0;simp only [Ae,Ac] at h;obtain ⟨rfl,ho0⟩:=h;obtain ⟨N,hN⟩:=j3j L;exact ⟨_,_,(.cons (Xh e0 ho0) .nil),rfl,u3v L N _ hN,3,rfl⟩
  .cases h
 .cases h
def Tq :B6:=((Tr.with Sa FV).with SZ FV).with TP OZ
theorem Qh :Zv prog Tq:=j4z (j4f (j4m Ui))
inductive II where
def Nu (aO:Int) (bD:Int) (bE:Int) (bC:Int):II->CG
 :=nofun
def w3n (aO:Int) (bD:Int) (bE:Int) (bC:Int):II->Xj II
 :=nofun
def RT (aO:Int) (bD:Int) (bE:Int) (bC:Int):Xj II:=(bif (decide (aO>=24)) then (.ret [(.int .i64 8)]) else (bif (decide ((Cz (Cz bD bE) bC)>=(-1000000))) then (bif (!(decide ((Cy (Cy bD bE) bC)<=1000000))) then (.ret [(.int .i64 8)]) else (.ret [(.int .i64 0)])) else (.ret [(.int .i64 8)])))
theorem v1i (aO:Int) (bD:Int) (bE:Int) (bC:Int): ∀s,Wp prog (Zy prog 56) (Nu aO bD bE bC) (Nu aO bD bE bC s) (w3n aO bD bE bC s)
 :=nofun
theorem w3o (aO:Int) (bD:Int) (bE:Int) (bC:Int):Wp prog (Zy prog 56) (Nu aO bD bE bC) (Zg prog 56 [(.agg [(.int .u8 aO),(.int .i64 bD),(.int .i64 bE),(.int .i64 bC)])] true []) (RT aO bD bE bC):=(lb (fun k0=>(lr 12 56 [1,0,1,0,0] 1 9 [(2,(ii 8))] (sl Qh 23 [] (b8 [2]) b7 (CE 5 []) (tt k0 nn)))) (fun k0=>(lb (fun k1=>let a:=tt k1 (tt k0 nn);(lb (fun k2=>(lr 12 56 [1,0,1,0,0] 1 9 [(2,(ii 8))] (sl Qh 52 [] (b8 [2]) b7 (bl 13 6136) (tt k2 a)))) (fun k2=>(lr 12 3 [1,1,1,1,1,1,0] 1 9 [(2,(ii 0))] (sl Qh 53 [] (b8 [2]) b7 (bl 13 2040) (tt k2 a)))))) (fun k1=>(lr 12 56 [1,0,1,0,0] 1 9 [(2,(ii 8))] (sl Qh 52 [] (b8 [2]) b7 (bl 13 4096) (tt k1 (tt k0 nn))))))))
theorem u4g (aO:Int) (bD:Int) (bE:Int) (bC:Int) (n:Nat) (vs:List B3) (h:Yw (w3n aO bD bE bC) n (RT aO bD bE bC)=.ret vs):Kj prog (Zy prog 56) (Zg prog 56 [(.agg [(.int .u8 aO),(.int .i64 bD),(.int .i64 bE),(.int .i64 bC)])] true []) vs:=by have:=Ze (v1i aO bD bE bC) n _ (w3o aO bD bE bC);rwa [h] at this
inductive Hh where
def M9 (aO:Int) (bD:Int) (bE:Int) (bC:Int):Hh->CG
 :=nofun
def w0x (aO:Int) (bD:Int) (bE:Int) (bC:Int):Hh->Xj Hh
 :=nofun
def QF (aO:Int) (bD:Int) (bE:Int) (bC:Int):Xj Hh:=(bif (decide (aO>=24)) then (.ret [(.int .i64 8)]) else (bif (decide (bD>=(-1000000))) then (bif (decide (bE>=(-1000000))) then (bif (decide (bC>=(-1000000))) then (bif (decide (bD<=1000000)) then (bif (decide (bE<=1000000)) then (bif (!(decide (bC<=1000000))) then (.ret [(.int .i64 8)]) else (.ret [(.int .i64 0)])) else (.ret [(.int .i64 8)])) else (.ret [(.int .i64 8)])) else (.ret [(.int .i64 8)])) else (.ret [(.int .i64 8)])) else (.ret [(.int .i64 8)])))
theorem w9i (aO:Int) (bD:Int) (bE:Int) (bC:Int): ∀s,Wp prog (Zy prog 25) (M9 aO bD bE bC) (M9 aO bD bE bC s) (w0x aO bD bE bC s)
 :=nofun
theorem w0y (aO:Int) (bD:Int) (bE:Int) (bC:Int):Wp prog (Zy prog 25) (M9 aO bD bE bC) (Zg prog 25 [(.agg [(.int .u8 aO),(.int .i64 bD),(.int .i64 bE),(.int .i64 bC)])] true []) (QF aO bD bE bC):=(lb (fun k0=>(lr 12 25 [1,0,1,0,0] 1 9 [(2,(ii 8))] (sl Qh 23 [] (b8 [2]) b7 (CE 5 []) (tt k0 nn)))) (fun k0=>(lb (fun k1=>let c:=tt k1 (tt k0 nn);(lb (fun k2=>let a:=tt k2 c;(lb (fun k3=>(lb (fun k4=>let b:=tt k4 (tt k3 a);(lb (fun k5=>(lb (fun k6=>(lr 12 25 [1,0,1,0,0] 1 9 [(2,(ii 8))] (sl Qh 64 [] (b8 [2]) b7 (bl 22 3145720) (tt k6 (tt k5 b))))) (fun k6=>(lr 12 3 [1,1,1,1,1,1,0] 1 9 [(2,(ii 0))] (sl Qh 65 [] (b8 [2]) b7 (bl 22 1048568) (tt k6 (tt k5 b))))))) (fun k5=>(lr 12 25 [1,0,1,0,0] 1 9 [(2,(ii 8))] (sl Qh 64 [] (b8 [2]) b7 (bl 22 2228216) (tt k5 b)))))) (fun k4=>(lr 12 25 [1,0,1,0,0] 1 9 [(2,(ii 8))] (sl Qh 64 [] (b8 [2]) b7 (bl 22 2113528) (tt k4 (tt k3 a))))))) (fun k3=>(lr 12 25 [1,0,1,0,0] 1 9 [(2,(ii 8))] (sl Qh 64 [] (b8 [2]) b7 (bl 22 2099192) (tt k3 a)))))) (fun k2=>(lr 12 25 [1,0,1,0,0] 1 9 [(2,(ii 8))] (sl Qh 64 [] (b8 [2]) b7 (bl 22 2097272) (tt k2 c)))))) (fun k1=>(lr 12 25 [1,0,1,0,0] 1 9 [(2,(ii 8))] (sl Qh 64 [] (b8 [2]) b7 (bl 22 2097152) (tt k1 (tt k0 nn))))))))
theorem u1j (aO:Int) (bD:Int) (bE:Int) (bC:Int) (n:Nat) (vs:List B3) (h:Yw (w0x aO bD bE bC) n (QF aO bD bE bC)=.ret vs):Kj prog (Zy prog 25) (Zg prog 25 [(.agg [(.int .u8 aO),(.int .i64 bD),(.int .i64 bE),(.int .i64 bC)])] true []) vs:=by have:=Ze (w9i aO bD bE bC) n _ (w0y aO bD bE bC);rwa [h] at this
def TM (x:Int):Bool:=decide (-1000000<=x)&&decide (x<=1000000)
def Pz (x y z:Int):Bool:=TM x&&(TM y&&TM z)
def Ck (t x y z:Int):Int:=bif decide (24<=t) then 8 else bif Pz x y z then 0 else 8
theorem w2v (x y z:Int):Pz x y z=true↔(-1000000<=x/\x<=1000000)/\(-1000000<=y/\y<=1000000)/\(-1000000<=z/\z<=1000000):=by unfold Pz TM;simp only [Ad,Ak]
theorem j3t (t x y z:Int): ∃N,Yw (w3n t x y z) N (RT t x y z)=.ret [.int .i64 (Ck t x y z)]:=⟨0,by
 show RT t x y z=_;unfold RT Ck;by_cases h:24<=t
 .rw [EK h];rfl
 .rw [F6 h,Ab,Ab];cases g:Pz x y z with
  | true=>have:=(w2v x y z).1 g;rw [RF,RF,RE,RE,EK (by omega),Wc (by omega)];rfl
  | false=>
   have: ¬((-1000000<=x/\x<=1000000)/\(-1000000<=y/\y<=1000000)/\(-1000000<=z/\z<=1000000)):=fun h=>A8.1 g ((w2v x y z).2 h);rw [RF,RF,RE,RE];by_cases h1:min (min x y) z>= -1000000
   .rw [EK h1,Af,Fu (by omega)];rfl
   .rw [F6 h1];rfl⟩
theorem j1j (t x y z:Int): ∃N,Yw (w0x t x y z) N (QF t x y z)=.ret [.int .i64 (Ck t x y z)]:=⟨0,by
 show QF t x y z=_;unfold QF Ck Pz TM;by_cases h:24<=t
 .rw [EK h];rfl
 .rw [F6 h,Ab,Ab];show (bif decide (-1000000<=x) then _ else _)=_;have e: ∀(a b:Int),decide (a>=b)=decide (b<=a):=fun a b=>rfl;rw [e y,e z];cases decide (-1000000<=x) <;> cases decide (-1000000<=y) <;> cases decide (-1000000<=z) <;> cases decide (x<=1000000) <;> cases decide (y<=1000000) <;> cases decide (z<=1000000) <;> rfl⟩
def QA :List B3->Option (B3×Bool)
 | [.agg [.int .u8 t,.int .i64 x,.int .i64 y,.int .i64 z]]=>some (.int .i64 (Ck t x y z),true)
 | _=>none
theorem j5g {S:B6} (hS:Zv prog S):Zv prog (S.with Ta QA):=CS hS (by kernel_rfl) fun args v h=>by
 unfold QA at h;split at h
 .rename_i t x y z;simp only [Ae,Ac] at h;obtain ⟨rfl,_⟩:=h;obtain ⟨N,hN⟩:=j3t t x y z;exact ⟨_,_,.cons (.refl _) .nil,rfl,u4g t x y z N _ hN,3,rfl⟩
 .cases h
theorem j4j {S:B6} (hS:Zv prog S):Zv prog (S.with S3 QA):=CS hS (by kernel_rfl) fun args v h=>by
 unfold QA at h;split at h
 .rename_i t x y z;simp only [Ae,Ac] at h;obtain ⟨rfl,_⟩:=h;obtain ⟨N,hN⟩:=j1j t x y z;exact ⟨_,_,.cons (.refl _) .nil,rfl,u1j t x y z N _ hN,3,rfl⟩
 .cases h
def Tp :B6:=(Tq.with Ta QA).with S3 QA
theorem Wa :Zv prog Tp:=j4j (j5g Qh)
inductive H3 where
 | h0 (v15:Int)
 | h1 (v29:Int) (aW:List (List UInt8×Bool))
def MS (l0:List B5):H3->CG
 | .h0 v15=>⟨⟨69,0,true⟩,none,(Zf prog 33 [1,1,0,1,0,0] 0),none,(Zy prog 9),⟨Ye [(0,(.dat l0.length (Zz l0))),(13,(.dat l0.length (Zz l0))),(14,(ii (l0.length:Int))),(15,(ii v15))],Xs [] 0,0,[],true⟩,[],.leaf⟩
 | .h1 v29 aW=>⟨⟨69,0,true⟩,none,(Zf prog 33 [1,1,1,1,0,1,0,0] 0),none,(Zy prog 9),⟨Ye [(0,(.dat l0.length (Zz l0))),(6,(.mapr 0)),(27,(.dat l0.length (Zz l0))),(28,(ii (l0.length:Int))),(29,(ii v29))],Xs [⟨[(.obj (.mb aW))],121,none⟩] 0,1,[],true⟩,[],.leaf⟩
def JJ :List (Option (List Nat)):=[some [0,13,14,15]]
def JL :List (Option (List Nat)):=[]
def JI :List (Option (List Nat)):=[some [0,6,27,28,29]]
def JK :List (Option (List Nat)):=[]
def Qg (l0:List B5):H3->Xj H3
 | .h0 v15=>(bif (decide (v15<(l0.length:Int))) then (bif ((decide (0<=v15/\v15<(l0.length:Int)))&&true) then (bif (x9z (B4 (rd l0 v15.toNat).s)) then (bif ((Vu (B4 (rd l0 v15.toNat).s)) != 0) then (.ret [(.int .i64 (Vu (B4 (rd l0 v15.toNat).s)))]) else (.to (.h0 (wrap .i64 (v15+1))))) else .stuck) else .stuck) else (.to (.h1 0 ([]:List (List UInt8×Bool)))))
 | .h1 v29 aW=>(bif (decide (v29<(l0.length:Int))) then (bif ((decide (0<=v29/\v29<(l0.length:Int)))&&true) then (bif (Um (rd l0 v29.toNat).n) then (bif (!(Cd (rd l0 v29.toNat).n)) then (.ret [(.int .i64 8)]) else (bif (decide ((rd l0 v29.toNat).a <(-1))) then (.ret [(.int .i64 8)]) else (bif (decide ((rd l0 v29.toNat).a >=v29)) then (.ret [(.int .i64 8)]) else (bif ((Ck (rd l0 v29.toNat).t (rd l0 v29.toNat).x (rd l0 v29.toNat).y (rd l0 v29.toNat).z) != 0) then (.ret [(.int .i64 8)]) else (bif (Vx (B4 l0) v29) then (bif (getK false aW (Wv (B4 l0) v29)) then (.ret [(.int .i64 8)]) else (bif (Jm (Wv (B4 l0) v29)) then (bif ((C6 (Wv (B4 l0) v29)) != 0) then (.ret [(.int .i64 8)]) else (.to (.h1 (wrap .i64 (v29+1)) (Cs aW (Wv (B4 l0) v29) true)))) else .stuck)) else .stuck))))) else .stuck) else .stuck) else (.ret [(.int .i64 0)]))
def VU (l0:List B5):Xj H3:=(bif (decide ((l0.length:Int)>200)) then (.ret [(.int .i64 4)]) else (.to (.h0 0)))
theorem w8n (l0:List B5): ∀s,Wp prog (Zy prog 33) (MS l0) (MS l0 s) (Qg l0 s)
 | .h0 v15=>(lb (fun k0=>(lo fun aG=>(lo fun aU=>let a:=ww aG (tt k0 nn);(lb (fun k1=>(lr 69 33 [1,1,0,1,0,0,1,1,0,0,1,1,1,0,0] 1 9 [(2,(ii (Vu (B4 (rd l0 (tn v15)).s))))] (sl Wa 34 [] (b8 [2]) b7 (bl 2 3) (tt k1 (pp (pp (xI R6 (rd l0 (tn v15)).s.length (Zz (rd l0 (tn v15)).s)) (xw aU)) a))))) (fun k1=>(sl Wa 36 [] ⟨[],[],JJ,JL⟩ b7 (bl 2 1) (tt k1 (pp (pp (xI R6 (rd l0 (tn v15)).s.length (Zz (rd l0 (tn v15)).s)) (xw aU)) a)))))))) (fun k0=>(sl Wa 21 [] ⟨[0],[],JI,JK⟩ b7 [false] (tt k0 nn))))
 | .h1 v29 aW=>(lb (fun k0=>(lo fun aG=>(lo fun aU=>let b:=ww aU (ww aG (tt k0 nn));(lb (fun k1=>(lr 69 33 [1,1,1,1,0,1,0,0,1,1,0,0,1,0,1,0,0] 1 9 [(2,(ii 8))] (sl Wa 48 [] (b8 [2]) b7 (CE 13 []) (tt k1 b)))) (fun k1=>(lb (fun k2=>(lr 69 33 [1,1,1,1,0,1,0,0,1,1,0,0,1,0,1,0,0] 1 9 [(2,(ii 8))] (sl Wa 48 [] (b8 [2]) b7 (bl 13 8177) (tt k2 (tt k1 b))))) (fun k2=>let c:=tt k2 (tt k1 b);(lb (fun k3=>(lr 69 33 [1,1,1,1,0,1,0,0,1,1,0,0,1,0,1,0,0] 1 9 [(2,(ii 8))] (sl Wa 48 [] (b8 [2]) b7 (bl 13 7937) (tt k3 c)))) (fun k3=>(lb (fun k4=>(lr 69 33 [1,1,1,1,0,1,0,0,1,1,0,0,1,0,1,0,0] 1 9 [(2,(ii 8))] (sl Wa 48 [] (b8 [2]) b7 (bl 13 4097) (tt k4 (tt k3 c))))) (fun k4=>(lo fun dI=>let a:=pp (pp (xr l0) (xw dI)) (tt k4 (tt k3 c));(lb (fun k5=>(lr 69 33 [1,1,1,1,0,1,0,0,1,1,0,0,1,1,1,0,1,0,0] 1 9 [(2,(ii 8))] (sl Wa 69 [] (b8 [2]) b7 (bl 17 122881) (tt k5 a)))) (fun k5=>(lo fun dV=>let d:=ww dV (tt k5 a);(lb (fun k6=>(lr 69 33 [1,1,1,1,0,1,0,0,1,1,0,0,1,1,1,0,1,0,0] 1 9 [(2,(ii 8))] (sl Wa 69 [] (b8 [2]) b7 (bl 17 65537) (tt k6 d)))) (fun k6=>(sl Wa 77 [] ⟨[0],[],JI,JK⟩ b7 (bl 17 1) (tt k6 d))))))))))))))))))) (fun k0=>(lr 69 3 [1,1,1,1,1,1,0] 1 9 [(2,(ii 0))] (sl Wa 11 [] (b8 [2]) b7 [false] (tt k0 nn)))))
theorem w0a (l0:List B5):Wp prog (Zy prog 33) (MS l0) (Zg prog 33 [(.dat l0.length (Zz l0))] true []) (VU l0):=(lb (fun k0=>(lr 69 33 [1,0,1,0,0] 1 9 [(2,(ii 4))] (sl Wa 16 [] (b8 [2]) b7 [true] (tt k0 nn)))) (fun k0=>(sl Wa 22 [] ⟨[],[],JJ,JL⟩ b7 [false] (tt k0 nn))))
theorem u0f (l0:List B5) (n:Nat) (vs:List B3) (h:Yw (Qg l0) n (VU l0)=.ret vs):Kj prog (Zy prog 33) (Zg prog 33 [(.dat l0.length (Zz l0))] true []) vs:=by have:=Ze (w8n l0) n _ (w0a l0);rwa [h] at this
inductive H9 where
 | h0 (v3:Int)
 | h1 (v4:Int)
 | h2 (v4:Int) (v6:Int) (aW:List UInt8) (aC:Int) (bW:Int) (cE:Int) (cM:Int) (cN:Int) (cH:List R6)
def MZ (l0:List B5):H9->CG
 | .h0 v3=>⟨⟨90,0,true⟩,none,(Zf prog 38 [1,1,0,1,0,0] 0),none,(Zy prog 9),⟨Ye [(0,(.dat l0.length (Zz l0))),(3,(ii v3))],Xs [] 0,0,[],true⟩,[],.leaf⟩
 | .h1 v4=>⟨⟨90,0,true⟩,none,(Zf prog 38 [1,1,1,0,1,0,0] 0),none,(Zy prog 9),⟨Ye [(0,(.dat l0.length (Zz l0))),(4,(ii v4))],Xs [] 0,0,[],true⟩,[],.leaf⟩
 | .h2 v4 v6 aW aC bW cE cM cN cH=>⟨⟨90,0,true⟩,none,(Zf prog 38 [1,1,1,0,1,0,0,1,0,0,1,1,1,0,0] 0),none,(Zy prog 9),⟨Ye [(0,(.dat l0.length (Zz l0))),(4,(ii v4)),(5,(.ptr 0 0)),(6,(ii v6))],Xs [⟨[(.str aW),(ii aC),(.int .u8 bW),(ii cE),(ii cM),(ii cN),(.dat cH.length (Zz cH))],48,none⟩] 0,1,[],true⟩,[],.leaf⟩
def J3 :List (Option (List Nat)):=[some [0,3]]
def J5 :List (Option (List Nat)):=[]
def J2 :List (Option (List Nat)):=[some [0,4]]
def J4 :List (Option (List Nat)):=[]
def j0r :List (Option (List Nat)):=[some [0,4,5,6]]
def j0s :List (Option (List Nat)):=[]
def Vt (l0:List B5):H9->Xj H9
 | .h0 v3=>(bif (decide (v3<(l0.length:Int))) then (bif ((decide (0<=v3/\v3<(l0.length:Int)))&&true) then (bif (w1d (B4 (rd l0 v3.toNat).s)) then (bif ((Ii (B4 (rd l0 v3.toNat).s)) != 0) then (.ret [(.int .i64 (Ii (B4 (rd l0 v3.toNat).s)))]) else (.to (.h0 (wrap .i64 (v3+1))))) else .stuck) else .stuck) else (.to (.h1 0)))
 | .h1 v4=>(bif (decide (v4<(l0.length:Int))) then (bif ((decide (0<=v4/\v4<(l0.length:Int)))&&true) then (bif (Um (rd l0 v4.toNat).n) then (bif (!(Cd (rd l0 v4.toNat).n)) then (.ret [(.int .i64 8)]) else (bif (decide ((rd l0 v4.toNat).a <(-1))) then (.ret [(.int .i64 8)]) else (bif (decide ((rd l0 v4.toNat).a >=v4)) then (.ret [(.int .i64 8)]) else (bif ((Ck (rd l0 v4.toNat).t (rd l0 v4.toNat).x (rd l0 v4.toNat).y (rd l0 v4.toNat).z) != 0) then (.ret [(.int .i64 8)]) else (bif (Vx (B4 l0) v4) then (bif (Jm (Wv (B4 l0) v4)) then (bif ((C6 (Wv (B4 l0) v4)) != 0) then (.ret [(.int .i64 8)]) else (.to (.h2 v4 0 (rd l0 v4.toNat).n (rd l0 v4.toNat).a (rd l0 v4.toNat).t (rd l0 v4.toNat).x (rd l0 v4.toNat).y (rd l0 v4.toNat).z (rd l0 v4.toNat).s))) else .stuck) else .stuck))))) else .stuck) else .stuck) else (.ret [(.int .i64 0)]))
 | .h2 v4 v6 aW aC bW cE cM cN cH=>(bif (decide (v6<v4)) then (bif ((decide (0<=v6/\v6<(l0.length:Int)))&&true) then (bif ((rd l0 v6.toNat).a == aC) then (bif ((rd l0 v6.toNat).n == aW) then (.ret [(.int .i64 8)]) else (.to (.h2 v4 (wrap .i64 (v6+1)) aW aC bW cE cM cN cH))) else (.to (.h2 v4 (wrap .i64 (v6+1)) aW aC bW cE cM cN cH))) else .stuck) else (.to (.h1 (wrap .i64 (v4+1)))))
def VQ (l0:List B5):Xj H9:=(bif (decide ((l0.length:Int)>200)) then (.ret [(.int .i64 4)]) else (.to (.h0 0)))
theorem w8x (l0:List B5): ∀s,Wp prog (Zy prog 38) (MZ l0) (MZ l0 s) (Vt l0 s)
 | .h0 v3=>(lb (fun k0=>(lo fun aG=>(lo fun aU=>let b:=ww aG (tt k0 nn);(lb (fun k1=>let a:=pp (xI R6 (rd l0 (tn v3)).s.length (Zz (rd l0 (tn v3)).s)) (xw aU);(lr 90 38 [1,1,0,1,0,0,1,0,0,1,0,0] 1 9 [(2,(ii (Ii (B4 (rd l0 (tn v3)).s))))] (sl Wa 33 [] (b8 [2]) b7 (bl 2 3) (pp a (ww aG (tt k1 (pp a b))))))) (fun k1=>(sl Wa 31 [] ⟨[],[],J3,J5⟩ b7 (bl 2 1) (tt k1 (pp (pp (xI R6 (rd l0 (tn v3)).s.length (Zz (rd l0 (tn v3)).s)) (xw aU)) b)))))))) (fun k0=>(sl Wa 17 [] ⟨[],[],J2,J4⟩ b7 [false] (tt k0 nn))))
 | .h1 v4=>(lb (fun k0=>(lo fun aG=>(lo fun aU=>let c:=ww aU (ww aG (tt k0 nn));(lb (fun k1=>(lr 90 38 [1,1,1,0,1,0,0,1,0,0,1,0,1,0,0] 1 9 [(2,(ii 8))] (sl Wa 58 [] (b8 [2]) b7 (CE 18 []) (tt k1 c)))) (fun k1=>let a:=tt k1 c;(lb (fun k2=>(lr 90 38 [1,1,1,0,1,0,0,1,0,0,1,0,1,0,0] 1 9 [(2,(ii 8))] (sl Wa 58 [] (b8 [2]) b7 (bl 18 262129) (tt k2 a)))) (fun k2=>(lb (fun k3=>(lr 90 38 [1,1,1,0,1,0,0,1,0,0,1,0,1,0,0] 1 9 [(2,(ii 8))] (sl Wa 58 [] (b8 [2]) b7 (bl 18 261889) (tt k3 (tt k2 a))))) (fun k3=>let d:=tt k3 (tt k2 a);(lb (fun k4=>(lr 90 38 [1,1,1,0,1,0,0,1,0,0,1,0,1,0,0] 1 9 [(2,(ii 8))] (sl Wa 58 [] (b8 [2]) b7 (bl 18 258049) (tt k4 d)))) (fun k4=>(lo fun dI=>(lo fun dY=>let b:=ww dY (pp (pp (xr l0) (xw dI)) (tt k4 d));(lb (fun k5=>(lr 90 38 [1,1,1,0,1,0,0,1,0,0,1,0,1,0,0] 1 9 [(2,(ii 8))] (sl Wa 58 [] (b8 [2]) b7 (bl 18 131073) (tt k5 b)))) (fun k5=>(sl Wa 61 [] ⟨[0],[],j0r,j0s⟩ b7 (bl 18 1) (tt k5 b))))))))))))))))) (fun k0=>(lr 90 3 [1,1,1,1,1,1,0] 1 9 [(2,(ii 0))] (sl Wa 14 [] (b8 [2]) b7 [false] (tt k0 nn)))))
 | .h2 v4 v6 aW aC bW cE cM cN cH=>(lb (fun k0=>(lo fun aG=>let a:=ww aG (tt k0 nn);(lb (fun k1=>let b:=ww aG (tt k1 a);(lb (fun k2=>(lr 90 38 [1,1,1,0,1,0,0,1,0,0,1,1,1,0,0,1,0,0,1,0,0] 1 9 [(2,(ii 8))] (sl Wa 18 [] (b8 [2]) b7 (CE 10 []) (tt k2 b)))) (fun k2=>(sl Wa 22 [] ⟨[0],[],j0r,j0s⟩ b7 (CE 9 [false]) (tt k2 b))))) (fun k1=>(sl Wa 22 [] ⟨[0],[],j0r,j0s⟩ b7 (bl 10 1) (tt k1 a)))))) (fun k0=>(sl Wa 16 [] ⟨[],[],J2,J4⟩ b7 [false] (tt k0 nn))))
theorem w0j (l0:List B5):Wp prog (Zy prog 38) (MZ l0) (Zg prog 38 [(.dat l0.length (Zz l0))] true []) (VQ l0):=(lb (fun k0=>(lr 90 38 [1,0,1,0,0] 1 9 [(2,(ii 4))] (sl Wa 16 [] (b8 [2]) b7 [true] (tt k0 nn)))) (fun k0=>(sl Wa 20 [] ⟨[],[],J3,J5⟩ b7 [false] (tt k0 nn))))
theorem u0s (l0:List B5) (n:Nat) (vs:List B3) (h:Yw (Vt l0) n (VQ l0)=.ret vs):Kj prog (Zy prog 38) (Zg prog 38 [(.dat l0.length (Zz l0))] true []) vs:=by have:=Ze (w8x l0) n _ (w0j l0);rwa [h] at this
open Go.Shelf Go.RowKit
def pt (L:List R2) (y:Int):Prop:= ∃s∈L,s.a<=y/\y<s.b
structure De (L:List R2):Prop where
 pos: ∀s∈L,s.a<s.b
 sep:L.Pairwise fun s t=>s.b<t.a
theorem De.nil :De []:=⟨by simp,.nil⟩
theorem De.tail {s:R2} {L:List R2} (h:De (s::L)):De L:=⟨fun t ht=>h.pos t (AK _ ht),(Bv.1 h.sep).2⟩
theorem De.head {s:R2} {L:List R2} (h:De (s::L)): ∀t∈L,s.b<t.a:=(Bv.1 h.sep).1
theorem u8s {s:R2} {L:List R2} (h:De (s::L)) {y:Int} (hy:pt (s::L) y):s.a<=y:=by
 obtain ⟨t,ht,h1,h2⟩:=hy;rcases AP.1 ht with rfl | ht
 .exact h1
 .have:=h.head t ht;have:=h.pos s (by simp);omega
theorem u8t : ∀(L M:List R2),De L->De M->(∀y,pt L y↔pt M y)->L=M
 | [],[],_,_,_=>rfl
 | [],t::M,_,hM,h=>by have:=(h t.a).2 ⟨t,by simp,BG _,hM.pos t (by simp)⟩;obtain ⟨s,hs,_⟩:=this;cases hs
 | s::L,[],hL,_,h=>by have:=(h s.a).1 ⟨s,by simp,BG _,hL.pos s (by simp)⟩;obtain ⟨s,hs,_⟩:=this;cases hs
 | s::L,t::M,hL,hM,h=>by
  have p1:=hL.pos s (by simp);have p2:=hM.pos t (by simp);have a1:t.a<=s.a:=u8s hM ((h s.a).1 ⟨s,by simp,BG _,p1⟩);have a2:s.a<=t.a:=u8s hL ((h t.a).2 ⟨t,by simp,BG _,p2⟩);have b1: ¬s.b<t.b:=fun hb=>by
   obtain ⟨u,hu,h1,h2⟩:=(h s.b).2 ⟨t,by simp,by omega,hb⟩;rcases AP.1 hu with rfl | hu
   .omega
   .have:=hL.head u hu;omega
  have b2: ¬t.b<s.b:=fun hb=>by
   obtain ⟨u,hu,h1,h2⟩:=(h t.b).1 ⟨s,by simp,by omega,hb⟩;rcases AP.1 hu with rfl | hu
   .omega
   .have:=hM.head u hu;omega
  have e:s=t:=by
   obtain ⟨sa,sb⟩:=s;obtain ⟨ta,tb⟩:=t;simp only at a1 a2 b1 b2;have:sa=ta:=by omega
   have:sb=tb:=by omega
   subst_vars;rfl
  subst e
  congr 1
  refine u8t L M hL.tail hM.tail fun y=>⟨fun hy=> ?_,fun hy=> ?_⟩
  .obtain ⟨u,hu,h1,h2⟩:=hy;have g:=hL.head u hu;obtain ⟨v,hv,h3,h4⟩:=(h y).1 ⟨u,by simp [hu],h1,h2⟩;rcases AP.1 hv with rfl | hv
   .omega
   .exact ⟨v,hv,h3,h4⟩
  .obtain ⟨u,hu,h1,h2⟩:=hy;have g:=hM.head u hu;obtain ⟨v,hv,h3,h4⟩:=(h y).2 ⟨u,by simp [hu],h1,h2⟩;rcases AP.1 hv with rfl | hv
   .omega
   .exact ⟨v,hv,h3,h4⟩
def push (out:List R2) (x x':Int):List R2:=
 bif decide (0<out.length)&&((rd out (out.length - 1)).b == x) then out.set (out.length - 1) ⟨(rd out (out.length - 1)).a,x'⟩ else out++[⟨x,x'⟩]
theorem v5h (out:List R2) (s:R2) (x x':Int):push (out++[s]) x x'=bif s.b == x then out++[⟨s.a,x'⟩] else out++[s]++[⟨x,x'⟩]:=by
 grind [rd,push]
theorem w5q {out:List R2} {x x':Int} (hc:De out) (hb: ∀s∈out,s.b<=x) (hx:x<x'):
  De (push out x x')/\(∀s∈push out x x',s.b<=x')/\ ∀y,pt (push out x x') y↔pt out y\/(x<=y/\y<x'):=by
 rcases List.eq_nil_or_concat out with rfl | ⟨L,s,rfl⟩
 .refine ⟨⟨?_,?_⟩,?_,fun y=> ?_⟩;all_goals simp_all [push,pt]
 .rw [List.concat_eq_append] at*;rw [v5h];have hs:=hb s (by simp);have hp:=hc.pos s (by simp);have sep:=List.pairwise_append.1 hc.sep;rcases Vr (s.b == x) with q | q
  .rw [q,Af];have q:s.b=x:=by simpa using q
   refine ⟨⟨?_,?_⟩,?_,fun y=> ?_⟩
   .intro t ht;rcases AM.1 ht with ht | ht
    .exact hc.pos t (by simp [ht])
    grind
   .grind
   .grind
   .constructor
    .rintro ⟨t,ht,h1,h2⟩;rcases AM.1 ht with ht | ht
     .exact .inl ⟨t,by simp [ht],h1,h2⟩
     .rw [AX.1 ht] at h1 h2;by_cases hy:y<s.b
      .exact .inl ⟨s,by simp,h1,hy⟩
      grind
    .rintro (⟨t,ht,h1,h2⟩ | ⟨h1,h2⟩)
     .rcases AM.1 ht with ht | ht
      .exact ⟨t,by simp [ht],h1,h2⟩
      .rw [AX.1 ht] at h1 h2;exact ⟨⟨s.a,x'⟩,by simp,h1,by grind⟩
     .exact ⟨⟨s.a,x'⟩,by simp,by grind,h2⟩
  .rw [q,Ab];have q:s.b≠x:=by simpa using q
   refine ⟨⟨?_,?_⟩,?_,fun y=> ?_⟩
   .intro t ht;rcases AM.1 ht with ht | ht
    .exact hc.pos t ht
    grind
   .grind
   .grind
   .constructor
    .rintro ⟨t,ht,h1,h2⟩;rcases AM.1 ht with ht | ht
     .exact .inl ⟨t,ht,h1,h2⟩
     grind
    .rintro (⟨t,ht,h1,h2⟩ | ⟨h1,h2⟩)
     .exact ⟨t,AM.2 (.inl ht),h1,h2⟩
     .exact ⟨⟨x,x'⟩,by simp,h1,h2⟩
theorem j2p {l:List Int} (h:l.Pairwise (· < ·)) {i j:Nat} (hij:i<j) (hj:j<l.length):rd l i<rd l j:=by rw [Wb (by omega),Wb hj];exact BO.1 h i j (by omega) hj hij
theorem x4t (cuts:List Int) (ins:List Bool) (hc:cuts.Pairwise (· < ·)): ∀(k i:Nat) (out:List R2),i+k<cuts.length\/k=0->De out->(∀s∈out,s.b<=rd cuts i)->
  De (Fe cuts ins k i out)/\ ∀y,pt (Fe cuts ins k i out) y↔pt out y\/ ∃j,i<=j/\j<i+k/\rd ins j=true/\rd cuts j<=y/\y<rd cuts (j+1)
 | 0,i,out,h,ho,hb=>⟨ho,fun y=>⟨.inl,fun hy=>hy.elim id fun ⟨j,h1,h2,_⟩=>by omega⟩⟩
 | k +1,i,out,h,ho,hb=>by
  have hlt:rd cuts i<rd cuts (i+1):=j2p hc (BJ _) (by omega);obtain ⟨p1,p2,p3⟩:=w5q ho hb hlt;have e:Fe cuts ins (k+1) i out=Fe cuts ins k (i+1) (bif rd ins i then push out (rd cuts i) (rd cuts (i+1)) else out):=rfl;rw [e];rcases Vr (rd ins i) with q | q
  .rw [q,Af];obtain ⟨r1,r2⟩:=x4t cuts ins hc k (i+1) (push out (rd cuts i) (rd cuts (i+1))) (by omega) p1 p2;refine ⟨r1,fun y=> ?_⟩;rw [r2,p3];constructor
   .rintro ((h | h) | ⟨j,h1,h2,h3⟩)
    .exact .inl h
    .exact .inr ⟨i,An _,by omega,q,h⟩
    .exact .inr ⟨j,by omega,by omega,h3⟩
   .rintro (h | ⟨j,h1,h2,h3⟩)
    .exact .inl (.inl h)
    .rcases BV h1 with rfl | h1
     .exact .inl (.inr h3.2)
     .exact .inr ⟨j,h1,by omega,h3⟩
  .rw [q,Ab];obtain ⟨r1,r2⟩:=x4t cuts ins hc k (i+1) out (by omega) ho (fun s hs=>by have:=hb s hs;omega);refine ⟨r1,fun y=> ?_⟩;rw [r2];constructor
   .rintro (h | ⟨j,h1,h2,h3⟩)
    .exact .inl h
    .exact .inr ⟨j,by omega,by omega,h3⟩
   .rintro (h | ⟨j,h1,h2,h3⟩)
    .exact .inl h
    .rcases BV h1 with rfl | h1
     .rw [q] at h3;cases h3.1
     .exact .inr ⟨j,h1,by omega,h3⟩
theorem v8l {cuts:List Int}: ∀(k:Nat),k<cuts.length-> ∀y,rd cuts 0<=y->y<rd cuts k-> ∃j,j<k/\rd cuts j<=y/\y<rd cuts (j+1)
 | 0,_,y,h1,h2=>by omega
 | k+1,hk,y,h1,h2=>by
  by_cases h:rd cuts k<=y
  .exact ⟨k,BJ _,h,h2⟩
  .obtain ⟨j,h3,h4⟩:=v8l k (by omega) y h1 (by omega);exact ⟨j,by omega,h4⟩
theorem u4w (cuts:List Int) (hc:cuts.Pairwise (· < ·)) (P:Int->Bool) (S:List R2) (hS: ∀s∈S,s.a∈cuts/\s.b∈cuts) (hP: ∀y,P y=true↔pt S y):
  De (Cx cuts (cuts.map P))/\ ∀y,pt (Cx cuts (cuts.map P)) y↔pt S y:=by
 obtain ⟨r1,r2⟩:=x4t cuts (cuts.map P) hc (cuts.length - 1) 0 [] (by omega) .nil (by simp);refine ⟨r1,fun y=> ?_⟩;unfold Cx;rw [r2];have hin: ∀x,x∈cuts-> ∃i,i<cuts.length/\rd cuts i=x:=fun x hx=>by obtain ⟨i,hi,h⟩:=A6 hx;exact ⟨i,hi,by rw [Wb hi];exact h⟩
 have hmap: ∀j,j<cuts.length->rd (cuts.map P) j=P (rd cuts j):=fun j hj=>by
  grind [Wb]
 have le_of: ∀i j,i<cuts.length->j<cuts.length->i<=j->rd cuts i<=rd cuts j:=fun i j hi hj hij=>by
  rcases BV hij with rfl | h
  .grind
  .exact Int.le_of_lt (j2p hc h hj)
 constructor
 .rintro (⟨s,hs,_⟩ | ⟨j,h1,h2,h3,h4,h5⟩)
  .cases hs
  .have hj:j+1<cuts.length:=by omega
   rw [hmap j (by omega)] at h3;obtain ⟨s,hs,a1,a2⟩:=(hP _).1 h3;obtain ⟨ca,cb⟩:=hS s hs;obtain ⟨m,hm,em⟩:=hin s.b cb;refine ⟨s,hs,by omega,?_⟩
   grind
 .rintro ⟨s,hs,a1,a2⟩;right;obtain ⟨ca,cb⟩:=hS s hs;obtain ⟨n,hn,en⟩:=hin s.a ca;obtain ⟨m,hm,em⟩:=hin s.b cb;have h0:=le_of 0 n (by omega) hn (AF _);obtain ⟨j,h1,h2,h3⟩:=v8l m hm y (by omega) (by omega);refine ⟨j,AF _,by omega,?_,h2,h3⟩;rw [hmap j (by omega),hP];refine ⟨s,hs,?_,?_⟩;all_goals grind
def Ep (E:List R3) (y:Int):Int:=(E.map fun e=>if e.a<=y then e.c else 0).sum
theorem I7 (e:R3) (E:List R3) (y:Int):Ep (e::E) y=(if e.a<=y then e.c else 0)+Ep E y:=by simp [Ep]
theorem u2t {E F:List R3} (h:E.Perm F) (y:Int):Ep E y=Ep F y:=by
 induction h with
 | nil=>rfl
 | cons e _ ih=>rw [I7,I7,ih]
 | swap a b l=>simp only [I7];omega
 | trans _ _ i1 i2=>rw [i1,i2]
theorem w6b (E:List R3) (y:Int) (h: ∀e∈E,y<e.a):Ep E y=0:=by
 induction E with
 | nil=>rfl
 | cons e E ih=>
  grind [I7]
theorem v8k (out:List R2) (last:Int) (inn:Bool) (x:Int):E4 out last inn x=bif inn&& !(last == x) then push out last x else out:=by
 grind [E4,push]
theorem v1u {out:List R2} {last x:Int} (inn:Bool) (hc:De out) (hb: ∀s∈out,s.b<=last) (hx:last<=x):
  De (E4 out last inn x)/\(∀s∈E4 out last inn x,s.b<=x)/\ ∀y,pt (E4 out last inn x) y↔pt out y\/(inn=true/\last<=y/\y<x):=by
 rw [v8k];rcases Vr (inn&& !(last == x)) with q | q;all_goals grind [w5q]
def Asc (E:List R3):Prop:=E.Pairwise fun e f=>e.a<=f.a
theorem v3d : ∀(E:List R3) (o last:Int) (out:List R2),Asc E->(∀e∈E,last<=e.a)->De out->(∀s∈out,s.b<=last)->
  De (Gk E o last (decide (o>0)) out)/\ ∀y,pt (Gk E o last (decide (o>0)) out) y↔pt out y\/(last<=y/\0<o+Ep E y/\ ∃e∈E,y<e.a)
 | [],o,last,out,_,_,hc,_=>⟨hc,fun y=>⟨.inl,fun h=>h.elim id fun ⟨_,_,e,he,_⟩=>by cases he⟩⟩
 | e ::r,o,last,out,hE,hl,hc,hb=>by
  have he:=hl e (by simp);have hr:=Bv.1 hE;obtain ⟨p1,p2,p3⟩:=v1u (decide (o>0)) hc hb he;obtain ⟨q1,q2⟩:=v3d r (o+e.c) e.a (E4 out last (decide (o>0)) e.a) hr.2 hr.1 p1 p2;rw [VX];refine ⟨q1,fun y=> ?_⟩;rw [q2,p3,I7];constructor
  .rintro ((h | ⟨h1,h2,h3⟩) | ⟨h1,h2,f,hf,h3⟩)
   .exact .inl h
   .right;have h1:=Av h1;refine ⟨h2,?_,e,by simp,h3⟩;rw [Az (by omega),w6b r y fun f hf=>by have:=hr.1 f hf;omega];omega
   .right;refine ⟨by omega,?_,f,by simp [hf],h3⟩;rw [AG h1];omega
  .rintro (h | ⟨h1,h2,f,hf,h3⟩)
   .exact .inl (.inl h)
   .by_cases hy:e.a<=y
    .right;rw [AG hy] at h2;refine ⟨hy,by omega,f,?_,h3⟩;rcases AP.1 hf with rfl | hf
     .omega
     .exact hf
    .left;right;rw [Az hy,w6b r y fun f hf=>by have:=hr.1 f hf;omega] at h2;exact ⟨Aa (by omega),h1,by omega⟩
theorem u2u (l:List R2) (hv: ∀s∈l,s.a<s.b) (y:Int):0<=Ep (Cq l) y/\(0<Ep (Cq l) y↔pt l y):=by
 induction l with
 | nil=>grind [Ep,Cq,pt]
 | cons s l ih=>
  obtain ⟨i1,i2⟩:=ih fun t ht=>hv t (by simp [ht]);have hs:=hv s (by simp);have e:Ep (Cq (s::l)) y=(if s.a<=y/\y<s.b then 1 else 0)+Ep (Cq l) y:=by
   grind [Cq,I7]
  rw [e];by_cases h:s.a<=y/\y<s.b
  .rw [AG h];exact ⟨by omega,⟨fun _=>⟨s,by simp,h⟩,fun _=>by omega⟩⟩
  .rw [Az h];refine ⟨by omega,?_⟩;rw [Int.zero_add,i2];constructor
   .rintro ⟨t,ht,h2⟩;exact ⟨t,by simp [ht],h2⟩
   .rintro ⟨t,ht,h2⟩;rcases AP.1 ht with rfl | ht
    .grind
    .exact ⟨t,ht,h2⟩
theorem Y1 {l:List R2} {s:R2} (h:s∈l):(⟨s.b,0,-1⟩:R3)∈Cq l/\(⟨s.a,0,1⟩:R3)∈Cq l:=
 ⟨BD.2 ⟨s,h,by simp⟩,BD.2 ⟨s,h,by simp⟩⟩
theorem v9q (l:List R3) (h:Dr l=true):Asc (Cv l):=by
 refine BO.2 fun i j hi hj hij=> ?_
 grind [PS,Wb]
theorem u9o (l:List R2) (hv:l.all Da=true):De (Fk l)/\ ∀y,pt (Fk l) y↔pt l y:=by
 have hb:Dr (Cq l)=true:=Ax.2 fun e he=>by obtain ⟨s,hs,h1⟩:=BD.1 he;have hv:=Ax.1 hv s hs;simp only [Da,Ad,Ak] at hv;simp only [AP,List.not_mem_nil,or_false] at h1;rcases h1 with rfl | rfl <;> exact Aa (by grind)
 have fK: ∀s∈l,s.a<s.b:=fun s hs=>by
  grind [Da]
 obtain ⟨hp,_⟩:=PS (Cq l) hb;have ha:=v9q (Cq l) hb;have hn: ∀y,Ep (Cv (Cq l)) y=Ep (Cq l) y:=fun y=>u2t hp y;unfold Fk;generalize Cv (Cq l)=E at hp ha hn;cases E with
 | nil=>refine ⟨.nil,fun y=>⟨fun ⟨s,hs,_⟩=>(by cases hs),fun ⟨s,hs,_⟩=> ?_⟩⟩;have:=hp.mem_iff.2 (Y1 hs).1;cases this
 | cons e r=>
  have hr:=Bv.1 ha;rw [VX,Int.zero_add];have e0:E4 [] 0 false e.a=[]:=rfl;rw [e0];obtain ⟨q1,q2⟩:=v3d r e.c e.a [] hr.2 hr.1 .nil (by simp);refine ⟨q1,fun y=> ?_⟩;rw [q2];obtain ⟨n1,n2⟩:=u2u l fK y;rw [<-n2,<-hn,I7];constructor
  .rintro (⟨s,hs,_⟩ | ⟨h1,h2,_⟩);all_goals grind
  .intro h;have hpt:=n2.1 (by rw [<-hn,I7];exact h);obtain ⟨s,hs,s1,s2⟩:=hpt;have m1:=hp.mem_iff.2 (Y1 hs).1
   grind [Y1]
theorem x7c (out:List Int) (hs:out.Pairwise (· < ·)) (x:Int): ∀k,k<=out.length->EW out x k<=k/\(∀i,EW out x k<=i->i<k->x<rd out i)/\(0<EW out x k->rd out (EW out x k - 1)<=x)
 | 0,_=>⟨An _,fun i h1 h2=>by omega,fun h=>by simp [EW] at h⟩
 | k+1,hk=>by
  unfold EW;rcases Vr (decide (rd out k>x)) with q | q
  .rw [q,Af];obtain ⟨h1,h2,h3⟩:=x7c out hs x k (by omega);refine ⟨by omega,fun i a b=> ?_,h3⟩;rcases BV (Nat.le_of_lt_succ b) with rfl | b
   .exact Av q
   .exact h2 i a b
  .rw [q,Ab];exact ⟨An _,fun i a b=>by omega,fun _=>by have:=of_decide_eq_false q;simp only [Nat.add_sub_cancel];omega⟩
theorem v6z (out:List Int) (hs:out.Pairwise (· < ·)) (x:Int):(D7 out x).Pairwise (· < ·)/\ ∀y,y∈D7 out x↔y∈out\/y=x:=by
 obtain ⟨h1,h2,h3⟩:=x7c out hs x out.length (An _);unfold D7;split
 .rename_i h0;rw [h0] at h2;refine ⟨Bv.2 ⟨fun y hy=> ?_,hs⟩,fun y=>by grind⟩;obtain ⟨i,hi,rfl⟩:=A6 hy
  grind [Wb]
 .rename_i k hk;rw [hk] at h1 h2 h3;have h3:rd out k<=x:=h3 (Nat.succ_pos _);have hkl:k<out.length:=by omega
  rcases Vr (rd out k == x) with q | q
  .grind [Wb]
  .rw [q,Ab];have q:rd out k≠x:=by simpa using q
   refine ⟨?_,fun y=> ?_⟩
   .have st:(out.take (k+1)).Pairwise (· < ·):=hs.sublist (List.take_sublist _ _);have sd:(out.drop (k+1)).Pairwise (· < ·):=hs.sublist (List.drop_sublist _ _);have ht: ∀y∈out.take (k+1),y<x:=fun y hy=>by
     obtain ⟨i,hi,rfl⟩:=A6 hy;have hi':i<k+1:=(by grind);rw [BN];have:rd out i<=rd out k:=by
      rcases BV (Nat.le_of_lt_succ hi') with rfl | h
      .grind
      .exact Int.le_of_lt (j2p hs h hkl)
     grind [Wb]
    have hd: ∀y∈out.drop (k+1),x<y:=fun y hy=>by obtain ⟨i,hi,rfl⟩:=A6 hy;simp_all [Wb]
    refine List.pairwise_append.2 ⟨st,Bv.2 ⟨hd,sd⟩,fun a ha b hb=> ?_⟩
    grind
   .rw [AM,AP];constructor
    .grind
    .rintro (h | h)
     .rw [<-List.take_append_drop (k+1) out,AM] at h
      grind
     grind
theorem x5x (l:List Int):(Ce l).Pairwise (· < ·)/\ ∀y,y∈Ce l↔y∈l:=by
 have: ∀(l out:List Int),out.Pairwise (· < ·)->(l.foldl D7 out).Pairwise (· < ·)/\ ∀y,y∈l.foldl D7 out↔y∈out\/y∈l:=by
  intro l
  induction l with
  | nil=>grind
  | cons x l ih=>
   grind [v6z]
 simp_all [Ce]
theorem y3u : ∀(l m:List Int),l.Pairwise (· < ·)->m.Pairwise (· < ·)->(∀x,x∈l↔x∈m)->l=m
 | [],[],_,_,_=>rfl
 | [],b::m,_,_,h=>by have:=(h b).2 (by simp);cases this
 | a::l,[],_,_,h=>by have:=(h a).1 (by simp);cases this
 | a::l,b::m,hl,hm,h=>by
  obtain ⟨a1,a2⟩:=Bv.1 hl;obtain ⟨b1,b2⟩:=Bv.1 hm;have e:a=b:=by
   have x1:=(h a).1 (by simp);have x2:=(h b).2 (by simp);rcases AP.1 x1 with x1 | x1
   .exact x1
   rcases AP.1 x2 with x2 | x2
   .exact x2.symm
   have:=b1 a x1;have:=a1 b x2;omega
  subst e
  congr 1
  refine y3u l m a2 b2 fun x=>⟨fun hx=> ?_,fun hx=> ?_⟩
  .rcases AP.1 ((h x).1 (by simp [hx])) with e | e
   .have:=a1 x hx;omega
   .exact e
  .rcases AP.1 ((h x).2 (by simp [hx])) with e | e
   .have:=b1 x hx;omega
   .exact e
theorem y3v (zs:List Int) (hs:zs.Pairwise (· <= ·)): ∀m,m<=zs.length->(compactUpTo zs.toArray m).Pairwise (· < ·)/\ ∀x,x∈compactUpTo zs.toArray m↔x∈zs.take m
 | 0,_=>by simp [compactUpTo]
 | m +1,h=>by
  obtain ⟨h1,h2⟩:=y3v zs hs m (by omega);have hg: ∀j (hj:j<zs.length),zs.toArray[j]! =zs[j]:=fun j hj=>by simp [hj]
  have hle: ∀i j (hi:i<zs.length) (hj:j<zs.length),i<j->zs[i]<=zs[j]:=fun i j hi hj hij=>BO.1 hs i j hi hj hij;have hm:m<zs.length:=by omega
  rw [compactUpTo_succ,hg m hm,List.take_succ_eq_append_getElem hm];by_cases hk:keeps zs.toArray m=true
  .rw [AG hk];refine ⟨List.pairwise_append.2 ⟨h1,List.pairwise_singleton _ _,fun x hx y hy=> ?_⟩,fun x=>by rw [AM,AM,h2 x]⟩;rw [AX.1 hy];obtain ⟨i,hi,rfl⟩:=A6 ((h2 x).1 hx);have hi':i<m:=by simp at hi;omega
   rw [BN];simp only [keeps,Ak] at hk;rcases hk with hk | hk
   .omega
   .rw [hg m hm,hg (m - 1) (by omega)] at hk;have k1:zs[i]<=zs[m - 1]:=by
     rcases Ba i (m - 1) with q | q
     .exact hle i (m - 1) _ _ q
     .have e:i=m - 1:=(by omega);subst e;exact BG _
    have k2:=hle (m - 1) m (by omega) hm (by omega);omega
  .rw [Az hk,AL];refine ⟨h1,fun x=> ?_⟩;rw [h2 x,AM,AX];refine ⟨.inl,fun hx=>hx.elim id fun e=> ?_⟩;simp only [keeps,Ak,not_or,Decidable.not_not] at hk;rw [hg m hm,hg (m - 1) (by omega)] at hk;rw [e,hk.2];have:m - 1<(zs.take m).length :=by simp;omega
   have e2:(zs.take m)[m - 1]=zs[m - 1]:=BN;rw [<-e2];exact A3 this
theorem MM (zs:List Int):(Qn zs).Pairwise (· <= ·):=by have:=List.pairwise_mergeSort (le:=fun x y:Int=>decide (x<=y)) (fun a b c h1 h2=>by grind) (fun a b=>by simp;omega) zs;exact this.imp fun h=>by simpa using h
theorem u9q (zs:List Int) (x:Int):x∈Qn zs↔x∈zs:=List.mem_mergeSort
theorem v8c (zs:List Int):Li zs=Ce zs:=by obtain ⟨h1,h2⟩:=y3v (Qn zs) (MM zs) (Qn zs).length (An _);obtain ⟨s1,s2⟩:=x5x zs;refine y3u _ _ h1 s1 fun x=> ?_;rw [show Li zs=compactUpTo (Qn zs).toArray (Qn zs).length from rfl,h2 x,List.take_length,u9q,s2]
namespace DQ
variable {α β:Type} (D:DQ α β)
def ref (sec:Int->List β) (cs:List Int):Nat->Nat->List α->List β->Nat->List α
 | 0,_,out,_,_=>out
 | k+1,i,out,last,first=>
  bif decide (0<i)&&D.same (sec (rd cs i)) last then ref sec cs k (i+1) (D.grow out first (rd cs (i+1))) last first
  else ref sec cs k (i+1) (out++(sec (rd cs i)).map (D.put (rd cs i) (rd cs (i+1)))) (sec (rd cs i)) out.length
theorem ref_eq (hs: ∀a b,D.same a b=true↔a=b) (l:List α): ∀(k i:Nat) (s:Sw α β) (out:List α) (last:List β) (first:Nat),
  s.out=out->s.last=last->(last≠ []->s.first=first)->(last=[]->out.length<=first)->(0<i->s.fin=rd (D.cuts l) i)->(i=0->last=[])->
  (D.go l k i s).out =D.ref (D.sec l) (D.cuts l) k i out last first
 | 0,i,s,out,last,first,h1,h2,h3,h4,h5,h6=>h1
 | k +1,i,s,out,last,first,h1,h2,h3,h4,h5,h6=>by
  subst h1 h2;have e1:D.go l (k+1) i s=D.go l k (i+1) (D.one l (rd (D.cuts l) i) (rd (D.cuts l) (i+1)) s):=rfl;rw [e1];unfold ref;rcases Vr (decide (0<(D.sec l (rd (D.cuts l) i)).length)&&((s.fin == rd (D.cuts l) i)&&D.same s.last (D.sec l (rd (D.cuts l) i)))) with q | q
  .have e:D.one l (rd (D.cuts l) i) (rd (D.cuts l) (i+1)) s=⟨D.grow s.out s.first (rd (D.cuts l) (i+1)),s.last,s.first,rd (D.cuts l) (i+1)⟩:=by unfold one;rw [q];rfl
   simp only [Ad,Ak] at q;obtain ⟨q1,q2,q3⟩:=q;have q3:=(hs _ _).1 q3;have hne:s.last≠ []:=fun h=>by rw [h] at q3;rw [<-q3] at q1;exact Nat.lt_irrefl _ q1
   have hi:0<i:=Nat.pos_of_ne_zero fun h=>hne (h6 h);have e2:(decide (0<i)&&D.same (D.sec l (rd (D.cuts l) i)) s.last)=true:=by rw [Aa hi,Ar,hs,q3]
   rw [e2,Af,e];refine ref_eq hs l k (i+1) _ _ _ _ ?_ rfl h3 (fun h=>absurd h hne) (fun _=>rfl) (fun h=>by omega);rw [h3 hne]
  .have e:D.one l (rd (D.cuts l) i) (rd (D.cuts l) (i+1)) s=⟨s.out++(D.sec l (rd (D.cuts l) i)).map (D.put (rd (D.cuts l) i) (rd (D.cuts l) (i+1))),D.sec l (rd (D.cuts l) i),s.out.length,rd (D.cuts l) (i+1)⟩:=by unfold one;rw [q];rfl
   rcases Vr (decide (0<i)&&D.same (D.sec l (rd (D.cuts l) i)) s.last) with q2 | q2
   .rw [q2,Af,e];simp only [Ad,Ak] at q2;obtain ⟨hi,q3⟩:=q2;have q3:=(hs _ _).1 q3;rw [(hs s.last (D.sec l (rd (D.cuts l) i))).2 q3.symm,Aq,h5 hi] at q;have hz:D.sec l (rd (D.cuts l) i)=[]:=by
     cases h:D.sec l (rd (D.cuts l) i) with
     | nil=>rfl
     | cons a b=>rw [h] at q;simp at q
    have hl:s.last=[]:=(by rw [<-q3,hz]);have hf:=h4 hl;rw [hz,List.map_nil,AL];refine ref_eq hs l k (i+1) _ _ _ _ ?_ hl.symm (fun h=>absurd hl h) (fun _=> ?_) (fun _=>rfl) (fun h=>by omega)
    .exact (D.grow_nil _ _ _ hf).symm
    .rw [D.grow_length];exact hf
   .rw [q2,Ab,e];exact ref_eq hs l k (i+1) _ _ _ _ rfl rfl (fun _=>rfl) (fun h=>by rw [h];simp) (fun _=>rfl) (fun h=>by omega)
theorem out_eq (hs: ∀a b,D.same a b=true↔a=b) (l:List α):D.out l=D.ref (D.sec l) (D.cuts l) ((D.cuts l).length - 1) 0 [] [] 0:=
 D.ref_eq hs l _ 0 _ [] [] 0 rfl rfl (fun _=>rfl) (fun _=>An _) (fun h=>absurd h (Nat.lt_irrefl _)) (fun _=>rfl)
end DQ
theorem j6n (l:List R4):D4.cuts l=CM l []:=by unfold DQ.cuts CM;rw [v8c,show Do ([]:List R4)=[] from rfl,AL];rfl
theorem j5y (l:List R4) (x y:Int):HX 2 l [] x y=E9 l x y:=by
 grind [HX,Lk,E9]
theorem w2u {l:List R4} {x:Int} {s:R2} (h:s∈D4.inn l x): ∃r∈l,r.a<=x/\x<r.c/\s=⟨r.b,r.d⟩:=by obtain ⟨r,hr,e⟩:=BR.1 h;obtain ⟨h1,h2⟩:=BB.1 hr;simp only [Ad,Ak] at h2;exact ⟨r,h1,h2.1,h2.2,e.symm⟩
theorem j2j {l:List R4} {x:Int} {r:R4} (h:r∈l) (h1:r.a<=x) (h2:x<r.c):(⟨r.b,r.d⟩:R2)∈D4.inn l x:=by refine BR.2 ⟨r,BB.2 ⟨h,?_⟩,rfl⟩;simp only [Ad,Ak];exact ⟨h1,h2⟩
theorem MP (l:List R4) (hv:l.all DU=true) (hl:l.length<=400) (x:Int):D4.sec l x=Ej 2 l [] x:=by
 have hin:=D4.inn_length l x;have hvi:(D4.inn l x).all Da=true:=Ax.2 fun s hs=>by
  grind [w2u,DU,Da]
 have e1:D4.sec l x=Fk (D4.inn l x):=by
  show Vv (D4.inn l x)=_
  grind [Vv]
 obtain ⟨c1,c2⟩:=u9o _ hvi;obtain ⟨y1,y2⟩:=x5x (Dh l++Dh []);have e2:Ej 2 l [] x=Cx (CX l []) ((CX l []).map fun y=>E9 l x y):=by
  unfold Ej
  congr 1
  simp_all [j5y]
 obtain ⟨d1,d2⟩:=u4w (CX l []) y1 (fun y=>E9 l x y) (D4.inn l x) (fun s hs=>by
  obtain ⟨r,hr,_,_,rfl⟩:=w2u hs;unfold CX;exact ⟨(y2 _).2 (AM.2 (.inl (BD.2 ⟨r,hr,by simp⟩))),(y2 _).2 (AM.2 (.inl (BD.2 ⟨r,hr,by simp⟩)))⟩) (fun y=>by
  unfold E9;rw [B0];constructor
  .rintro ⟨r,hr,h⟩;simp only [TN,Ad,Ak] at h;exact ⟨_,j2j hr h.1 h.2.1,h.2.2.1,h.2.2.2⟩
  .rintro ⟨s,hs,h1,h2⟩
   grind [w2u,TN])
 grind [u8t]
theorem v6v (l:List R4): ∀(k i:Nat) (out:List R4) (last:List R2) (first:Nat),jF 2 l [] k i out last first=D4.ref (Ej 2 l []) (CM l []) k i out last first
 | 0,_,_,_,_=>rfl
 | k+1,i,out,last,first=>by unfold jF DQ.ref;rw [v6v l k,v6v l k];rfl
theorem N4 (l:List R4) (hv:l.all DU=true) (hl:l.length<=400):D4.out l=Cm 2 l []:=by
 rw [D4.out_eq (fun a b=>decide_eq_true_iff) l,Cm,v6v,<-j6n]
 congr 1
 funext x
 exact MP l hv hl x
theorem v9b (l:List R6):D6.cuts l=Uv l []:=by unfold DQ.cuts Uv;rw [v8c,show Dp ([]:List R6)=[] from rfl,AL];rfl
theorem u9b (l:List R6) (z:Int):D6.inn l z=CO l z:=rfl
theorem u5m (r:R6):DV r=Fj r:=by
 unfold DV Fj;simp only [RF,RE];rw [AS];simp only [Ad,Ak];have m1: ∀x y z:Int,x<=min y z↔x<=y/\x<=z:=fun x y z=>by omega
 have m2: ∀x y z:Int,max y z<=x↔y<=x/\z<=x:=fun x y z=>by omega
 simp only [ge_iff_le,m1,m2]
 grind
theorem v8p (l:List R6) (hv:l.all DV=true) (z:Int):(CO l z).all DU=true:=Ax.2 fun s hs=>by
 obtain ⟨r,hr,rfl⟩:=BR.1 hs;have:=Ax.1 hv r (BB.1 hr).1;rw [u5m] at this;simp only [Fj,Ad,Ak] at this;show DU ⟨r.a,r.b,r.d,r.e⟩=true
 grind [DU]
section
variable (l:List R6) (hv:l.all DV=true) (hl:l.length<=400)
include hv hl
theorem u8y (z:Int):D4.out (CO l z)=Cm 2 (CO l z) []:=N4 _ (v8p l hv z) (AN (UI l z) hl)
theorem u8w (z:Int):FZ l z=F9 2 l [] z:=by
 have h1:=u8y l hv hl z;have h2:=UI l z;have e:Cm 2 (CO [] z) []=[]:=rfl
 grind [FZ,F9,EH,CO,u9b,Gm,v8p]
theorem u9u (z:Int) (h:FZ l z=false):D6.sec l z=EH 2 l [] z:=by
 have h1:=u8y l hv hl z;have h2:=UI l z;rw [u8w l hv hl] at h;show Wn (D6.inn l z)=Cm 2 (CO l z) (CO [] z)
 grind [u9b,Wn,CO,F9,v8p]
theorem w2p : ∀(k i:Nat) (out:List R6) (last:List R4) (first:Nat),K2 2 l [] k i out last first=bif FO l k i then some (D6.ref (D6.sec l) (D6.cuts l) k i out last first) else none
 | 0,_,_,_,_=>rfl
 | k+1,i,out,last,first=>by
  unfold K2 FO DQ.ref;rw [<-v9b,<-u8w l hv hl];rcases Vr (FZ l (rd (D6.cuts l) i)) with q | q
  .rw [q];rfl
  .have:=u9u l hv hl _ q;rw [q,Ab,Ab,this,w2p k,w2p k];have e:D6.same (EH 2 l [] (rd (D6.cuts l) i)) last=E6 (EH 2 l [] (rd (D6.cuts l) i)) last:=rfl;rw [e];cases (decide (0<i)&&E6 (EH 2 l [] (rd (D6.cuts l) i)) last) <;> rfl
theorem N2 :K1 2 l []=bif FO l ((D6.cuts l).length - 1) 0 then some (D6.out l) else none:=by unfold K1;rw [w2p l hv hl,<-v9b,D6.out_eq (fun a b=>decide_eq_true_iff) l]
end
theorem x4r (l:List R6):Vu l=Ii l:=by
 unfold Vu Ii;by_cases h:400<l.length
 .grind
 .rw [Ai h,Ab,Ab,show l.all Fj=l.all DV from by grind [u5m]];rcases Vr (l.all DV) with hv | hv
  .rw [hv,Af,Af];unfold Hk Im EQ;rw [N2 l hv (by omega)]
   grind
  grind
open Go.Proofs Go.Lib Go.Sort
def HY (x:List UInt8):Prop:= ∀c∈x,c≠47
theorem YX : ∀(x cur rest:List UInt8),HY x->Xt 47 cur (x++rest)=Xt 47 (cur++x) rest
 | [],cur,rest,h=>by rw [A1,AL]
 | c::x,cur,rest,h=>by
  have hc:(c == (47:UInt8))=false:=by have:=h c AQ;simp [this]
  rw [AZ,Xt,hc,Ab,YX x (cur++[c]) rest fun d hd=>h d (AK _ hd),AH];rfl
theorem x8i : ∀(r:List (List UInt8)) (cur:List UInt8),(∀p∈r,HY p)->Xt 47 cur (Lib.joinTail [47] r)=cur::r
 | [],cur,h=>rfl
 | y::r,cur,h=>by
  have e:Lib.joinTail [47] (y::r)=47::(y++Lib.joinTail [47] r):=by simp [Lib.joinTail]
  rw [e,Xt,show ((47:UInt8) == 47)=true from rfl,Af,YX y [] _ (h y AQ),A1,x8i r y fun p hp=>h p (AK _ hp)]
theorem YV {L:List (List UInt8)} (h0:L≠ []) (h: ∀p∈L,HY p):Xt 47 [] (Lib.join L [47])=L:=by
 cases L with
 | nil=>exact absurd rfl h0
 | cons x r=>rw [Lib.join_cons,YX x [] _ (h x AQ),A1,x8i r x fun p hp=>h p (AK _ hp)]
theorem x7j : ∀(i:Nat) (x:List UInt8),Fh i x=true->HY x
 | _,[],_=>fun c hc=>by cases hc
 | i,d::x,h=>fun c hc=>by
  rw [Fh,Ad] at h;cases hc with
  | head=>intro e;subst e;have h1:=h.1;unfold HO GP digN at h1;revert h1;cases decide (i≠0) <;> decide
  | tail _ hc=>exact x7j (i+1) x h.2 c hc
theorem v6f {x:List UInt8} (h:Cd x=true):HY x:=by unfold Cd at h;rw [Ad,Ad] at h;exact x7j 0 x h.2.2
theorem u3p {L M:List (List UInt8)} (hL:L≠ []) (hM:M≠ []) (h1: ∀p∈L,HY p) (h2: ∀p∈M,HY p) (h:Lib.join L [47]=Lib.join M [47]):L=M:=by rw [<-YV hL h1,<-YV hM h2,h]
theorem Na (a b:Int):a<b\/b<=a:=by omega
def Fn (l:List B5) (i:Nat):Prop:=FP l i=true/\ ∀j,j<=i->Cd (rd l j).n =true
def GN (l:List B5) (i:Nat):Prop:= ∀j k,j<k->k<i-> ¬((rd l j).a =(rd l k).a /\(rd l j).n =(rd l k).n)
def DF (l:List B5) (i:Int):List (List UInt8):=C3 l (i.toNat+1) i
theorem P6 (l:List B5) {i:Int} (h:i<0):DF l i=[]:=LZ l _ (by omega)
theorem Qp {l:List B5} {t j:Nat} (ht:FP l t=true) (hj:j<=t):DF l (j:Int)=(rd l j).n ::DF l (rd l j).a :=by
 have hb:=EC ht hj;unfold DF;rw [Zj,C3,Aa (show (0:Int)<=(j:Int) by omega),Af,Zj]
 congr 1
 exact w4z ht _ _ _ (by omega) (by omega) (by omega)
theorem VY {l:List B5} {t:Nat} (h:Fn l t): ∀(k:Nat) (i:Int),i<=(t:Int)-> ∀p∈C3 l k i,HY p
 | 0,i,hi,p,hp=>by cases hp
 | k+1,i,hi,p,hp=>by
  unfold C3 at hp;by_cases g:0<=i
  .obtain ⟨j,rfl⟩: ∃j:Nat,i=(j:Int):=⟨i.toNat,by omega⟩
   rw [Aa g,Af,Zj] at hp;cases hp with
   | head=>exact v6f (h.2 j (by omega))
   | tail _ hp=>have hb:=EC h.1 (show j<=t by omega);exact VY h k _ (by omega) p hp
  .rw [Ai g] at hp;cases hp
theorem v3a {l:List B5} {t:Nat} (h:Fn l t) (hn:GN l t): ∀(m j k:Nat),j<m->j<t->k<t->DF l (j:Int)=DF l (k:Int)->j=k
 | 0,j,k,hm,_,_,_=>absurd hm (AC _)
 | m +1,j,k,hm,hj,hk,e=>by
  rw [Qp h.1 (show j<=t by omega),Qp h.1 (show k<=t by omega),Bj] at e;have bj:=EC h.1 (show j<=t by omega);have bk:=EC h.1 (show k<=t by omega);have ea:(rd l j).a =(rd l k).a :=by
   rcases Na (rd l j).a 0 with a1 | a1
   .rcases Na (rd l k).a 0 with a2 | a2
    .omega
    .exfalso;obtain ⟨q,hq⟩: ∃q:Nat,(rd l k).a =(q:Int):=⟨(rd l k).a.toNat,by omega⟩
     rw [P6 l a1,hq,Qp h.1 (show q<=t by omega)] at e;cases e.2
   .obtain ⟨p,hp⟩: ∃p:Nat,(rd l j).a =(p:Int):=⟨(rd l j).a.toNat,by omega⟩
    rcases Na (rd l k).a 0 with a2 | a2
    .exfalso;rw [P6 l a2,hp,Qp h.1 (show p<=t by omega)] at e;cases e.2
    .obtain ⟨q,hq⟩: ∃q:Nat,(rd l k).a =(q:Int):=⟨(rd l k).a.toNat,by omega⟩
     rw [hp,hq] at e;have:=v3a h hn m p q (by omega) (by omega) (by omega) e.2;omega
  rcases Bq j k with g | g | g
  .exact absurd ⟨ea,e.1⟩ (hn j k g hk)
  .exact g
  .exact absurd ⟨ea.symm,e.1.symm⟩ (hn k j g hj)
theorem w5r {l:List B5} {i k:Nat} (h:Fn l i) (hn:GN l i) (hk:k<i):Wv l (k:Int)=Wv l (i:Int)↔(rd l k).a =(rd l i).a /\(rd l k).n =(rd l i).n :=by
 have bi:=EC h.1 (An i);have bk:=EC h.1 (show k<=i by omega);have ek:=Qp h.1 (show k<=i by omega);have ei:=Qp h.1 (An i);constructor
 .intro e;have e:DF l (k:Int)=DF l (i:Int):=by have:=u3p (L:=(DF l (k:Int)).reverse) (M:=(DF l (i:Int)).reverse) (by rw [ek];simp) (by rw [ei];simp) (fun p hp=>VY h _ _ (by omega) p (B1.1 hp)) (fun p hp=>VY h _ _ (BG _) p (B1.1 hp)) e;exact List.reverse_inj.1 this
  rw [ek,ei,Bj] at e;refine ⟨?_,e.1⟩;rcases Na (rd l k).a 0 with a1 | a1
  .rcases Na (rd l i).a 0 with a2 | a2
   .omega
   .exfalso;obtain ⟨q,hq⟩: ∃q:Nat,(rd l i).a =(q:Int):=⟨(rd l i).a.toNat,by omega⟩
    rw [P6 l a1,hq,Qp h.1 (show q<=i by omega)] at e;cases e.2
  .obtain ⟨p,hp⟩: ∃p:Nat,(rd l k).a =(p:Int):=⟨(rd l k).a.toNat,by omega⟩
   rcases Na (rd l i).a 0 with a2 | a2
   .exfalso;rw [P6 l a2,hp,Qp h.1 (show p<=i by omega)] at e;cases e.2
   .obtain ⟨q,hq⟩: ∃q:Nat,(rd l i).a =(q:Int):=⟨(rd l i).a.toNat,by omega⟩
    rw [hp,hq] at e;have:=v3a h hn (p+1) p q (by omega) (by omega) (by omega) e.2;omega
 .intro ⟨e1,e2⟩;show Lib.join (DF l (k:Int)).reverse [47]=Lib.join (DF l (i:Int)).reverse [47];rw [ek,ei,e1,e2]
def ES (l:List B5):Int:=match l.find? fun x=>Vu x.s != 0 with
 | some x=>Vu x.s
 | none=>0
def FD (l:List B5) (i:Nat):Bool:= !(Cd (rd l i).n)||(decide ((rd l i).a < -1)||(decide ((rd l i).a >=(i:Int))||(Ck (rd l i).t (rd l i).x (rd l i).y (rd l i).z != 0)))
def twin (l:List B5) (i:Nat):Bool:=(List.range i).any fun k=>((rd l k).a == (rd l i).a)&&((rd l k).n == (rd l i).n)
def DY (l:List B5) (i:Nat):Bool:=FD l i||(C6 (Wv l (i:Int)) != 0||twin l i)
def Un (l:List B5):Int:=bif decide (200<l.length) then 4 else bif ES l != 0 then ES l else bif (List.range l.length).any (DY l) then 8 else 0
def Yk (l:List B5):Bool:=decide (l.length<=1000000)&&l.all fun x=>decide (x.n.length<=500)
def Gf (l:List B5) (i:Nat):Prop:= ∀j,j<i->DY l j=false
theorem RA {l:List B5} {i:Nat} (h:FD l i=false):Cd (rd l i).n =true/\ -1<=(rd l i).a /\(rd l i).a <(i:Int)/\Ck (rd l i).t (rd l i).x (rd l i).y (rd l i).z =0:=by unfold FD at h;simp only [AT,Bool.not_eq_false',AY,bne_eq_false_iff_eq] at h;exact ⟨h.1,by omega,by omega,h.2.2.2⟩
theorem V7 {l:List B5} {i:Nat} (h:Gf l i) (hi:FD l i=false):Fn l i:=by
 have hb: ∀j,j<=i->FD l j=false:=fun j hj=>by
  rcases Ba j i with g | g
  .have:=h j g;unfold DY at this;rw [AT] at this;exact this.1
  .rw [show j=i by omega];exact hi
 refine ⟨Ax.2 fun j hj=> ?_,fun j hj=>(RA (hb j hj)).1⟩;have:=RA (hb j (by have:=A2.1 hj;omega));rw [Ad,Ak,Ak];exact ⟨this.2.1,this.2.2.1⟩
theorem x1u {l:List B5} {i:Nat} (h:Gf l i):GN l i:=fun j k hjk hk ⟨e1,e2⟩=>by have:=h k hk;unfold DY twin at this;rw [AT,AT] at this;have:=List.any_eq_false.1 this.2.2 j (A2.2 hjk);rw [e1,e2] at this;simp at this
def Ru (l:List B5) (i:Nat) (m:List (List UInt8×Bool)):Prop:= ∀p,getK false m p=(List.range i).any fun k=>Wv l (k:Int) == p
theorem v7d (m:List (List UInt8×Bool)) (p q:List UInt8):getK false (Cs m p true) q=(p == q||getK false m q):=by
 induction m with
 | nil=>
  show (bif q == p then true else false)=_;have e:(p == q)=(q == p):=by rw [AS,AU,AU];exact eq_comm
  rw [e,show getK false [] q=false from rfl];cases q == p <;> rfl
 | cons x m ih=>
  unfold Cs;cases g:p == x.1 with
  | true=>
   rw [Af];show (bif q == x.1 then true else getK false m q)=(p == q||bif q == x.1 then x.2 else getK false m q);have e1:=AU.1 g;rw [<-e1];have e:(p == q)=(q == p):=by rw [AS,AU,AU];exact eq_comm
   rw [e];cases q == p <;> rfl
  | false=>
   rw [Ab];show (bif q == x.1 then x.2 else getK false (Cs m p true) q)=(p == q||bif q == x.1 then x.2 else getK false m q);rw [ih];cases g2:q == x.1 with
   | true=>
    have:(p == q)=false:=by rw [AU.1 g2];exact g
    rw [this];rfl
   | false=>rfl
theorem w8l {l:List B5} {i:Nat} {m:List (List UInt8×Bool)} (h:Ru l i m):Ru l (i+1) (Cs m (Wv l (i:Int)) true):=fun p=>by rw [v7d,h p,List.range_succ,List.any_append,Bool.or_comm];simp
theorem w8k {l:List B5} {i:Nat} {m:List (List UInt8×Bool)} (hs:Ru l i m) (h:Gf l i) (hi:FD l i=false):getK false m (Wv l (i:Int))=twin l i:=by
 rw [hs];unfold twin;have e: ∀k∈List.range i,(Wv l (k:Int) == Wv l (i:Int))=(((rd l k).a == (rd l i).a)&&((rd l k).n == (rd l i).n)):=fun k hk=>by rw [AS,Ad,AU,AU,AU];exact w5r (V7 h hi) (x1u h) (A2.1 hk)
 rw [AS,B0,B0];constructor
 .intro ⟨k,h1,h2⟩;exact ⟨k,h1,by rw [<-e k h1];exact h2⟩
 .intro ⟨k,h1,h2⟩;exact ⟨k,h1,by rw [e k h1];exact h2⟩
theorem QE {l:List B5} {i:Nat} (ho:Yk l=true) (hl:l.length<=1000) (hi:i<l.length) (h:Fn l i):Vx l (i:Int)=true:=by unfold Yk at ho;unfold Vx;rw [Ad] at ho;rw [Zj,Aa (show (0:Int)<=(i:Int)/\(i:Int)<(l.length:Int) by omega),Aa hl,h.1,ho.2];rfl
open Go.Proofs.Tryz
def FJ (T:Int) (l:List B5):Int:=match l.find? fun x=>Vu x.s != 0 with
 | some x=>Vu x.s
 | none=>T
theorem ZG (T:Int) (x:B5) (l:List B5):FJ T (x::l)=bif Vu x.s != 0 then Vu x.s else FJ T l:=by unfold FJ;rw [List.find?_cons];cases Vu x.s != 0 <;> rfl
theorem x9v (T:Int): ∀l:List B5,FJ T l=bif ES l != 0 then ES l else T
 | []=>rfl
 | x::l=>by
  have e:ES (x::l)=bif Vu x.s != 0 then Vu x.s else ES l:=by unfold ES;rw [List.find?_cons];cases Vu x.s != 0 <;> rfl
  rw [ZG,e,x9v T l];cases g:Vu x.s != 0 with
  | true=>rw [Af,Af,g,Af]
  | false=>rfl
def badF (l:List B5):Nat->Nat->Bool
 | 0,_=>false
 | k+1,i=>DY l i||badF l k (i+1)
theorem x2g (l:List B5): ∀(k i:Nat),badF l k i=(List.range k).any fun j=>DY l (i+j)
 | 0,i=>rfl
 | k+1,i=>by
  rw [badF,x2g l k (i+1),List.range_succ_eq_map,B2,List.any_map]
  congr 1
  congr 1
  funext j
  show DY l (i+1+j)=DY l (i+(j+1))
  congr 1;omega
theorem w7p (l:List B5):badF l l.length 0=(List.range l.length).any (DY l):=by
 rw [x2g]
 congr 1
 funext j
 rw [Al]
theorem u6a {l:List B5} {T:Int} (hl:l.length<=1000) (hT: ∃N,Yw (Qg l) N (.to (.h1 0 []))=.ret [.int .i64 T]): ∀(k i:Nat),i+k=l.length-> ∃N,Yw (Qg l) N (.to (.h0 (i:Int)))=.ret [.int .i64 (FJ T (l.drop i))]
 | 0,i,h=>by
  obtain ⟨N,hN⟩:=hT;refine ⟨N+1,?_⟩;rw [Zw,Aw (by omega)];have e:Qg l (.h0 (i:Int))=.to (.h1 0 []):=by unfold Qg;simp only [];rw [Yt (by omega)];rfl
  rw [e,hN];rfl
 | k+1,i,h=>by
  have hi:i<l.length:=by omega
  have w2:wrap .i64 ((i:Int)+1)=((i+1:Nat):Int):=Zm (by omega);have e:Qg l (.h0 (i:Int))=bif Vu (rd l i).s != 0 then .ret [.int .i64 (Vu (rd l i).s)] else .to (.h0 ((i+1:Nat):Int)):=by unfold Qg;simp only [Zj,w2,Yg];rw [Yb (by omega),Af,Aq,Zp (Ym (by omega))];rfl
  rw [Xx hi,ZG];cases g:Vu (rd l i).s != 0 with
  | true=>exact ⟨1,by rw [Zw,e,g];rfl⟩
  | false=>obtain ⟨N,hN⟩:=u6a hl hT k (i+1) (by omega);exact ⟨N+1,by rw [Zw,e,g,Ab,Ab,hN]⟩
theorem u0e {l:List B5} {i:Nat} {m:List (List UInt8×Bool)} (ho:Yk l=true) (hl:l.length<=1000) (hi:i<l.length) (hf:Gf l i) (hs:Ru l i m):
  Qg l (.h1 (i:Int) m)=bif DY l i then .ret [.int .i64 8] else .to (.h1 ((i+1:Nat):Int) (Cs m (Wv l (i:Int)) true)):=by
 have w2:wrap .i64 ((i:Int)+1)=((i+1:Nat):Int):=Zm (by omega);have hn:Um (rd l i).n =true:=by unfold Yk at ho;rw [Ad] at ho;have:=RL ho.2 i;exact Aa (by omega)
 unfold Qg;simp only [Zj,w2,Yg];rw [Yb (by omega),Af,Aq,Zp (Ym (by omega)),Zp hn];unfold DY;cases hb:FD l i with
 | true=>
  rw [Bool.true_or,Af];unfold FD at hb;revert hb;cases Cd (rd l i).n with
  | false=>intro _;rfl
  | true=>
   cases decide ((rd l i).a < -1) with
   | true=>intro _;rfl
   | false=>
    cases decide ((rd l i).a >=(i:Int)) with
    | true=>intro _;rfl
    | false=>
     cases Ck (rd l i).t (rd l i).x (rd l i).y (rd l i).z != 0 with
     | true=>intro _;rfl
     | false=>intro h;cases h
 | false=>obtain ⟨b1,b2,b3,b4⟩:=RA hb;have hk:=V7 hf hb;have hp:=QE ho hl hi hk;rw [b1,Ay,Ab,Yt (by omega),Ab,F6 (by omega),Ab,b4,show ((0:Int) != 0)=false from rfl,Ab,Zp hp,w8k hs hf hb,Zp (show Jm (Wv l (i:Int))=true from Aa (PJ hp)),Bh];cases twin l i <;> cases C6 (Wv l (i:Int)) != 0 <;> rfl
theorem x1v {l:List B5} {i:Nat} (h:Gf l i) (hi:DY l i=false):Gf l (i+1):=fun j hj=>by
 rcases Ba j i with g | g
 .exact h j g
 .rw [show j=i by omega];exact hi
theorem u5z {l:List B5} (ho:Yk l=true) (hl:l.length<=1000): ∀(k i:Nat) (m:List (List UInt8×Bool)),i+k=l.length->Gf l i->Ru l i m-> ∃N,Yw (Qg l) N (.to (.h1 (i:Int) m))=.ret [.int .i64 (bif badF l k i then 8 else 0)]
 | 0,i,m,h,hf,hs=>⟨1,by
  rw [Zw];unfold Qg;simp only [];rw [Yt (by omega)];rfl⟩
 | k+1,i,m,h,hf,hs=>by
  have e:=u0e ho hl (show i<l.length by omega) hf hs;rw [badF];cases g:DY l i with
  | true=>exact ⟨1,by rw [Zw,e,g];rfl⟩
  | false=>obtain ⟨N,hN⟩:=u5z ho hl k (i+1) _ (by omega) (x1v hf g) (w8l hs);exact ⟨N+1,by rw [Zw,e,g,Ab,hN,Bh]⟩
theorem j0a (l:List B5) (h:Yk l=true): ∃N,Yw (Qg l) N (VU l)=.ret [.int .i64 (Un l)]:=by
 unfold VU Un;by_cases g:200<l.length
 .rw [Xv (by omega),Aa g];exact ⟨0,rfl⟩
 .rw [Wz (by omega),Ai g,Ab,Ab];have hT:=u5z h (by omega) l.length 0 [] (Al _) (fun j hj=>absurd hj (AC _)) fun p=>rfl;have:=u6a (by omega) hT l.length 0 (Al _);rw [AR,x9v,w7p] at this;exact this
def FU :List B3->Option (B3×Bool)
 | [a0]=>match Cc B5 a0 with
  | some (L,g,n)=>some (.int .i64 (Un L),CT B5 n g&&Yk L)
  | _=>none
 | _=>none
theorem j4b {S:B6} (hS:Zv prog S):Zv prog (S.with SS FU):=CS hS (by kernel_rfl) fun args v h=>by
 unfold FU at h;split at h
 .rename_i a0;split at h
  .rename_i L g n e0;simp only [Ae,Ac,Ad] at h;obtain ⟨rfl,ho0,hw⟩:=h;obtain ⟨N,hN⟩:=j0a L hw;exact ⟨_,_,(.cons (Xh e0 ho0) .nil),rfl,u0f L N _ hN,3,rfl⟩
  .cases h
 .cases h
theorem u6n {l:List B5} {T:Int} (hl:l.length<=1000) (hT: ∃N,Yw (Vt l) N (.to (.h1 0))=.ret [.int .i64 T]): ∀(k i:Nat),i+k=l.length-> ∃N,Yw (Vt l) N (.to (.h0 (i:Int)))=.ret [.int .i64 (FJ T (l.drop i))]
 | 0,i,h=>by
  obtain ⟨N,hN⟩:=hT;refine ⟨N+1,?_⟩;rw [Zw,Aw (by omega)];have e:Vt l (.h0 (i:Int))=.to (.h1 0):=by unfold Vt;simp only [];rw [Yt (by omega)];rfl
  rw [e,hN];rfl
 | k+1,i,h=>by
  have hi:i<l.length:=by omega
  have w2:wrap .i64 ((i:Int)+1)=((i+1:Nat):Int):=Zm (by omega);have e:Vt l (.h0 (i:Int))=bif Vu (rd l i).s != 0 then .ret [.int .i64 (Vu (rd l i).s)] else .to (.h0 ((i+1:Nat):Int)):=by unfold Vt;simp only [Zj,w2,Yg];rw [Yb (by omega),Af,Aq,Zp (Ym (by omega)),x4r];rfl
  rw [Xx hi,ZG];cases g:Vu (rd l i).s != 0 with
  | true=>exact ⟨1,by rw [Zw,e,g];rfl⟩
  | false=>obtain ⟨N,hN⟩:=u6n hl hT k (i+1) (by omega);exact ⟨N+1,by rw [Zw,e,g,Ab,Ab,hN]⟩
def twF (l:List B5) (a:Int) (n:List UInt8):Nat->Nat->Bool
 | 0,_=>false
 | k+1,i=>(((rd l i).a == a)&&((rd l i).n == n))||twF l a n k (i+1)
theorem x5q (l:List B5) (a:Int) (n:List UInt8): ∀(k i:Nat),twF l a n k i=(List.range k).any fun j=>((rd l (i+j)).a == a)&&((rd l (i+j)).n == n)
 | 0,i=>rfl
 | k+1,i=>by
  rw [twF,x5q l a n k (i+1),List.range_succ_eq_map,B2,List.any_map]
  congr 1
  congr 1
  funext j
  show (_:Bool)=((rd l (i+(j+1))).a == a&&(rd l (i+(j+1))).n == n);rw [show i+1+j=i+(j+1) by omega]
theorem u6l {l:List B5} {i:Nat} {n:List UInt8} {a t x y z:Int} {s:List R6} (hi:i<l.length) (hl:l.length<=1000) {T:Int} (hT: ∃N,Yw (Vt l) N (.to (.h1 ((i+1:Nat):Int)))=.ret [.int .i64 T]):
  ∀(k j:Nat),j+k=i-> ∃N,Yw (Vt l) N (.to (.h2 (i:Int) (j:Int) n a t x y z s))=.ret [.int .i64 (bif twF l a n k j then 8 else T)]
 | 0,j,h=>by
  obtain ⟨N,hN⟩:=hT;have w2:wrap .i64 ((i:Int)+1)=((i+1:Nat):Int):=Zm (by omega);refine ⟨N+1,?_⟩;have e:Vt l (.h2 (i:Int) (j:Int) n a t x y z s)=.to (.h1 ((i+1:Nat):Int)):=by unfold Vt;simp only [w2];rw [Yt (by omega)];rfl
  rw [Zw,e,hN];rfl
 | k+1,j,h=>by
  have w2:wrap .i64 ((j:Int)+1)=((j+1:Nat):Int):=Zm (by omega);have e:Vt l (.h2 (i:Int) (j:Int) n a t x y z s)=bif ((rd l j).a == a)&&((rd l j).n == n) then .ret [.int .i64 8] else .to (.h2 (i:Int) ((j+1:Nat):Int) n a t x y z s):=by unfold Vt;simp only [Zj,w2];rw [Yb (by omega),Af,Aq,Zp (Ym (by omega))];cases (rd l j).a == a <;> cases (rd l j).n == n <;> rfl
  rw [twF];cases g:((rd l j).a == a)&&((rd l j).n == n) with
  | true=>exact ⟨1,by rw [Zw,e,g];rfl⟩
  | false=>obtain ⟨N,hN⟩:=u6l (n:=n) (a:=a) (t:=t) (x:=x) (y:=y) (z:=z) (s:=s) hi hl hT k (j+1) (by omega);exact ⟨N+1,by rw [Zw,e,g,Ab,hN,Bh]⟩
theorem u0r {l:List B5} {i:Nat} (ho:Yk l=true) (hl:l.length<=1000) (hi:i<l.length) (hf:Gf l i):
  Vt l (.h1 (i:Int))=bif FD l i||(C6 (Wv l (i:Int)) != 0) then .ret [.int .i64 8] else .to (.h2 (i:Int) 0 (rd l i).n (rd l i).a (rd l i).t (rd l i).x (rd l i).y (rd l i).z (rd l i).s):=by
 have hn:Um (rd l i).n =true:=by unfold Yk at ho;rw [Ad] at ho;have:=RL ho.2 i;exact Aa (by omega)
 unfold Vt;simp only [Zj,Yg];rw [Yb (by omega),Af,Aq,Zp (Ym (by omega)),Zp hn];cases hb:FD l i with
 | true=>
  rw [Bool.true_or,Af];unfold FD at hb;revert hb;cases Cd (rd l i).n with
  | false=>intro _;rfl
  | true=>
   cases decide ((rd l i).a < -1) with
   | true=>intro _;rfl
   | false=>
    cases decide ((rd l i).a >=(i:Int)) with
    | true=>intro _;rfl
    | false=>
     cases Ck (rd l i).t (rd l i).x (rd l i).y (rd l i).z != 0 with
     | true=>intro _;rfl
     | false=>intro h;cases h
 | false=>obtain ⟨b1,b2,b3,b4⟩:=RA hb;have hk:=V7 hf hb;have hp:=QE ho hl hi hk;rw [b1,Ay,Ab,Yt (by omega),Ab,F6 (by omega),Ab,b4,show ((0:Int) != 0)=false from rfl,Ab,Zp hp,Zp (show Jm (Wv l (i:Int))=true from Aa (PJ hp)),Bh]
theorem w5a (l:List B5) (i:Nat):twF l (rd l i).a (rd l i).n i 0=twin l i:=by
 rw [x5q];unfold twin
 congr 1
 funext j
 rw [Al]
theorem u6m {l:List B5} (ho:Yk l=true) (hl:l.length<=1000): ∀(k i:Nat),i+k=l.length->Gf l i-> ∃N,Yw (Vt l) N (.to (.h1 (i:Int)))=.ret [.int .i64 (bif badF l k i then 8 else 0)]
 | 0,i,h,hf=>⟨1,by
  rw [Zw];unfold Vt;simp only [];rw [Yt (by omega)];rfl⟩
 | k +1,i,h,hf=>by
  have hi:i<l.length:=by omega
  have e:=u0r ho hl hi hf;rw [badF];have hb:DY l i=((FD l i||(C6 (Wv l (i:Int)) != 0))||twin l i):=by unfold DY;rw [Bool.or_assoc]
  cases g:FD l i||(C6 (Wv l (i:Int)) != 0) with
  | true=>exact ⟨1,by rw [Zw,e,hb,g];rfl⟩
  | false=>
   cases g2:twin l i with
   | true=>
    have hx: ∀(k j:Nat),j+k=i->twF l (rd l i).a (rd l i).n k j=true-> ∃N,Yw (Vt l) N (.to (.h2 (i:Int) (j:Int) (rd l i).n (rd l i).a (rd l i).t (rd l i).x (rd l i).y (rd l i).z (rd l i).s))=.ret [.int .i64 8]:=by
     intro k
     induction k with
     | zero=>intro j _ hq;cases hq
     | succ k ih=>
      intro j hj hq;have w2:wrap .i64 ((j:Int)+1)=((j+1:Nat):Int):=Zm (by omega);have e:Vt l (.h2 (i:Int) (j:Int) (rd l i).n (rd l i).a (rd l i).t (rd l i).x (rd l i).y (rd l i).z (rd l i).s)=bif ((rd l j).a == (rd l i).a)&&((rd l j).n == (rd l i).n) then .ret [.int .i64 8] else .to (.h2 (i:Int) ((j+1:Nat):Int) (rd l i).n (rd l i).a (rd l i).t (rd l i).x (rd l i).y (rd l i).z (rd l i).s):=by unfold Vt;simp only [Zj,w2];rw [Yb (by omega),Af,Aq,Zp (Ym (by omega))];cases (rd l j).a == (rd l i).a <;> cases (rd l j).n == (rd l i).n <;> rfl
      rw [twF] at hq;cases g:((rd l j).a == (rd l i).a)&&((rd l j).n == (rd l i).n) with
      | true=>exact ⟨1,by rw [Zw,e,g];rfl⟩
      | false=>rw [g,Bh] at hq;obtain ⟨N,hN⟩:=ih (j+1) (by omega) hq;exact ⟨N+1,by rw [Zw,e,g,Ab,hN]⟩
    obtain ⟨N,hN⟩:=hx i 0 (Al _) (by rw [w5a];exact g2);refine ⟨N+1,?_⟩;rw [Zw,e,g,Ab,hb,g,g2];exact hN
   | false=>
    have hbf:DY l i=false:=by rw [hb,g,g2];rfl
    have ht:=u6m ho hl k (i+1) (by omega) (x1v hf hbf);obtain ⟨N,hN⟩:=u6l (n:=(rd l i).n) (a:=(rd l i).a) (t:=(rd l i).t) (x:=(rd l i).x) (y:=(rd l i).y) (z:=(rd l i).z) (s:=(rd l i).s) hi hl ht i 0 (Al _);rw [w5a,g2,Ab] at hN;refine ⟨N+1,?_⟩;rw [Zw,e,g,Ab,hbf,Bh];exact hN
theorem j0q (l:List B5) (h:Yk l=true): ∃N,Yw (Vt l) N (VQ l)=.ret [.int .i64 (Un l)]:=by
 unfold VQ Un;by_cases g:200<l.length
 .rw [Xv (by omega),Aa g];exact ⟨0,rfl⟩
 .rw [Wz (by omega),Ai g,Ab,Ab];have hT:=u6m h (by omega) l.length 0 (Al _) (fun j hj=>absurd hj (AC _));have:=u6n (by omega) hT l.length 0 (Al _);rw [AR,x9v,w7p] at this;exact this
theorem j4e {S:B6} (hS:Zv prog S):Zv prog (S.with SW FU):=CS hS (by kernel_rfl) fun args v h=>by
 unfold FU at h;split at h
 .rename_i a0;split at h
  .rename_i L g n e0;simp only [Ae,Ac,Ad] at h;obtain ⟨rfl,ho0,hw⟩:=h;obtain ⟨N,hN⟩:=j0q L hw;exact ⟨_,_,(.cons (Xh e0 ho0) .nil),rfl,u0s L N _ hN,3,rfl⟩
  .cases h
 .cases h
def Ow :B6:=(Tp.with SS FU).with SW FU
theorem Q9 :Zv prog Ow:=j4e (j4b Wa)
inductive IG where
def Nt (x0:Int):IG->CG
 :=nofun
def w3l (x0:Int):IG->Xj IG
 :=nofun
def RU (x0:Int):Xj IG:=(bif ((wrap IntKind.u8 (Int.tdiv x0 2)) == 0) then (.ret [(.agg [(.int .i64 (wrap .i64 (1 - (wrap .i64 (2*(wrap .i64 (Int.tmod x0 2))))))),(.int .i64 0),(.int .i64 0)])]) else (bif ((wrap IntKind.u8 (Int.tdiv x0 2)) == 1) then (.ret [(.agg [(.int .i64 0),(.int .i64 (wrap .i64 (1 - (wrap .i64 (2*(wrap .i64 (Int.tmod x0 2))))))),(.int .i64 0)])]) else (.ret [(.agg [(.int .i64 0),(.int .i64 0),(.int .i64 (wrap .i64 (1 - (wrap .i64 (2*(wrap .i64 (Int.tmod x0 2)))))))])])))
theorem v1h (x0:Int): ∀s,Wp prog (Zy prog 126) (Nt x0) (Nt x0 s) (w3l x0 s)
 :=nofun
theorem w3m (x0:Int):Wp prog (Zy prog 126) (Nt x0) (Zg prog 126 [(.int .u8 x0)] true []) (RU x0):=let a:=ii (wr (1 - (wr (2*(wr (Int.tmod x0 2))))));let b:=Zf prog 126 [1,1,0,1,0,1,0,0] 1;let c:=Zy prog 126;(lb (fun k0=>(Ys ⟨⟨21,0,true⟩,none,b,none,c,⟨Ye [(2,(.ptr 0 0))],Xs [⟨[a,(ii 0),(ii 0)],40,none⟩] 0,1,[],true⟩,[],.leaf⟩ (sl Q9 32 [] ⟨[0],[],[some [2]],[]⟩ b7 [true] (tt k0 nn)) rfl (by kernel_rfl))) (fun k0=>(lb (fun k1=>(Ys ⟨⟨21,0,true⟩,none,b,none,c,⟨Ye [(2,(.ptr 0 0))],Xs [⟨[(ii 0),a,(ii 0)],40,none⟩] 0,1,[],true⟩,[],.leaf⟩ (sl Q9 38 [] ⟨[0],[],[some [2]],[]⟩ b7 (bl 2 2) (tt k1 (tt k0 nn))) rfl (by kernel_rfl))) (fun k1=>(Ys ⟨⟨21,0,true⟩,none,(Zf prog 3 [1,1,1,1,1,1,0] 1),none,c,⟨Ye [(2,(.ptr 0 0))],Xs [⟨[(ii 0),(ii 0),a],40,none⟩] 0,1,[],true⟩,[],.leaf⟩ (sl Q9 40 [] ⟨[0],[],[some [2]],[]⟩ b7 (bl 2 0) (tt k1 (tt k0 nn))) rfl (by kernel_rfl))))))
theorem u4f (x0:Int) (n:Nat) (vs:List B3) (h:Yw (w3l x0) n (RU x0)=.ret vs):Kj prog (Zy prog 126) (Zg prog 126 [(.int .u8 x0)] true []) vs:=by have:=Ze (v1h x0) n _ (w3m x0);rwa [h] at this
structure R9 where
 (a b c d e f g h i:Int)
def fdS (d:Int):Int:=wrap .i64 (1 - wrap .i64 (2*wrap .i64 (Int.tmod d 2)))
def C4 (d:Int):R3:=bif wrap .u8 (Int.tdiv d 2) == 0 then ⟨fdS d,0,0⟩ else bif wrap .u8 (Int.tdiv d 2) == 1 then ⟨0,fdS d,0⟩ else ⟨0,0,fdS d⟩
def Ti (v:R3):B3:=.agg [.int .i64 v.a,.int .i64 v.b,.int .i64 v.c]
theorem j3s (d:Int) (_:True): ∃N,Yw (w3l d) N (RU d)=.ret [Ti (C4 d)]:=⟨0,by
 show RU d=_;unfold RU C4;cases wrap .u8 (Int.tdiv d 2) == 0
 .cases wrap .u8 (Int.tdiv d 2) == 1 <;> rfl
 .rfl⟩
def O4 :List B3->Option (B3×Bool)
 | [.int .u8 d]=>some (Ti (C4 d),true)
 | _=>none
theorem j5f {S:B6} (hS:Zv prog S):Zv prog (S.with T0 O4):=CS hS (by kernel_rfl) fun args v h=>by
 unfold O4 at h;split at h
 .rename_i d;simp only [Ae,Ac] at h;obtain ⟨rfl,ho⟩:=h;obtain ⟨N,hN⟩:=j3s d ho;exact ⟨_,_,.cons (.refl _) .nil,rfl,u4f d N _ hN,5,rfl⟩
 .cases h
def To :B6:=(Ow.with T0 O4)
theorem w4y :Zv prog To:=(j5f Q9)
def tab9 :List R9:=[⟨1,0,0,0,1,0,0,0,1⟩,⟨1,0,0,0,-1,0,0,0,-1⟩,⟨1,0,0,0,0,1,0,-1,0⟩,⟨1,0,0,0,0,-1,0,1,0⟩,⟨-1,0,0,0,1,0,0,0,-1⟩,⟨-1,0,0,0,-1,0,0,0,1⟩,⟨-1,0,0,0,0,1,0,1,0⟩,⟨-1,0,0,0,0,-1,0,-1,0⟩,⟨0,1,0,1,0,0,0,0,-1⟩,⟨0,1,0,-1,0,0,0,0,1⟩,⟨0,1,0,0,0,1,1,0,0⟩,⟨0,1,0,0,0,-1,-1,0,0⟩,⟨0,-1,0,1,0,0,0,0,1⟩,⟨0,-1,0,-1,0,0,0,0,-1⟩,⟨0,-1,0,0,0,1,-1,0,0⟩,⟨0,-1,0,0,0,-1,1,0,0⟩,⟨0,0,1,1,0,0,0,1,0⟩,⟨0,0,1,-1,0,0,0,-1,0⟩,⟨0,0,1,0,1,0,-1,0,0⟩,⟨0,0,1,0,-1,0,1,0,0⟩,⟨0,0,-1,1,0,0,0,-1,0⟩,⟨0,0,-1,-1,0,0,0,1,0⟩,⟨0,0,-1,0,1,0,1,0,0⟩,⟨0,0,-1,0,-1,0,-1,0,0⟩]
def CA (t:Int):R9:=tab9.getD t.toNat ⟨0,0,0,0,0,0,0,0,0⟩
def Ju (t:Int):Bool:=decide (0<=t/\t<24)
def ag9 (v:R9):B3:=.agg [.int .i64 v.a,.int .i64 v.b,.int .i64 v.c,.int .i64 v.d,.int .i64 v.e,.int .i64 v.f,.int .i64 v.g,.int .i64 v.h,.int .i64 v.i]
abbrev Jw (x0:Int):=(C4 (wrap IntKind.u8 (Int.tdiv x0 4)))
abbrev Gu (x0:Int):=(C4 (wrap IntKind.u8 ((Int.tmod x0 4)+2)))
inductive IJ where
def Nv (x0:Int):IJ->CG
 :=nofun
def WA (x0:Int):IJ->Xj IJ
 :=nofun
def U6 (x0:Int):Xj IJ:=(bif (decide ((Int.tmod x0 4)>=(wrap IntKind.u8 ((wrap IntKind.u8 (Int.tdiv (wrap IntKind.u8 (Int.tdiv x0 4)) 2))*2)))) then (.ret [(.agg [(.int .i64 (C4 (wrap IntKind.u8 (Int.tdiv x0 4))).a),(.int .i64 (C4 (wrap IntKind.u8 (Int.tdiv x0 4))).b),(.int .i64 (C4 (wrap IntKind.u8 (Int.tdiv x0 4))).c),(.int .i64 (C4 (wrap IntKind.u8 ((Int.tmod x0 4)+2))).a),(.int .i64 (C4 (wrap IntKind.u8 ((Int.tmod x0 4)+2))).b),(.int .i64 (C4 (wrap IntKind.u8 ((Int.tmod x0 4)+2))).c),(.int .i64 (wrap .i64 ((wrap .i64 ((C4 (wrap IntKind.u8 (Int.tdiv x0 4))).b *(C4 (wrap IntKind.u8 ((Int.tmod x0 4)+2))).c)) - (wrap .i64 ((C4 (wrap IntKind.u8 (Int.tdiv x0 4))).c *(C4 (wrap IntKind.u8 ((Int.tmod x0 4)+2))).b))))),(.int .i64 (wrap .i64 ((wrap .i64 ((C4 (wrap IntKind.u8 (Int.tdiv x0 4))).c *(C4 (wrap IntKind.u8 ((Int.tmod x0 4)+2))).a)) - (wrap .i64 ((C4 (wrap IntKind.u8 (Int.tdiv x0 4))).a *(C4 (wrap IntKind.u8 ((Int.tmod x0 4)+2))).c))))),(.int .i64 (wrap .i64 ((wrap .i64 ((C4 (wrap IntKind.u8 (Int.tdiv x0 4))).a *(C4 (wrap IntKind.u8 ((Int.tmod x0 4)+2))).b)) - (wrap .i64 ((C4 (wrap IntKind.u8 (Int.tdiv x0 4))).b *(C4 (wrap IntKind.u8 ((Int.tmod x0 4)+2))).a)))))])]) else (.ret [(.agg [(.int .i64 (C4 (wrap IntKind.u8 (Int.tdiv x0 4))).a),(.int .i64 (C4 (wrap IntKind.u8 (Int.tdiv x0 4))).b),(.int .i64 (C4 (wrap IntKind.u8 (Int.tdiv x0 4))).c),(.int .i64 (C4 (Int.tmod x0 4)).a),(.int .i64 (C4 (Int.tmod x0 4)).b),(.int .i64 (C4 (Int.tmod x0 4)).c),(.int .i64 (wrap .i64 ((wrap .i64 ((C4 (wrap IntKind.u8 (Int.tdiv x0 4))).b *(C4 (Int.tmod x0 4)).c)) - (wrap .i64 ((C4 (wrap IntKind.u8 (Int.tdiv x0 4))).c *(C4 (Int.tmod x0 4)).b))))),(.int .i64 (wrap .i64 ((wrap .i64 ((C4 (wrap IntKind.u8 (Int.tdiv x0 4))).c *(C4 (Int.tmod x0 4)).a)) - (wrap .i64 ((C4 (wrap IntKind.u8 (Int.tdiv x0 4))).a *(C4 (Int.tmod x0 4)).c))))),(.int .i64 (wrap .i64 ((wrap .i64 ((C4 (wrap IntKind.u8 (Int.tdiv x0 4))).a *(C4 (Int.tmod x0 4)).b)) - (wrap .i64 ((C4 (wrap IntKind.u8 (Int.tdiv x0 4))).b *(C4 (Int.tmod x0 4)).a)))))])]))
theorem v1j (x0:Int): ∀s,Wp prog (Zy prog 90) (Nv x0) (Nv x0 s) (WA x0 s)
 :=nofun
theorem w3p (x0:Int):Wp prog (Zy prog 90) (Nv x0) (Zg prog 90 [(.int .u8 x0)] true []) (U6 x0):=let e:=Zf prog 3 [1,1,1,1,1,1,0] 1;let f:=ii (Jw x0).a;let g:=ii (Jw x0).b;let h:=ii (Jw x0).c;let i:=Zy prog 90;(lb (fun k0=>(Ys ⟨⟨28,0,true⟩,none,e,none,i,⟨Ye [(2,(.ptr 0 0))],Xs [⟨[f,g,h,(ii (Gu x0).a),(ii (Gu x0).b),(ii (Gu x0).c),(ii (wr ((wr ((Jw x0).b *(Gu x0).c)) - (wr ((Jw x0).c *(Gu x0).b))))),(ii (wr ((wr ((Jw x0).c *(Gu x0).a)) - (wr ((Jw x0).a *(Gu x0).c))))),(ii (wr ((wr ((Jw x0).a *(Gu x0).b)) - (wr ((Jw x0).b *(Gu x0).a)))))],151,none⟩] 0,1,[],true⟩,[],.leaf⟩ (sl w4y 44 [] ⟨[0],[],[some [2]],[]⟩ b7 [true] (tt k0 nn)) rfl (by kernel_rfl))) (fun k0=>let d:=C4 (Int.tmod x0 4);(Ys ⟨⟨28,0,true⟩,none,e,none,i,⟨Ye [(2,(.ptr 0 0))],Xs [⟨[f,g,h,(ii d.a),(ii d.b),(ii d.c),(ii (wr ((wr ((Jw x0).b *d.c)) - (wr ((Jw x0).c *d.b))))),(ii (wr ((wr ((Jw x0).c *d.a)) - (wr ((Jw x0).a *d.c))))),(ii (wr ((wr ((Jw x0).a *d.b)) - (wr ((Jw x0).b *d.a)))))],151,none⟩] 0,1,[],true⟩,[],.leaf⟩ (sl w4y 40 [] ⟨[0],[],[some [2]],[]⟩ b7 [false] (tt k0 nn)) rfl (by kernel_rfl))))
theorem u4h (x0:Int) (n:Nat) (vs:List B3) (h:Yw (WA x0) n (U6 x0)=.ret vs):Kj prog (Zy prog 90) (Zg prog 90 [(.int .u8 x0)] true []) vs:=by have:=Ze (v1j x0) n _ (w3p x0);rwa [h] at this
theorem Tb : ∀n:Nat,n<24->Yw (WA (n:Int)) 0 (U6 (n:Int))=.ret [ag9 (CA (n:Int))]
 | 0,_=>by kernel_rfl
 | 1,_=>by kernel_rfl
 | 2,_=>by kernel_rfl
 | 3,_=>by kernel_rfl
 | 4,_=>by kernel_rfl
 | 5,_=>by kernel_rfl
 | 6,_=>by kernel_rfl
 | 7,_=>by kernel_rfl
 | 8,_=>by kernel_rfl
 | 9,_=>by kernel_rfl
 | 10,_=>by kernel_rfl
 | 11,_=>by kernel_rfl
 | 12,_=>by kernel_rfl
 | 13,_=>by kernel_rfl
 | 14,_=>by kernel_rfl
 | 15,_=>by kernel_rfl
 | 16,_=>by kernel_rfl
 | 17,_=>by kernel_rfl
 | 18,_=>by kernel_rfl
 | 19,_=>by kernel_rfl
 | 20,_=>by kernel_rfl
 | 21,_=>by kernel_rfl
 | 22,_=>by kernel_rfl
 | 23,_=>by kernel_rfl
 | n+24,h=>absurd h (by omega)
theorem j3u (t:Int) (h:Ju t=true): ∃N,Yw (WA t) N (U6 t)=.ret [ag9 (CA t)]:=by
 have ht:0<=t/\t<24:=Av h;obtain ⟨n,rfl⟩: ∃n:Nat,t=(n:Int):=⟨t.toNat,by omega⟩
 exact ⟨0,Tb n (by omega)⟩
def O5 :List B3->Option (B3×Bool)
 | [.int .u8 t]=>some (ag9 (CA t),Ju t)
 | _=>none
theorem j5h {S:B6} (hS:Zv prog S):Zv prog (S.with Tc O5):=CS hS (by kernel_rfl) fun args v h=>by
 unfold O5 at h;split at h
 .rename_i t;simp only [Ae,Ac] at h;obtain ⟨rfl,ho⟩:=h;obtain ⟨N,hN⟩:=j3u t ho;exact ⟨_,_,.cons (.refl _) .nil,rfl,u4h t N _ hN,5,rfl⟩
 .cases h
def Tn :B6:=(To.with Tc O5)
theorem PX :Zv prog Tn:=(j5h w4y)
inductive IF where
def Ns (aO:Int) (bD:Int) (bE:Int) (bC:Int) (bI:Int) (bZ:Int) (cA:Int):IF->CG
 :=nofun
def w3j (aO:Int) (bD:Int) (bE:Int) (bC:Int) (bI:Int) (bZ:Int) (cA:Int):IF->Xj IF
 :=nofun
def RV (aO:Int) (bD:Int) (bE:Int) (bC:Int) (bI:Int) (bZ:Int) (cA:Int):Xj IF:=(bif (Ju aO) then (.ret [(.agg [(.int .i64 (wrap .i64 ((wrap .i64 ((wrap .i64 ((wrap .i64 (bI*(CA aO).a))+(wrap .i64 (bZ*(CA aO).d))))+(wrap .i64 (cA*(CA aO).g))))+bD))),(.int .i64 (wrap .i64 ((wrap .i64 ((wrap .i64 ((wrap .i64 (bI*(CA aO).b))+(wrap .i64 (bZ*(CA aO).e))))+(wrap .i64 (cA*(CA aO).h))))+bE))),(.int .i64 (wrap .i64 ((wrap .i64 ((wrap .i64 ((wrap .i64 (bI*(CA aO).c))+(wrap .i64 (bZ*(CA aO).f))))+(wrap .i64 (cA*(CA aO).i))))+bC)))])]) else .stuck)
theorem v1g (aO:Int) (bD:Int) (bE:Int) (bC:Int) (bI:Int) (bZ:Int) (cA:Int): ∀s,Wp prog (Zy prog 93) (Ns aO bD bE bC bI bZ cA) (Ns aO bD bE bC bI bZ cA s) (w3j aO bD bE bC bI bZ cA s)
 :=nofun
theorem w3k (aO:Int) (bD:Int) (bE:Int) (bC:Int) (bI:Int) (bZ:Int) (cA:Int):Wp prog (Zy prog 93) (Ns aO bD bE bC bI bZ cA) (Zg prog 93 [(.agg [(.int .u8 aO),(.int .i64 bD),(.int .i64 bE),(.int .i64 bC)]),(.agg [(.int .i64 bI),(.int .i64 bZ),(.int .i64 cA)])] true []) (RV aO bD bE bC bI bZ cA):=(lo fun o0=>(Ys ⟨⟨29,0,true⟩,none,(Zf prog 3 [1,1,1,1,1,1,0] 1),none,(Zy prog 91),⟨Ye [(4,(.ptr 0 0))],Xs [⟨[(ii (wr ((wr ((wr ((wr (bI*(CA aO).a))+(wr (bZ*(CA aO).d))))+(wr (cA*(CA aO).g))))+bD))),(ii (wr ((wr ((wr ((wr (bI*(CA aO).b))+(wr (bZ*(CA aO).e))))+(wr (cA*(CA aO).h))))+bE))),(ii (wr ((wr ((wr ((wr (bI*(CA aO).c))+(wr (bZ*(CA aO).f))))+(wr (cA*(CA aO).i))))+bC)))],40,none⟩] 0,1,[],true⟩,[],.leaf⟩ (sl PX 31 [] ⟨[2],[],[some [4]],[]⟩ b7 [] (ww o0 nn)) rfl (by kernel_rfl)))
theorem u4e (aO:Int) (bD:Int) (bE:Int) (bC:Int) (bI:Int) (bZ:Int) (cA:Int) (n:Nat) (vs:List B3) (h:Yw (w3j aO bD bE bC bI bZ cA) n (RV aO bD bE bC bI bZ cA)=.ret vs):Kj prog (Zy prog 93) (Zg prog 93 [(.agg [(.int .u8 aO),(.int .i64 bD),(.int .i64 bE),(.int .i64 bC)]),(.agg [(.int .i64 bI),(.int .i64 bZ),(.int .i64 cA)])] true []) vs:=by have:=Ze (v1g aO bD bE bC bI bZ cA) n _ (w3k aO bD bE bC bI bZ cA);rwa [h] at this
inductive IE where
 | h0 (v4:Int)
def No (aO:Int) (bD:Int) (bE:Int) (bC:Int) (cP:Int) (cQ:Int) (dJ:Int) (dK:Int) (dL:Int):IE->CG
 | .h0 v4=>⟨⟨13,0,true⟩,none,(Zf prog 92 [1,0,1,0,0] 0),none,(Zy prog 9),⟨Ye [(1,(.ptr 0 0)),(4,(.int .u8 v4))],Xs [⟨[(ii aO),(ii bD),(ii bE),(ii bC),(ii cP),(ii cQ),(ii dJ),(ii dK),(ii dL)],151,none⟩] 0,1,[],true⟩,[],.leaf⟩
def K6 :List (Option (List Nat)):=[some [1,4]]
def K7 :List (Option (List Nat)):=[]
def LM (aO:Int) (bD:Int) (bE:Int) (bC:Int) (cP:Int) (cQ:Int) (dJ:Int) (dK:Int) (dL:Int):IE->Xj IE
 | .h0 v4=>(bif (decide (v4<24)) then (bif (Ju v4) then (bif ((((CA v4).a == aO)&&(((CA v4).b == bD)&&(((CA v4).c == bE)&&true)))&&((((CA v4).d == bC)&&(((CA v4).e == cP)&&(((CA v4).f == cQ)&&true)))&&((((CA v4).g == dJ)&&(((CA v4).h == dK)&&(((CA v4).i == dL)&&true)))&&true))) then (.ret [(.int .u8 v4)]) else (.to (.h0 (wrap IntKind.u8 (v4+1))))) else .stuck) else (.ret [(.int .u8 0)]))
def x4j (aO:Int) (bD:Int) (bE:Int) (bC:Int) (cP:Int) (cQ:Int) (dJ:Int) (dK:Int) (dL:Int):Xj IE:=(.to (.h0 0))
theorem v1d (aO:Int) (bD:Int) (bE:Int) (bC:Int) (cP:Int) (cQ:Int) (dJ:Int) (dK:Int) (dL:Int): ∀s,Wp prog (Zy prog 92) (No aO bD bE bC cP cQ dJ dK dL) (No aO bD bE bC cP cQ dJ dK dL s) (LM aO bD bE bC cP cQ dJ dK dL s)
 | .h0 v4=>(lb (fun k0=>(lo fun aG=>let a:=ww aG (tt k0 nn);(lb (fun k1=>(lr 13 92 [1,0,1,0,0,1,1,0,0,1,1,0,0] 1 9 [(2,(.int .u8 v4))] (sl PX 22 [] (b8 [2]) b7 (bl 2 3) (tt k1 a)))) (fun k1=>(sl PX 24 [] ⟨[0],[],K6,K7⟩ b7 (bl 2 1) (tt k1 a)))))) (fun k0=>(lr 13 3 [1,1,1,1,1,1,0] 1 9 [(2,(.int .u8 0))] (sl PX 11 [] (b8 [2]) b7 [false] (tt k0 nn)))))
theorem w3h (aO:Int) (bD:Int) (bE:Int) (bC:Int) (cP:Int) (cQ:Int) (dJ:Int) (dK:Int) (dL:Int):Wp prog (Zy prog 92) (No aO bD bE bC cP cQ dJ dK dL) (Zg prog 92 [(.agg [(.int .i64 aO),(.int .i64 bD),(.int .i64 bE),(.int .i64 bC),(.int .i64 cP),(.int .i64 cQ),(.int .i64 dJ),(.int .i64 dK),(.int .i64 dL)])] true []) (x4j aO bD bE bC cP cQ dJ dK dL):=(sl PX 12 [] ⟨[0],[],K6,K7⟩ b7 [] nn)
theorem u4a (aO:Int) (bD:Int) (bE:Int) (bC:Int) (cP:Int) (cQ:Int) (dJ:Int) (dK:Int) (dL:Int) (n:Nat) (vs:List B3) (h:Yw (LM aO bD bE bC cP cQ dJ dK dL) n (x4j aO bD bE bC cP cQ dJ dK dL)=.ret vs):Kj prog (Zy prog 92) (Zg prog 92 [(.agg [(.int .i64 aO),(.int .i64 bD),(.int .i64 bE),(.int .i64 bC),(.int .i64 cP),(.int .i64 cQ),(.int .i64 dJ),(.int .i64 dK),(.int .i64 dL)])] true []) vs:=by have:=Ze (v1d aO bD bE bC cP cQ dJ dK dL) n _ (w3h aO bD bE bC cP cQ dJ dK dL);rwa [h] at this
def w3 (p q r:Int):Int:=wrap .i64 (p+q+r)
def w4 (p q r s:Int):Int:=wrap .i64 (p+q+r+s)
theorem wll (p q r:Int):wrap .i64 (wrap .i64 (wrap .i64 p+wrap .i64 q)+wrap .i64 r)=w3 p q r:=by unfold w3;simp only [w64];omega
theorem w3s (p q r s:Int):wrap .i64 (w3 p q r+s)=w4 p q r s:=by unfold w3 w4;simp only [w64];omega
def Gl (t a b c x y z:Int):R3:=⟨w4 (x*(CA t).a) (y*(CA t).d) (z*(CA t).g) a,w4 (x*(CA t).b) (y*(CA t).e) (z*(CA t).h) b,w4 (x*(CA t).c) (y*(CA t).f) (z*(CA t).i) c⟩
def U7 (t a b c x y z:Int):Bool:=Ju t
theorem j3r (t a b c x y z:Int) (h:U7 t a b c x y z=true): ∃N,Yw (w3j t a b c x y z) N (RV t a b c x y z)=.ret [Ti (Gl t a b c x y z)]:=⟨0,by
 show RV t a b c x y z=_;unfold RV Gl Ti;rw [Zp (show Ju t=true from h)];simp only [wll,w3s]⟩
def O3 :List B3->Option (B3×Bool)
 | [.agg [.int .u8 t,.int .i64 a,.int .i64 b,.int .i64 c],.agg [.int .i64 x,.int .i64 y,.int .i64 z]]=>some (Ti (Gl t a b c x y z),U7 t a b c x y z)
 | _=>none
theorem j5e {S:B6} (hS:Zv prog S):Zv prog (S.with TZ O3):=CS hS (by kernel_rfl) fun args v h=>by
 unfold O3 at h;split at h
 .rename_i t a b c x y z;simp only [Ae,Ac] at h;obtain ⟨rfl,ho⟩:=h;obtain ⟨N,hN⟩:=j3r t a b c x y z ho;exact ⟨_,_,.cons (.refl _) (.cons (.refl _) .nil),rfl,u4e t a b c x y z N _ hN,5,rfl⟩
 .cases h
def X2 (v:R9) (a b c d e f g h i:Int):Bool:=((v.a == a)&&((v.b == b)&&((v.c == c)&&true)))&&(((v.d == d)&&((v.e == e)&&((v.f == f)&&true)))&&(((v.g == g)&&((v.h == h)&&((v.i == i)&&true)))&&true))
def GR (dd:Int):Nat->Nat->Int->Int->Int->Int->Int->Int->Int->Int->Int->Int
 | 0,_,_,_,_,_,_,_,_,_,_=>dd
 | n+1,k,a,b,c,d,e,f,g,h,i=>bif X2 (CA (k:Int)) a b c d e f g h i then (k:Int) else GR dd n (k+1) a b c d e f g h i
def TW (a b c d e f g h i:Int):Int:=GR 0 24 0 a b c d e f g h i
def rtV (a b c d e f g h i:Int):Int:=GR (-1) 24 0 a b c d e f g h i
theorem u8m (a b c d e f g h i:Int): ∀(n k:Nat),k+n=24-> ∃N,Yw (LM a b c d e f g h i) N (.to (.h0 (k:Int)))=.ret [.int .u8 (GR 0 n k a b c d e f g h i)]
 | 0,k,hk=>⟨1,by
  rw [Zw];unfold LM;simp only [];rw [Yt (by omega)];rfl⟩
 | n+1,k,hk=>by
  have w2:wrap .u8 ((k:Int)+1)=((k+1:Nat):Int):=wu8 _ (by omega);have ho:Ju (k:Int)=true:=Aa (by omega);have es:LM a b c d e f g h i (.h0 (k:Int))=bif X2 (CA (k:Int)) a b c d e f g h i then .ret [.int .u8 (k:Int)] else .to (.h0 ((k+1:Nat):Int)):=by unfold LM X2;simp only [w2];rw [Yb (by omega),Af,Zp ho]
  rw [GR];cases hq:X2 (CA (k:Int)) a b c d e f g h i with
  | true=>exact ⟨1,by rw [Zw,es,hq];rfl⟩
  | false=>obtain ⟨N,hN⟩:=u8m a b c d e f g h i n (k+1) (by omega);exact ⟨N+1,by rw [Zw,es,hq,Ab,Ab,hN]⟩
theorem j3o (a b c d e f g h i:Int) (_:True): ∃N,Yw (LM a b c d e f g h i) N (x4j a b c d e f g h i)=.ret [.int .u8 (TW a b c d e f g h i)]:=u8m a b c d e f g h i 24 0 (by omega)
def O2 :List B3->Option (B3×Bool)
 | [.agg [.int .i64 a,.int .i64 b,.int .i64 c,.int .i64 d,.int .i64 e,.int .i64 f,.int .i64 g,.int .i64 h,.int .i64 i]]=>some (.int .u8 (TW a b c d e f g h i),true)
 | _=>none
theorem j5d {S:B6} (hS:Zv prog S):Zv prog (S.with TT O2):=CS hS (by kernel_rfl) fun args v hx=>by
 unfold O2 at hx;split at hx
 .rename_i a b c d e f g h i;simp only [Ae,Ac] at hx;obtain ⟨rfl,ho⟩:=hx;obtain ⟨N,hN⟩:=j3o a b c d e f g h i ho;exact ⟨_,_,.cons (.refl _) .nil,rfl,u4a a b c d e f g h i N _ hN,5,rfl⟩
 .cases hx
def Tm :B6:=((Tn.with TZ O3).with TT O2)
theorem v8z :Zv prog Tm:=(j5d (j5e PX))
inductive IB where
def Nm (aO:Int) (bD:Int) (bE:Int) (bC:Int) (bI:Int) (bZ:Int) (cA:Int) (cJ:Int):IB->CG
 :=nofun
def w3c (aO:Int) (bD:Int) (bE:Int) (bC:Int) (bI:Int) (bZ:Int) (cA:Int) (cJ:Int):IB->Xj IB
 :=nofun
def RW (aO:Int) (bD:Int) (bE:Int) (bC:Int) (bI:Int) (bZ:Int) (cA:Int) (cJ:Int):Xj IB:=(bif (Ju aO) then (bif (Ju bI) then (bif (U7 bI bZ cA cJ bD bE bC) then (.ret [(.agg [(.int .u8 (TW (wrap .i64 ((wrap .i64 ((wrap .i64 ((CA aO).a *(CA bI).a))+(wrap .i64 ((CA aO).b *(CA bI).d))))+(wrap .i64 ((CA aO).c *(CA bI).g)))) (wrap .i64 ((wrap .i64 ((wrap .i64 ((CA aO).a *(CA bI).b))+(wrap .i64 ((CA aO).b *(CA bI).e))))+(wrap .i64 ((CA aO).c *(CA bI).h)))) (wrap .i64 ((wrap .i64 ((wrap .i64 ((CA aO).a *(CA bI).c))+(wrap .i64 ((CA aO).b *(CA bI).f))))+(wrap .i64 ((CA aO).c *(CA bI).i)))) (wrap .i64 ((wrap .i64 ((wrap .i64 ((CA aO).d *(CA bI).a))+(wrap .i64 ((CA aO).e *(CA bI).d))))+(wrap .i64 ((CA aO).f *(CA bI).g)))) (wrap .i64 ((wrap .i64 ((wrap .i64 ((CA aO).d *(CA bI).b))+(wrap .i64 ((CA aO).e *(CA bI).e))))+(wrap .i64 ((CA aO).f *(CA bI).h)))) (wrap .i64 ((wrap .i64 ((wrap .i64 ((CA aO).d *(CA bI).c))+(wrap .i64 ((CA aO).e *(CA bI).f))))+(wrap .i64 ((CA aO).f *(CA bI).i)))) (wrap .i64 ((wrap .i64 ((wrap .i64 ((CA aO).g *(CA bI).a))+(wrap .i64 ((CA aO).h *(CA bI).d))))+(wrap .i64 ((CA aO).i *(CA bI).g)))) (wrap .i64 ((wrap .i64 ((wrap .i64 ((CA aO).g *(CA bI).b))+(wrap .i64 ((CA aO).h *(CA bI).e))))+(wrap .i64 ((CA aO).i *(CA bI).h)))) (wrap .i64 ((wrap .i64 ((wrap .i64 ((CA aO).g *(CA bI).c))+(wrap .i64 ((CA aO).h *(CA bI).f))))+(wrap .i64 ((CA aO).i *(CA bI).i)))))),(.int .i64 (Gl bI bZ cA cJ bD bE bC).a),(.int .i64 (Gl bI bZ cA cJ bD bE bC).b),(.int .i64 (Gl bI bZ cA cJ bD bE bC).c)])]) else .stuck) else .stuck) else .stuck)
theorem v1a (aO:Int) (bD:Int) (bE:Int) (bC:Int) (bI:Int) (bZ:Int) (cA:Int) (cJ:Int): ∀s,Wp prog (Zy prog 57) (Nm aO bD bE bC bI bZ cA cJ) (Nm aO bD bE bC bI bZ cA cJ s) (w3c aO bD bE bC bI bZ cA cJ s)
 :=nofun
theorem w3d (aO:Int) (bD:Int) (bE:Int) (bC:Int) (bI:Int) (bZ:Int) (cA:Int) (cJ:Int):Wp prog (Zy prog 57) (Nm aO bD bE bC bI bZ cA cJ) (Zg prog 57 [(.agg [(.int .u8 aO),(.int .i64 bD),(.int .i64 bE),(.int .i64 bC)]),(.agg [(.int .u8 bI),(.int .i64 bZ),(.int .i64 cA),(.int .i64 cJ)])] true []) (RW aO bD bE bC bI bZ cA cJ):=(lo fun o0=>(lo fun o1=>(lo fun o2=>let j:=Gl bI bZ cA cJ bD bE bC;(Ys ⟨⟨32,0,true⟩,none,(Zf prog 3 [1,1,1,1,1,1,0] 1),none,(Zy prog 57),⟨Ye [(4,(.ptr 0 0))],Xs [⟨[(.int .u8 (TW (wr ((wr ((wr ((CA aO).a *(CA bI).a))+(wr ((CA aO).b *(CA bI).d))))+(wr ((CA aO).c *(CA bI).g)))) (wr ((wr ((wr ((CA aO).a *(CA bI).b))+(wr ((CA aO).b *(CA bI).e))))+(wr ((CA aO).c *(CA bI).h)))) (wr ((wr ((wr ((CA aO).a *(CA bI).c))+(wr ((CA aO).b *(CA bI).f))))+(wr ((CA aO).c *(CA bI).i)))) (wr ((wr ((wr ((CA aO).d *(CA bI).a))+(wr ((CA aO).e *(CA bI).d))))+(wr ((CA aO).f *(CA bI).g)))) (wr ((wr ((wr ((CA aO).d *(CA bI).b))+(wr ((CA aO).e *(CA bI).e))))+(wr ((CA aO).f *(CA bI).h)))) (wr ((wr ((wr ((CA aO).d *(CA bI).c))+(wr ((CA aO).e *(CA bI).f))))+(wr ((CA aO).f *(CA bI).i)))) (wr ((wr ((wr ((CA aO).g *(CA bI).a))+(wr ((CA aO).h *(CA bI).d))))+(wr ((CA aO).i *(CA bI).g)))) (wr ((wr ((wr ((CA aO).g *(CA bI).b))+(wr ((CA aO).h *(CA bI).e))))+(wr ((CA aO).i *(CA bI).h)))) (wr ((wr ((wr ((CA aO).g *(CA bI).c))+(wr ((CA aO).h *(CA bI).f))))+(wr ((CA aO).i *(CA bI).i)))))),(ii j.a),(ii j.b),(ii j.c)],42,none⟩] 0,1,[],true⟩,[],.leaf⟩ (sl v8z 87 [] ⟨[2],[],[some [4]],[]⟩ b7 (bl 16 14169) (ww o2 (ww o1 (ww o0 nn)))) rfl (by kernel_rfl)))))
theorem u3x (aO:Int) (bD:Int) (bE:Int) (bC:Int) (bI:Int) (bZ:Int) (cA:Int) (cJ:Int) (n:Nat) (vs:List B3) (h:Yw (w3c aO bD bE bC bI bZ cA cJ) n (RW aO bD bE bC bI bZ cA cJ)=.ret vs):Kj prog (Zy prog 57) (Zg prog 57 [(.agg [(.int .u8 aO),(.int .i64 bD),(.int .i64 bE),(.int .i64 bC)]),(.agg [(.int .u8 bI),(.int .i64 bZ),(.int .i64 cA),(.int .i64 cJ)])] true []) vs:=by have:=Ze (v1a aO bD bE bC bI bZ cA cJ) n _ (w3d aO bD bE bC bI bZ cA cJ);rwa [h] at this
def k9 (s t:Int):R9:=⟨w3 ((CA s).a *(CA t).a) ((CA s).b *(CA t).d) ((CA s).c *(CA t).g),w3 ((CA s).a *(CA t).b) ((CA s).b *(CA t).e) ((CA s).c *(CA t).h),w3 ((CA s).a *(CA t).c) ((CA s).b *(CA t).f) ((CA s).c *(CA t).i),w3 ((CA s).d *(CA t).a) ((CA s).e *(CA t).d) ((CA s).f *(CA t).g),w3 ((CA s).d *(CA t).b) ((CA s).e *(CA t).e) ((CA s).f *(CA t).h),w3 ((CA s).d *(CA t).c) ((CA s).e *(CA t).f) ((CA s).f *(CA t).i),w3 ((CA s).g *(CA t).a) ((CA s).h *(CA t).d) ((CA s).i *(CA t).g),w3 ((CA s).g *(CA t).b) ((CA s).h *(CA t).e) ((CA s).i *(CA t).h),w3 ((CA s).g *(CA t).c) ((CA s).h *(CA t).f) ((CA s).i *(CA t).i)⟩
def Nr (v:R9):Int:=TW v.a v.b v.c v.d v.e v.f v.g v.h v.i
def rt9 (v:R9):Int:=rtV v.a v.b v.c v.d v.e v.f v.g v.h v.i
def Dd (s a b c t x y z:Int):R4:=⟨Nr (k9 s t),(Gl t x y z a b c).a,(Gl t x y z a b c).b,(Gl t x y z a b c).c⟩
def PG (s a b c t x y z:Int):Bool:=Ju s&&Ju t
def IU (v:R4):B3:=.agg [.int .u8 v.a,.int .i64 v.b,.int .i64 v.c,.int .i64 v.d]
theorem j3m (s a b c t x y z:Int) (h:PG s a b c t x y z=true): ∃N,Yw (w3c s a b c t x y z) N (RW s a b c t x y z)=.ret [IU (Dd s a b c t x y z)]:=⟨0,by
 unfold PG at h;rw [Ad] at h;show RW s a b c t x y z=_;unfold RW;rw [Zp h.1,Zp h.2,Zp (show U7 t x y z a b c=true from h.2)];simp only [wll];rfl⟩
def O0 :List B3->Option (B3×Bool)
 | [.agg [.int .u8 s,.int .i64 a,.int .i64 b,.int .i64 c],.agg [.int .u8 t,.int .i64 x,.int .i64 y,.int .i64 z]]=>some (IU (Dd s a b c t x y z),PG s a b c t x y z)
 | _=>none
theorem j5b {S:B6} (hS:Zv prog S):Zv prog (S.with TS O0):=CS hS (by kernel_rfl) fun args v h=>by
 unfold O0 at h;split at h
 .rename_i s a b c t x y z;simp only [Ae,Ac] at h;obtain ⟨rfl,ho⟩:=h;obtain ⟨N,hN⟩:=j3m s a b c t x y z ho;exact ⟨_,_,.cons (.refl _) (.cons (.refl _) .nil),rfl,u3x s a b c t x y z N _ hN,5,rfl⟩
 .cases h
def Tl :B6:=(Tm.with TS O0)
theorem Ql :Zv prog Tl:=(j5b v8z)
theorem v9o :((List.range 24).all fun s=>(List.range 24).all fun t=>rt9 (k9 (s:Int) (t:Int)) == Nr (k9 (s:Int) (t:Int))&&(decide (0<=Nr (k9 (s:Int) (t:Int)))&&decide (Nr (k9 (s:Int) (t:Int))<24)))=true:=by kernel_rfl
theorem u9l {s t:Int} (hs:Ju s=true) (ht:Ju t=true):rt9 (k9 s t)=Nr (k9 s t)/\0<=Nr (k9 s t)/\Nr (k9 s t)<24:=by
 have hs:0<=s/\s<24:=Av hs;have ht:0<=t/\t<24:=Av ht;obtain ⟨p,rfl⟩: ∃n:Nat,s=(n:Int):=⟨s.toNat,by omega⟩
 obtain ⟨q,rfl⟩: ∃n:Nat,t=(n:Int):=⟨t.toNat,by omega⟩
 have:=Ax.1 (Ax.1 v9o p (A2.2 (by omega))) q (A2.2 (by omega));rw [Ad,Ad,Ak,Ak,AU] at this;exact this
def Gq (s a b c t x y z:Int):Int:=bif Ck s a b c != 0 then Ck s a b c else bif Ck t x y z != 0 then Ck t x y z else bif Ck (Dd s a b c t x y z).a (Dd s a b c t x y z).b (Dd s a b c t x y z).c (Dd s a b c t x y z).d != 0 then 16 else 0
def Fq (s a b c t x y z:Int):R4:=bif Gq s a b c t x y z != 0 then ⟨0,0,0,0⟩ else Dd s a b c t x y z
def PT (s a b c t x y z:Int):Bool:=decide (0<=s)&&decide (0<=t)
theorem WB {t x y z:Int} (h:(Ck t x y z != 0)=false) (h0:0<=t):Ju t=true:=by
 unfold Ck at h;by_cases g:24<=t
 .rw [Aa g] at h;cases h
 .exact Aa (by omega)
def Ny :List B3->Option (B3×Bool)
 | [.agg [.int .u8 s,.int .i64 a,.int .i64 b,.int .i64 c],.agg [.int .u8 t,.int .i64 x,.int .i64 y,.int .i64 z]]=>some (.tup [IU (Fq s a b c t x y z),.int .i64 (Gq s a b c t x y z)],PT s a b c t x y z)
 | _=>none
inductive IA where
def Nl (aO:Int) (bD:Int) (bE:Int) (bC:Int) (bI:Int) (bZ:Int) (cA:Int) (cJ:Int):IA->CG
 :=nofun
def w3a (aO:Int) (bD:Int) (bE:Int) (bC:Int) (bI:Int) (bZ:Int) (cA:Int) (cJ:Int):IA->Xj IA
 :=nofun
def RX (aO:Int) (bD:Int) (bE:Int) (bC:Int) (bI:Int) (bZ:Int) (cA:Int) (cJ:Int):Xj IA:=(bif ((Ck aO bD bE bC) != 0) then (.ret [(.agg [(.int .u8 0),(.int .i64 0),(.int .i64 0),(.int .i64 0)]),(.int .i64 (Ck aO bD bE bC))]) else (bif ((Ck bI bZ cA cJ) != 0) then (.ret [(.agg [(.int .u8 0),(.int .i64 0),(.int .i64 0),(.int .i64 0)]),(.int .i64 (Ck bI bZ cA cJ))]) else (bif (PG aO bD bE bC bI bZ cA cJ) then (bif ((Ck (Dd aO bD bE bC bI bZ cA cJ).a (Dd aO bD bE bC bI bZ cA cJ).b (Dd aO bD bE bC bI bZ cA cJ).c (Dd aO bD bE bC bI bZ cA cJ).d) != 0) then (.ret [(.agg [(.int .u8 0),(.int .i64 0),(.int .i64 0),(.int .i64 0)]),(.int .i64 16)]) else (.ret [(.agg [(.int .u8 (Dd aO bD bE bC bI bZ cA cJ).a),(.int .i64 (Dd aO bD bE bC bI bZ cA cJ).b),(.int .i64 (Dd aO bD bE bC bI bZ cA cJ).c),(.int .i64 (Dd aO bD bE bC bI bZ cA cJ).d)]),(.int .i64 0)])) else .stuck)))
theorem v0z (aO:Int) (bD:Int) (bE:Int) (bC:Int) (bI:Int) (bZ:Int) (cA:Int) (cJ:Int): ∀s,Wp prog (Zy prog 20) (Nl aO bD bE bC bI bZ cA cJ) (Nl aO bD bE bC bI bZ cA cJ s) (w3a aO bD bE bC bI bZ cA cJ s)
 :=nofun
theorem w3b (aO:Int) (bD:Int) (bE:Int) (bC:Int) (bI:Int) (bZ:Int) (cA:Int) (cJ:Int):Wp prog (Zy prog 20) (Nl aO bD bE bC bI bZ cA cJ) (Zg prog 20 [(.agg [(.int .u8 aO),(.int .i64 bD),(.int .i64 bE),(.int .i64 bC)]),(.agg [(.int .u8 bI),(.int .i64 bZ),(.int .i64 cA),(.int .i64 cJ)])] true []) (RX aO bD bE bC bI bZ cA cJ):=let f:=Zy prog 19;(lb (fun k0=>(Ys ⟨⟨29,0,true⟩,none,(Zf prog 20 [1,0,1,1,0,0] 1),none,f,⟨Ye [(4,(.ptr 0 0)),(5,(ii (Ck aO bD bE bC)))],Xs [⟨[(.int .u8 0),(ii 0),(ii 0),(ii 0)],42,none⟩] 0,1,[],true⟩,[],.leaf⟩ (sl Ql 27 [] ⟨[2],[],[some [4,5]],[]⟩ b7 [true] (tt k0 nn)) rfl (by kernel_rfl))) (fun k0=>(lb (fun k1=>(Ys ⟨⟨29,0,true⟩,none,(Zf prog 20 [1,1,0,1,1,0,0] 1),none,f,⟨Ye [(4,(.ptr 0 0)),(5,(ii (Ck bI bZ cA cJ)))],Xs [⟨[(.int .u8 0),(ii 0),(ii 0),(ii 0)],42,none⟩] 0,1,[],true⟩,[],.leaf⟩ (sl Ql 41 [] ⟨[2],[],[some [4,5]],[]⟩ b7 (bl 2 2) (tt k1 (tt k0 nn))) rfl (by kernel_rfl))) (fun k1=>(lo fun bJ=>let g:=ww bJ (tt k1 (tt k0 nn));(lb (fun k2=>(Ys ⟨⟨29,0,true⟩,none,(Zf prog 20 [1,1,1,1,0,1,0,0] 1),none,f,⟨Ye [(4,(.ptr 0 0)),(5,(ii 16))],Xs [⟨[(.int .u8 0),(ii 0),(ii 0),(ii 0)],42,none⟩] 0,1,[],true⟩,[],.leaf⟩ (sl Ql 57 [] ⟨[2],[],[some [4,5]],[]⟩ b7 (bl 3 4) (tt k2 g)) rfl (by kernel_rfl))) (fun k2=>let e:=Dd aO bD bE bC bI bZ cA cJ;(Ys ⟨⟨29,0,true⟩,none,(Zf prog 3 [1,1,1,1,1,1,0] 1),none,f,⟨Ye [(4,(.ptr 0 0)),(5,(ii 0))],Xs [⟨[(.int .u8 e.a),(ii e.b),(ii e.c),(ii e.d)],42,none⟩] 0,1,[],true⟩,[],.leaf⟩ (sl Ql 58 [] ⟨[2],[],[some [4,5]],[]⟩ b7 (bl 3 0) (tt k2 g)) rfl (by kernel_rfl)))))))))
theorem u3w (aO:Int) (bD:Int) (bE:Int) (bC:Int) (bI:Int) (bZ:Int) (cA:Int) (cJ:Int) (n:Nat) (vs:List B3) (h:Yw (w3a aO bD bE bC bI bZ cA cJ) n (RX aO bD bE bC bI bZ cA cJ)=.ret vs):Kj prog (Zy prog 20) (Zg prog 20 [(.agg [(.int .u8 aO),(.int .i64 bD),(.int .i64 bE),(.int .i64 bC)]),(.agg [(.int .u8 bI),(.int .i64 bZ),(.int .i64 cA),(.int .i64 cJ)])] true []) vs:=by have:=Ze (v0z aO bD bE bC bI bZ cA cJ) n _ (w3b aO bD bE bC bI bZ cA cJ);rwa [h] at this
theorem j3l (s a b c t x y z:Int) (h:PT s a b c t x y z=true): ∃N,Yw (w3a s a b c t x y z) N (RX s a b c t x y z)=.ret [IU (Fq s a b c t x y z),.int .i64 (Gq s a b c t x y z)]:=⟨0,by
 unfold PT at h;rw [Ad,Ak,Ak] at h;show RX s a b c t x y z=_;unfold RX Fq;unfold Gq;cases g1:Ck s a b c != 0 with
 | true=>simp only [Af,g1];rfl
 | false=>
  cases g2:Ck t x y z != 0 with
  | true=>simp only [Af,Ab,g2];rfl
  | false=>
   rw [Ab,Ab,Zp (show PG s a b c t x y z=true by unfold PG;rw [WB g1 h.1,WB g2 h.2];rfl)];simp only [Ab];cases Ck (Dd s a b c t x y z).a (Dd s a b c t x y z).b (Dd s a b c t x y z).c (Dd s a b c t x y z).d != 0 <;> rfl⟩
theorem j5a {S:B6} (hS:Zv prog S):Zv prog (S.with TR Ny):=CS hS (by kernel_rfl) fun args v h=>by
 unfold Ny at h;split at h
 .rename_i s a b c t x y z;simp only [Ae,Ac] at h;obtain ⟨rfl,ho⟩:=h;obtain ⟨N,hN⟩:=j3l s a b c t x y z ho;exact ⟨_,_,.cons (.refl _) (.cons (.refl _) .nil),rfl,u3w s a b c t x y z N _ hN,5,rfl⟩
 .cases h
def Ov :B6:=(Tl.with TR Ny)
theorem w4x :Zv prog Ov:=(j5a Ql)
def z4 :R4:=⟨0,0,0,0⟩
def XZ (x:B5):R4:=⟨x.t,x.x,x.y,x.z⟩
def HQ (f g:R4):R4×Int:=(Fq f.a f.b f.c f.d g.a g.b g.c g.d,Gq f.a f.b f.c f.d g.a g.b g.c g.d)
def Gj (l:List B5):Nat->Int->R4×Int
 | 0,_=>(z4,0)
 | k+1,i=>bif decide ((rd l i.toNat).a <0) then (XZ (rd l i.toNat),0) else bif (Gj l k (rd l i.toNat).a).2 != 0 then (z4,(Gj l k (rd l i.toNat).a).2) else HQ (XZ (rd l i.toNat)) (Gj l k (rd l i.toNat).a).1
def Ds (l:List B5) (i:Int):R4×Int:=Gj l (i.toNat+1) i
theorem x7e {l:List B5} {t:Nat} (ht:FP l t=true): ∀(k m j:Nat),j<=t->j<k->j<m->Gj l k (j:Int)=Gj l m (j:Int)
 | 0,m,j,h0,h1,h2=>absurd h1 (AC _)
 | k+1,0,j,h0,h1,h2=>absurd h2 (AC _)
 | k+1,m+1,j,h0,h1,h2=>by
  have hb:=EC ht h0;unfold Gj;rw [Zj];by_cases h:(rd l j).a <0
  .rw [Aa h];rfl
  .obtain ⟨p,hp⟩: ∃p:Nat,(rd l j).a =(p:Int):=⟨(rd l j).a.toNat,by omega⟩
   rw [hp,x7e ht k m p (by omega) (by omega) (by omega)]
theorem w5u {l:List B5} {t j:Nat} (ht:FP l t=true) (hj:j<=t):Ds l (j:Int)=bif decide ((rd l j).a <0) then (XZ (rd l j),0) else bif (Ds l (rd l j).a).2 != 0 then (z4,(Ds l (rd l j).a).2) else HQ (XZ (rd l j)) (Ds l (rd l j).a).1:=by
 have hb:=EC ht hj;have e:Ds l (j:Int)=Gj l (j+1) (j:Int):=by unfold Ds;rw [Zj]
 rw [e,Gj,Zj];by_cases h:(rd l j).a <0
 .rw [Aa h];rfl
 .obtain ⟨p,hp⟩: ∃p:Nat,(rd l j).a =(p:Int):=⟨(rd l j).a.toNat,by omega⟩
  have e2:Ds l (p:Int)=Gj l j (p:Int):=by unfold Ds;rw [Zj];exact x7e ht _ _ p (by omega) (by omega) (by omega)
  rw [hp,e2]
def Wo (l:List B5) (i:Int):R4:=(Ds l i).1
def Ig (l:List B5) (i:Int):Int:=(Ds l i).2
def Jr (l:List B5) (i:Int):Bool:=decide (0<=i/\i<(l.length:Int))&&(decide (l.length<=1000)&&(FP l i.toNat&&l.all fun x=>decide (0<=x.t)))
def PQ (q:Nat) (l:List B5) (i:Int):Bool:=decide (i<(q:Int))&&Jr l i
theorem WM {l:List B5} (h:(l.all fun x=>decide (0<=x.t))=true) (j:Nat):0<=(rd l j).t :=by
 by_cases hj:j<l.length
 .rw [Wb hj];exact Av (Ax.1 h _ (A3 hj))
 .have:rd l j=Xu.d:=by simp [rd,List.getD,List.getElem?_eq_none (show l.length<=j by omega)]
  rw [this];exact BG 0
theorem v2v {f g:R4} (hf:0<=f.a) (hg:0<=g.a):0<=(HQ f g).1.a :=by
 unfold HQ;simp only [];unfold Fq;cases h:Gq f.a f.b f.c f.d g.a g.b g.c g.d != 0 with
 | true=>exact BG 0
 | false=>
  unfold Gq at h;cases g1:Ck f.a f.b f.c f.d != 0 with
  | true=>rw [g1,Af,g1] at h;cases h
  | false=>
   rw [g1,Ab] at h;cases g2:Ck g.a g.b g.c g.d != 0 with
   | true=>rw [g2,Af,g2] at h;cases h
   | false=>exact (u9l (WB g1 hf) (WB g2 hg)).2.1
theorem x7d {l:List B5} {t:Nat} (ht:FP l t=true) (hl:(l.all fun x=>decide (0<=x.t))=true): ∀(m j:Nat),j<m->j<=t->0<=(Ds l (j:Int)).1.a
 | 0,j,hm,_=>absurd hm (AC _)
 | m+1,j,hm,hj=>by
  have hb:=EC ht hj;rw [w5u ht hj];by_cases h:(rd l j).a <0
  .rw [Aa h];exact WM hl j
  .obtain ⟨p,hp⟩: ∃p:Nat,(rd l j).a =(p:Int):=⟨(rd l j).a.toNat,by omega⟩
   rw [Ai h,Ab,hp];cases (Ds l (p:Int)).2 != 0 with
   | true=>exact BG 0
   | false=>exact v2v (WM hl j) (x7d ht hl m p (by omega) (by omega))
def OO (q:Nat):List B3->Option (B3×Bool)
 | [a0,.int .i64 i]=>match Cc B5 a0 with
  | some (L,g,n)=>some (.tup [IU (Wo L i),.int .i64 (Ig L i)],CT B5 n g&&PQ q L i)
  | _=>none
 | _=>none
def Tpl (q:Nat):B6:=Ov.with NK (OO q)
abbrev x3r (l0:List B5) (x1:Int):=(Fq (rd l0 (tn x1)).t (rd l0 (tn x1)).x (rd l0 (tn x1)).y (rd l0 (tn x1)).z (Wo (B4 l0) (rd l0 (tn x1)).a).a (Wo (B4 l0) (rd l0 (tn x1)).a).b (Wo (B4 l0) (rd l0 (tn x1)).a).c (Wo (B4 l0) (rd l0 (tn x1)).a).d)
inductive Ho where
def NL (l0:List B5) (x1:Int):Ho->CG
 :=nofun
def w1r (l0:List B5) (x1:Int):Ho->Xj Ho
 :=nofun
def QC (q:Nat) (l0:List B5) (x1:Int):Xj Ho:=(bif ((decide (0<=x1/\x1<(l0.length:Int)))&&true) then (bif (decide ((rd l0 x1.toNat).a <0)) then (.ret [(.agg [(.int .u8 (rd l0 x1.toNat).t),(.int .i64 (rd l0 x1.toNat).x),(.int .i64 (rd l0 x1.toNat).y),(.int .i64 (rd l0 x1.toNat).z)]),(.int .i64 0)]) else (bif (PQ q (B4 l0) (rd l0 x1.toNat).a) then (bif ((Ig (B4 l0) (rd l0 x1.toNat).a) != 0) then (.ret [(.agg [(.int .u8 0),(.int .i64 0),(.int .i64 0),(.int .i64 0)]),(.int .i64 (Ig (B4 l0) (rd l0 x1.toNat).a))]) else (bif (PT (rd l0 x1.toNat).t (rd l0 x1.toNat).x (rd l0 x1.toNat).y (rd l0 x1.toNat).z (Wo (B4 l0) (rd l0 x1.toNat).a).a (Wo (B4 l0) (rd l0 x1.toNat).a).b (Wo (B4 l0) (rd l0 x1.toNat).a).c (Wo (B4 l0) (rd l0 x1.toNat).a).d) then (.ret [(.agg [(.int .u8 (Fq (rd l0 x1.toNat).t (rd l0 x1.toNat).x (rd l0 x1.toNat).y (rd l0 x1.toNat).z (Wo (B4 l0) (rd l0 x1.toNat).a).a (Wo (B4 l0) (rd l0 x1.toNat).a).b (Wo (B4 l0) (rd l0 x1.toNat).a).c (Wo (B4 l0) (rd l0 x1.toNat).a).d).a),(.int .i64 (Fq (rd l0 x1.toNat).t (rd l0 x1.toNat).x (rd l0 x1.toNat).y (rd l0 x1.toNat).z (Wo (B4 l0) (rd l0 x1.toNat).a).a (Wo (B4 l0) (rd l0 x1.toNat).a).b (Wo (B4 l0) (rd l0 x1.toNat).a).c (Wo (B4 l0) (rd l0 x1.toNat).a).d).b),(.int .i64 (Fq (rd l0 x1.toNat).t (rd l0 x1.toNat).x (rd l0 x1.toNat).y (rd l0 x1.toNat).z (Wo (B4 l0) (rd l0 x1.toNat).a).a (Wo (B4 l0) (rd l0 x1.toNat).a).b (Wo (B4 l0) (rd l0 x1.toNat).a).c (Wo (B4 l0) (rd l0 x1.toNat).a).d).c),(.int .i64 (Fq (rd l0 x1.toNat).t (rd l0 x1.toNat).x (rd l0 x1.toNat).y (rd l0 x1.toNat).z (Wo (B4 l0) (rd l0 x1.toNat).a).a (Wo (B4 l0) (rd l0 x1.toNat).a).b (Wo (B4 l0) (rd l0 x1.toNat).a).c (Wo (B4 l0) (rd l0 x1.toNat).a).d).d)]),(.int .i64 (Gq (rd l0 x1.toNat).t (rd l0 x1.toNat).x (rd l0 x1.toNat).y (rd l0 x1.toNat).z (Wo (B4 l0) (rd l0 x1.toNat).a).a (Wo (B4 l0) (rd l0 x1.toNat).a).b (Wo (B4 l0) (rd l0 x1.toNat).a).c (Wo (B4 l0) (rd l0 x1.toNat).a).d))]) else .stuck)) else .stuck)) else .stuck)
theorem w9r (l0:List B5) (x1:Int): ∀s,Wp prog (Zy prog 55) (NL l0 x1) (NL l0 x1 s) (w1r l0 x1 s)
 :=nofun
theorem w1s {q:Nat} (hq:Zv prog (Tpl q)) (l0:List B5) (x1:Int):Wp prog (Zy prog 55) (NL l0 x1) (Zg prog 55 [(.dat l0.length (Zz l0)),(.int .i64 x1)] true []) (QC q l0 x1):=(lo fun cO=>let e:=rd l0 (tn x1);let i:=Zy prog 19;(lb (fun k0=>(Ys ⟨⟨42,0,true⟩,none,(Zf prog 55 [1,0,1,0,0] 1),none,i,⟨Ye [(4,(.ptr 0 0)),(5,(ii 0))],Xs [⟨[(.int .u8 e.t),(ii e.x),(ii e.y),(ii e.z)],42,none⟩] 0,1,[],true⟩,[],.leaf⟩ (sl hq 26 [] ⟨[0],[],[some [4,5]],[]⟩ b7 [true] (ww cO (tt k0 (ww cO nn)))) rfl (by kernel_rfl))) (fun k0=>(lo fun aG=>let f:=pp (pp (xr l0) (xw aG)) (ww cO (tt k0 (ww cO nn)));(lb (fun k1=>(Ys ⟨⟨42,0,true⟩,none,(Zf prog 55 [1,1,1,0,1,0,0] 1),none,i,⟨Ye [(4,(.ptr 0 0)),(5,(ii (Ig (B4 l0) e.a)))],Xs [⟨[(.int .u8 0),(ii 0),(ii 0),(ii 0)],42,none⟩] 0,1,[],true⟩,[],.leaf⟩ (sl hq 47 [] ⟨[0],[],[some [4,5]],[]⟩ b7 (bl 2 2) (tt k1 f)) rfl (by kernel_rfl))) (fun k1=>(lo fun o0=>let g:=Wo (B4 l0) e.a;let h:=x3r l0 x1;(Ys ⟨⟨42,0,true⟩,none,(Zf prog 3 [1,1,1,1,1,1,0] 1),none,i,⟨Ye [(4,(.ptr 0 0)),(5,(ii (Gq e.t e.x e.y e.z g.a g.b g.c g.d)))],Xs [⟨[(.int .u8 h.a),(ii h.b),(ii h.c),(ii h.d)],42,none⟩] 0,1,[],true⟩,[],.leaf⟩ (sl hq 43 [] ⟨[0],[],[some [4,5]],[]⟩ b7 (bl 2 0) (ww o0 (ww cO (tt k1 f)))) rfl (by kernel_rfl)))))))))
theorem w5t {q:Nat} (hq:Zv prog (Tpl q)) (l0:List B5) (x1:Int) (n:Nat) (vs:List B3) (h:Yw (w1r l0 x1) n (QC q l0 x1)=.ret vs):Kj prog (Zy prog 55) (Zg prog 55 [(.dat l0.length (Zz l0)),(.int .i64 x1)] true []) vs:=by have:=Ze (w9r l0 x1) n _ (w1s hq l0 x1);rwa [h] at this
theorem v5p (q:Nat) (l:List B5) (i:Int) (hq:i<(q:Int)+1) (h:Jr l i=true): ∃N,Yw (w1r l i) N (QC q l i)=.ret [IU (Wo l i),.int .i64 (Ig l i)]:=⟨0,by
 have h':=h;unfold Jr at h;simp only [Ad,Ak] at h;obtain ⟨h1,h2,h3,h4⟩:=h;obtain ⟨j,rfl⟩: ∃j:Nat,i=(j:Int):=⟨i.toNat,by omega⟩
 rw [Zj] at h3;have hb:=EC h3 (An j);show QC q l (j:Int)=_;unfold QC Wo Ig;rw [Aq,Zp (Ym h1),w5u h3 (An j)];simp only [Zj,Yg];by_cases g:(rd l j).a <0
 .rw [Aa g];rfl
 .obtain ⟨p,hp⟩: ∃p:Nat,(rd l j).a =(p:Int):=⟨(rd l j).a.toNat,by omega⟩
  have ho:PQ q l (p:Int)=true:=by unfold PQ Jr;rw [Zj,u2n h3 (show p<=j by omega),h4,Aa (show (p:Int)<(q:Int) by omega),Aa (show (0:Int)<=(p:Int)/\(p:Int)<(l.length:Int) by omega),Aa h2];rfl
  rw [Ai g,Ab,Ab,hp,Zp ho];show (bif (Ds l (p:Int)).2 != 0 then _ else _)=_;cases g2:(Ds l (p:Int)).2 != 0 with
  | true=>rfl
  | false=>
   have ht:=x7d h3 h4 (p+1) p (BJ p) (by omega);have hw:PT (rd l j).t (rd l j).x (rd l j).y (rd l j).z (Ds l (p:Int)).1.a (Ds l (p:Int)).1.b (Ds l (p:Int)).1.c (Ds l (p:Int)).1.d =true:=by unfold PT;rw [Aa (WM h4 j)];exact Aa ht
   rw [Ab,Ab,Zp hw];rfl⟩
theorem u8z : ∀q:Nat,Zv prog (Tpl q)
 | 0=>CS w4x (by kernel_rfl) fun args v h=>by
  unfold OO at h;split at h
  .rename_i a0 i;split at h
   .rename_i L g n e0;simp only [Ae,Ac,Ad] at h;obtain ⟨rfl,ho0,hw⟩:=h;unfold PQ Jr at hw;simp only [Ad,Ak] at hw;omega
   .cases h
  .cases h
 | q+1=>CS w4x (by kernel_rfl) fun args v h=>by
  unfold OO at h;split at h
  .rename_i a0 i;split at h
   .rename_i L g n e0;simp only [Ae,Ac,Ad] at h;obtain ⟨rfl,ho0,hw⟩:=h;unfold PQ at hw;rw [Ad,Ak] at hw;obtain ⟨N,hN⟩:=v5p q L i (by omega) hw.2;exact ⟨_,_,(.cons (Xh e0 ho0) (.cons (.refl _) .nil)),rfl,w5t (u8z q) L i N _ hN,5,rfl⟩
   .cases h
  .cases h
def OP :List B3->Option (B3×Bool)
 | [a0,.int .i64 i]=>match Cc B5 a0 with
  | some (L,g,n)=>some (.tup [IU (Wo L i),.int .i64 (Ig L i)],CT B5 n g&&Jr L i)
  | _=>none
 | _=>none
theorem j4p {S:B6} (hS:Zv prog S):Zv prog (S.with NK OP):=CS hS (by kernel_rfl) fun args v h=>by
 unfold OP at h;split at h
 .rename_i a0 i;split at h
  .rename_i L g n e0;simp only [Ae,Ac,Ad] at h;obtain ⟨rfl,ho0,hw⟩:=h;obtain ⟨N,hN⟩:=v5p i.toNat L i (by unfold Jr at hw;simp only [Ad,Ak] at hw;omega) hw;exact ⟨_,_,(.cons (Xh e0 ho0) (.cons (.refl _) .nil)),rfl,w5t (u8z i.toNat) L i N _ hN,5,rfl⟩
  .cases h
 .cases h
abbrev PD (l:List B5) (i:Int):R4:=Wo l i
abbrev v5q (l:List B5) (i:Int):Int:=Ig l i
def SzSc :B6:=(Ov.with NK OP)
theorem IX :Zv prog SzSc:=(j4p w4x)
inductive Hp where
def NN (l0:List B5) (x1:Int):Hp->CG
 :=nofun
def w1t (l0:List B5) (x1:Int):Hp->Xj Hp
 :=nofun
def QB (l0:List B5) (x1:Int):Xj Hp:=(bif (Yk (B4 l0)) then (bif ((Un (B4 l0)) != 0) then (.ret [(.str []),(.int .i64 (Un (B4 l0)))]) else (bif (decide (x1<0)) then (.ret [(.str []),(.int .i64 2)]) else (bif (decide (x1>=(l0.length:Int))) then (.ret [(.str []),(.int .i64 2)]) else (bif (Vx (B4 l0) x1) then (.ret [(.str (Wv (B4 l0) x1)),(.int .i64 0)]) else .stuck)))) else .stuck)
theorem w9s (l0:List B5) (x1:Int): ∀s,Wp prog (Zy prog 17) (NN l0 x1) (NN l0 x1 s) (w1t l0 x1 s)
 :=nofun
theorem w1u (l0:List B5) (x1:Int):Wp prog (Zy prog 17) (NN l0 x1) (Zg prog 17 [(.dat l0.length (Zz l0)),(.int .i64 x1)] true []) (QB l0 x1):=(lo fun cO=>let a:=pp (pp (xr l0) (xw cO)) nn;(lb (fun k0=>(lr 16 17 [1,0,1,1,0,0] 1 17 [(4,(.str [])),(5,(ii (Un (B4 l0))))] (sl IX 48 [] (b8 [4,5]) b7 (bl 2 3) (tt k0 (tt k0 a))))) (fun k0=>(lb (fun k1=>(lr 16 17 [1,0,1,1,0,0] 1 17 [(4,(.str [])),(5,(ii 2))] (sl IX 61 [] (b8 [4,5]) b7 (bl 7 126) (tt k1 (tt k0 a))))) (fun k1=>let b:=tt k1 (tt k0 a);(lb (fun k2=>(lr 16 17 [1,0,1,1,0,0] 1 17 [(4,(.str [])),(5,(ii 2))] (sl IX 61 [] (b8 [4,5]) b7 (bl 7 96) (tt k2 b)))) (fun k2=>(lo fun o0=>(lr 16 3 [1,1,1,1,1,1,0] 1 17 [(4,(.str (Wv (B4 l0) x1))),(5,(ii 0))] (sl IX 65 [] (b8 [4,5]) b7 (bl 7 0) (pp (pp (xr l0) (xw o0)) (tt k2 b))))))))))))
theorem u2l (l0:List B5) (x1:Int) (n:Nat) (vs:List B3) (h:Yw (w1t l0 x1) n (QB l0 x1)=.ret vs):Kj prog (Zy prog 17) (Zg prog 17 [(.dat l0.length (Zz l0)),(.int .i64 x1)] true []) vs:=by have:=Ze (w9s l0 x1) n _ (w1u l0 x1);rwa [h] at this
inductive Hn where
def NJ (l0:List B5) (x1:Int):Hn->CG
 :=nofun
def w1p (l0:List B5) (x1:Int):Hn->Xj Hn
 :=nofun
def QD (l0:List B5) (x1:Int):Xj Hn:=(bif (Yk (B4 l0)) then (bif ((Un (B4 l0)) != 0) then (.ret [(.agg [(.int .u8 0),(.int .i64 0),(.int .i64 0),(.int .i64 0)]),(.int .i64 (Un (B4 l0)))]) else (bif (decide (x1<0)) then (.ret [(.agg [(.int .u8 0),(.int .i64 0),(.int .i64 0),(.int .i64 0)]),(.int .i64 2)]) else (bif (decide (x1>=(l0.length:Int))) then (.ret [(.agg [(.int .u8 0),(.int .i64 0),(.int .i64 0),(.int .i64 0)]),(.int .i64 2)]) else (bif (Jr (B4 l0) x1) then (.ret [(.agg [(.int .u8 (PD (B4 l0) x1).a),(.int .i64 (PD (B4 l0) x1).b),(.int .i64 (PD (B4 l0) x1).c),(.int .i64 (PD (B4 l0) x1).d)]),(.int .i64 (v5q (B4 l0) x1))]) else .stuck)))) else .stuck)
theorem w9q (l0:List B5) (x1:Int): ∀s,Wp prog (Zy prog 19) (NJ l0 x1) (NJ l0 x1 s) (w1p l0 x1 s)
 :=nofun
theorem w1q (l0:List B5) (x1:Int):Wp prog (Zy prog 19) (NJ l0 x1) (Zg prog 19 [(.dat l0.length (Zz l0)),(.int .i64 x1)] true []) (QD l0 x1):=(lo fun cO=>let e:=pp (pp (xr l0) (xw cO)) nn;let f:=Zf prog 19 [1,0,1,1,0,0] 1;let h:=Zy prog 19;(lb (fun k0=>(Ys ⟨⟨19,0,true⟩,none,f,none,h,⟨Ye [(4,(.ptr 0 0)),(5,(ii (Un (B4 l0))))],Xs [⟨[(.int .u8 0),(ii 0),(ii 0),(ii 0)],42,none⟩] 0,1,[],true⟩,[],.leaf⟩ (sl IX 49 [] ⟨[0],[],[some [4,5]],[]⟩ b7 (bl 2 3) (tt k0 (tt k0 e))) rfl (by kernel_rfl))) (fun k0=>(lb (fun k1=>(Ys ⟨⟨19,0,true⟩,none,f,none,h,⟨Ye [(4,(.ptr 0 0)),(5,(ii 2))],Xs [⟨[(.int .u8 0),(ii 0),(ii 0),(ii 0)],42,none⟩] 0,1,[],true⟩,[],.leaf⟩ (sl IX 62 [] ⟨[0],[],[some [4,5]],[]⟩ b7 (bl 7 126) (tt k1 (tt k0 e))) rfl (by kernel_rfl))) (fun k1=>let i:=tt k1 (tt k0 e);(lb (fun k2=>(Ys ⟨⟨19,0,true⟩,none,f,none,h,⟨Ye [(4,(.ptr 0 0)),(5,(ii 2))],Xs [⟨[(.int .u8 0),(ii 0),(ii 0),(ii 0)],42,none⟩] 0,1,[],true⟩,[],.leaf⟩ (sl IX 62 [] ⟨[0],[],[some [4,5]],[]⟩ b7 (bl 7 96) (tt k2 i)) rfl (by kernel_rfl))) (fun k2=>(lo fun o0=>let g:=PD (B4 l0) x1;(Ys ⟨⟨19,0,true⟩,none,(Zf prog 3 [1,1,1,1,1,1,0] 1),none,h,⟨Ye [(4,(.ptr 0 0)),(5,(ii (v5q (B4 l0) x1)))],Xs [⟨[(.int .u8 g.a),(ii g.b),(ii g.c),(ii g.d)],42,none⟩] 0,1,[],true⟩,[],.leaf⟩ (sl IX 67 [] ⟨[0],[],[some [4,5]],[]⟩ b7 (bl 7 0) (pp (pp (xr l0) (xw o0)) (tt k2 i))) rfl (by kernel_rfl))))))))))
theorem u2j (l0:List B5) (x1:Int) (n:Nat) (vs:List B3) (h:Yw (w1p l0 x1) n (QD l0 x1)=.ret vs):Kj prog (Zy prog 19) (Zg prog 19 [(.dat l0.length (Zz l0)),(.int .i64 x1)] true []) vs:=by have:=Ze (w9q l0 x1) n _ (w1q l0 x1);rwa [h] at this
theorem L8 {l:List B5} (h:(Un l != 0)=false):l.length<=200/\ES l=0/\Gf l l.length:=by
 have h:Un l=0:=by simpa using h
 unfold Un at h;by_cases g:200<l.length
 .rw [Aa g] at h;cases h
 .rw [Ai g,Ab] at h;cases g2:ES l != 0 with
  | true=>rw [g2,Af] at h;rw [h] at g2;cases g2
  | false=>
   rw [g2,Ab] at h;refine ⟨by omega,by simpa using g2,fun j hj=> ?_⟩;cases g3:(List.range l.length).any (DY l) with
   | true=>rw [g3] at h;cases h
   | false=>simpa using List.any_eq_false.1 g3 j (A2.2 hj)
theorem RM {l:List B5} (h:(Un l != 0)=false) {i:Nat} (hi:i<l.length):Fn l i:=by obtain ⟨h1,h2,h3⟩:=L8 h;have:=h3 i hi;unfold DY at this;rw [AT] at this;exact V7 (fun j hj=>h3 j (by omega)) this.1
theorem j0b {l:List B5} (ho:Yk l=true) (h:(Un l != 0)=false) {i:Int} (h0: ¬i<0) (h1: ¬i>=(l.length:Int)):Vx l i=true:=by
 obtain ⟨j,rfl⟩: ∃j:Nat,i=(j:Int):=⟨i.toNat,by omega⟩
 have:=(L8 h).1;exact QE ho (by omega) (by omega) (RM h (by omega))
def HW (l:List B5) (i:Int):Int:=bif Un l != 0 then Un l else bif decide (i<0) then 2 else bif decide (i>=(l.length:Int)) then 2 else 0
def HI (l:List B5) (i:Int):Int:=HW l i
def G3 (l:List B5) (i:Int):List UInt8:=bif HW l i != 0 then [] else Wv l i
def Tw (l:List B5) (i:Int):Bool:=Yk l
theorem j2f (l:List B5) (i:Int) (h:Tw l i=true): ∃N,Yw (w1t l i) N (QB l i)=.ret [.str (G3 l i),.int .i64 (HI l i)]:=⟨0,by
 show QB l i=_;unfold QB G3 HI HW;simp only [Yg];rw [Zp (show Yk l=true from h)];cases g:Un l != 0 with
 | true=>(simp only [Af,g];try rfl)
 | false=>
  simp only [Ab];by_cases g1:i<0
  .rw [Aa g1];rfl
  .rw [Ai g1];by_cases g2:i>=(l.length:Int)
   .rw [Aa g2];rfl
   .rw [Ai g2,Ab,Ab,Ab,Ab,Zp (j0b h g g1 g2)];rfl⟩
def OQ :List B3->Option (B3×Bool)
 | [a0,.int .i64 i]=>match Cc B5 a0 with
  | some (L,g,n)=>some (.tup [.str (G3 L i),.int .i64 (HI L i)],CT B5 n g&&Tw L i)
  | _=>none
 | _=>none
theorem j4q {S:B6} (hS:Zv prog S):Zv prog (S.with Su OQ):=CS hS (by kernel_rfl) fun args v h=>by
 unfold OQ at h;split at h
 .rename_i a0 i;split at h
  .rename_i L g n e0;simp only [Ae,Ac,Ad] at h;obtain ⟨rfl,ho0,hw⟩:=h;obtain ⟨N,hN⟩:=j2f L i hw;exact ⟨_,_,(.cons (Xh e0 ho0) (.cons (.refl _) .nil)),rfl,u2l L i N _ hN,5,rfl⟩
  .cases h
 .cases h
def Ih (l:List B5) (i:Int):Int:=bif HW l i != 0 then HW l i else v5q l i
def ET (l:List B5) (i:Int):R4:=bif HW l i != 0 then z4 else PD l i
def QQ (l:List B5) (i:Int):Bool:=Yk l&&l.all fun x=>decide (0<=x.t)
theorem j0c {l:List B5} (ho:(l.all fun x=>decide (0<=x.t))=true) (h:(Un l != 0)=false) {i:Int} (h0: ¬i<0) (h1: ¬i>=(l.length:Int)):Jr l i=true:=by
 obtain ⟨j,rfl⟩: ∃j:Nat,i=(j:Int):=⟨i.toNat,by omega⟩
 have hl:=(L8 h).1;have hk:=(RM h (show j<l.length by omega)).1;unfold Jr;rw [Zj,hk,ho,Aa (show (0:Int)<=(j:Int)/\(j:Int)<(l.length:Int) by omega),Aa (show l.length<=1000 by omega)];rfl
theorem j2e (l:List B5) (i:Int) (h:QQ l i=true): ∃N,Yw (w1p l i) N (QD l i)=.ret [IU (ET l i),.int .i64 (Ih l i)]:=⟨0,by
 unfold QQ at h;rw [Ad] at h;show QD l i=_;unfold QD ET Ih HW;simp only [Yg];rw [Zp (show Yk l=true from h.1)];cases g:Un l != 0 with
 | true=>(simp only [Af,g];try rfl)
 | false=>
  simp only [Ab];by_cases g1:i<0
  .rw [Aa g1];rfl
  .rw [Ai g1];by_cases g2:i>=(l.length:Int)
   .rw [Aa g2];rfl
   .rw [Ai g2,Ab,Ab,Ab,Ab,Zp (j0c h.2 g g1 g2)];rfl⟩
def ON :List B3->Option (B3×Bool)
 | [a0,.int .i64 i]=>match Cc B5 a0 with
  | some (L,g,n)=>some (.tup [IU (ET L i),.int .i64 (Ih L i)],CT B5 n g&&QQ L i)
  | _=>none
 | _=>none
theorem j4o {S:B6} (hS:Zv prog S):Zv prog (S.with Ss ON):=CS hS (by kernel_rfl) fun args v h=>by
 unfold ON at h;split at h
 .rename_i a0 i;split at h
  .rename_i L g n e0;simp only [Ae,Ac,Ad] at h;obtain ⟨rfl,ho0,hw⟩:=h;obtain ⟨N,hN⟩:=j2e L i hw;exact ⟨_,_,(.cons (Xh e0 ho0) (.cons (.refl _) .nil)),rfl,u2j L i N _ hN,5,rfl⟩
  .cases h
 .cases h
def TV (l:List B5) (p:List UInt8):Nat->Nat->Int×Int
 | 0,_=>(0,6)
 | k+1,i=>bif Wv l (i:Int) == p then ((i:Int),0) else TV l p k (i+1)
def TU (l:List B5) (p:List UInt8):Int×Int:=bif Un l != 0 then (0,Un l) else bif C6 p != 0 then (0,C6 p) else TV l p l.length 0
def Nq (l:List B5) (p:List UInt8):Int:=(TU l p).1
def Np (l:List B5) (p:List UInt8):Int:=(TU l p).2
theorem Ko (sep x:List UInt8) (r:List (List UInt8)):joinTail sep (x::r)=sep++x++joinTail sep r:=by simp [joinTail]
def GJ (L:List (List UInt8)):List UInt8:=N9 L [47]
def SX0 :B6:=((Ow.with TK OX).with SP OF).with Tg Oa
def SX :B6:=fun g=>bif Nat.beq g Te then some (.eff O7) else SX0 g
theorem Zb :Zv prog SX:=v2u (PO (PO (PO Q9 (by kernel_rfl) Nh) (by kernel_rfl) MO) (by kernel_rfl) Ol) (by kernel_rfl) j5x
section
attribute [local irreducible] Un Yk
inductive FH where
 | h0 (v17:Int) (aC:List By)
 | h1 (v17:Int) (v45:List R6) (v46:Int) (v47:Int) (aC:List By)
 | h2 (bP:Int) (bO:List R6) (bQ:Int) (bR:Int) (aC:List By) (aI:Int) (bL:Int) (bA:Int) (aM:Int) (aT:Int) (aY:Int)
 | h3 (bP:Int) (bO:List R6) (bQ:Int) (bR:Int) (aC:List By) (aI:Int) (bL:Int) (bA:Int) (aM:Int) (aT:Int) (aY:Int)
 | h4 (bP:Int) (bO:List R6) (bQ:Int) (bR:Int) (aC:List By) (aI:Int) (bL:Int) (bA:Int) (aM:Int) (aT:Int) (aY:Int)
 | h5 (bP:Int) (bO:List R6) (bQ:Int) (bR:Int) (aC:List By) (aI:Int) (bL:Int) (bA:Int) (aM:Int) (aT:Int) (aY:Int)
 | h6 (bP:Int) (bO:List R6) (bQ:Int) (bR:Int) (aC:List By) (aI:Int) (bL:Int) (bA:Int) (aM:Int) (aT:Int) (aY:Int)
 | h7 (bP:Int) (bO:List R6) (bQ:Int) (bR:Int) (aC:List By) (aI:Int) (bL:Int) (bA:Int) (aM:Int) (aT:Int) (aY:Int)
 | h8 (bP:Int) (bO:List R6) (bQ:Int) (bR:Int) (aC:List By) (aI:Int) (bL:Int) (bA:Int) (aM:Int) (aT:Int) (aY:Int)
def Lr (l0:List B5) (bP:Int) (bO:List R6) (bQ:Int) (bR:Int):CZ:=⟨⟨76,0,true⟩,(CV prog 10 [1,1,1,0,1,0,0,1,1,0,0,1,1,1,0,0,1,1,0,0,1] 19),(Zf prog 10 [1,1,1,0,1,0,0,1,1,0,0,1,1,1,0,0,1,1,0,0,1] 1),none,(Zy prog 10),Ye [(0,(.dat l0.length (Zz l0))),(5,(.ptr 0 0)),(15,(.dat l0.length (Zz l0))),(16,(ii (l0.length:Int))),(17,(ii bP)),(45,(.dat bO.length (Zz bO))),(46,(ii bQ)),(47,(ii bR)),(69,(.sl 2 0 6 (.un 1)))]⟩
def Gp (aC:List By):B8:=⟨[(.obj .bld),(.sla 1 1 0 aC.length (.un 1))],75,none⟩
abbrev Uo (l0:List B5) (v17:Int):=(Xk (wr (rd l0 (tn v17)).t))
abbrev Ji (l0:List B5) (v17:Int):=(Xk (rd l0 (tn v17)).x)
def Ls :=(Zf prog 35 [1,0,1,0,0] 0)
abbrev Qs (l0:List B5) (v17:Int):=(Xk (rd l0 (tn v17)).y)
def Lt (aI:Int) (bL:Int) (bA:Int) (aM:Int) (aT:Int) (aY:Int):B8:=⟨[(ii aI),(ii bL),(ii bA),(ii aM),(ii aT),(ii aY)],3,none⟩
abbrev Gz (l0:List B5) (v17:Int):=(Xk (rd l0 (tn v17)).z)
abbrev x0v (aC:List By) (aI:Int):=((aC++[(yB 32)])++(CH (Xk aI)))
abbrev x0u (aC:List By) (bL:Int):=((aC++[(yB 32)])++(CH (Xk bL)))
abbrev Z9 (aC:List By) (bA:Int):=((aC++[(yB 32)])++(CH (Xk bA)))
abbrev Zl (aC:List By) (aM:Int):=((aC++[(yB 32)])++(CH (Xk aM)))
abbrev y1o (aC:List By) (aT:Int):=((aC++[(yB 32)])++(CH (Xk aT)))
abbrev y1n (aC:List By) (aY:Int):=((aC++[(yB 32)])++(CH (Xk aY)))
def MK (l0:List B5):FH->CG
 | .h0 v17 aC=>⟨⟨76,0,true⟩,none,(Zf prog 10 [1,1,1,0,1,0,0] 0),none,(Zy prog 10),⟨Ye [(0,(.dat l0.length (Zz l0))),(5,(.ptr 0 0)),(15,(.dat l0.length (Zz l0))),(16,(ii (l0.length:Int))),(17,(ii v17))],Xs [(Gp aC),⟨rows aC.length (Zz aC),5,some ⟨1,aC.length,(Zz aC)⟩⟩] 0,2,[],true⟩,[],.leaf⟩
 | .h1 v17 v45 v46 v47 aC=>⟨⟨76,0,true⟩,none,(Zf prog 10 [1,1,1,0,1,0,0,1,1,0,0,1,1,1,0,0] 0),none,(Zy prog 10),⟨Ye [(0,(.dat l0.length (Zz l0))),(5,(.ptr 0 0)),(15,(.dat l0.length (Zz l0))),(16,(ii (l0.length:Int))),(17,(ii v17)),(45,(.dat v45.length (Zz v45))),(46,(ii v46)),(47,(ii v47))],Xs [(Gp aC),⟨rows aC.length (Zz aC),5,some ⟨1,aC.length,(Zz aC)⟩⟩] 0,2,[],true⟩,[],.leaf⟩
 | .h2 bP bO bQ bR aC aI bL bA aM aT aY=>⟨⟨26,0,true⟩,none,Ls,none,[],⟨Ye [(0,(.ptr 0 0)),(11,(.sl 2 0 6 (.un 1))),(12,(ii 6)),(13,(ii 0))],Xs [(Gp aC),⟨rows aC.length (Zz aC),5,some ⟨1,aC.length,(Zz aC)⟩⟩,(Lt aI bL bA aM aT aY)] 0,3,[],true⟩,[(Lr l0 bP bO bQ bR)],.leaf⟩
 | .h3 bP bO bQ bR aC aI bL bA aM aT aY=>⟨⟨26,0,true⟩,none,Ls,none,[],⟨Ye [(0,(.ptr 0 0)),(11,(.sl 2 0 6 (.un 1))),(12,(ii 6)),(13,(ii 1))],Xs [(Gp aC),⟨rows aC.length (Zz aC),5,some ⟨1,aC.length,(Zz aC)⟩⟩,(Lt aI bL bA aM aT aY)] 0,3,[],true⟩,[(Lr l0 bP bO bQ bR)],.leaf⟩
 | .h4 bP bO bQ bR aC aI bL bA aM aT aY=>⟨⟨26,0,true⟩,none,Ls,none,[],⟨Ye [(0,(.ptr 0 0)),(11,(.sl 2 0 6 (.un 1))),(12,(ii 6)),(13,(ii 2))],Xs [(Gp aC),⟨rows aC.length (Zz aC),5,some ⟨1,aC.length,(Zz aC)⟩⟩,(Lt aI bL bA aM aT aY)] 0,3,[],true⟩,[(Lr l0 bP bO bQ bR)],.leaf⟩
 | .h5 bP bO bQ bR aC aI bL bA aM aT aY=>⟨⟨26,0,true⟩,none,Ls,none,[],⟨Ye [(0,(.ptr 0 0)),(11,(.sl 2 0 6 (.un 1))),(12,(ii 6)),(13,(ii 3))],Xs [(Gp aC),⟨rows aC.length (Zz aC),5,some ⟨1,aC.length,(Zz aC)⟩⟩,(Lt aI bL bA aM aT aY)] 0,3,[],true⟩,[(Lr l0 bP bO bQ bR)],.leaf⟩
 | .h6 bP bO bQ bR aC aI bL bA aM aT aY=>⟨⟨26,0,true⟩,none,Ls,none,[],⟨Ye [(0,(.ptr 0 0)),(11,(.sl 2 0 6 (.un 1))),(12,(ii 6)),(13,(ii 4))],Xs [(Gp aC),⟨rows aC.length (Zz aC),5,some ⟨1,aC.length,(Zz aC)⟩⟩,(Lt aI bL bA aM aT aY)] 0,3,[],true⟩,[(Lr l0 bP bO bQ bR)],.leaf⟩
 | .h7 bP bO bQ bR aC aI bL bA aM aT aY=>⟨⟨26,0,true⟩,none,Ls,none,[],⟨Ye [(0,(.ptr 0 0)),(11,(.sl 2 0 6 (.un 1))),(12,(ii 6)),(13,(ii 5))],Xs [(Gp aC),⟨rows aC.length (Zz aC),5,some ⟨1,aC.length,(Zz aC)⟩⟩,(Lt aI bL bA aM aT aY)] 0,3,[],true⟩,[(Lr l0 bP bO bQ bR)],.leaf⟩
 | .h8 bP bO bQ bR aC aI bL bA aM aT aY=>⟨⟨26,0,true⟩,none,Ls,none,[],⟨Ye [(0,(.ptr 0 0)),(11,(.sl 2 0 6 (.un 1))),(12,(ii 6)),(13,(ii 6))],Xs [(Gp aC),⟨rows aC.length (Zz aC),5,some ⟨1,aC.length,(Zz aC)⟩⟩,(Lt aI bL bA aM aT aY)] 0,3,[],true⟩,[(Lr l0 bP bO bQ bR)],.leaf⟩
def Iy :List (Option (List Nat)):=[some [0,5,15,16,17]]
def JA :List (Option (List Nat)):=[]
def Ix :List (Option (List Nat)):=[some [0,5,15,16,17,45,46,47]]
def Iz :List (Option (List Nat)):=[]
def SE :List (Option (List Nat)):=[some [0,11,12,13],some [0,5,15,16,17,45,46,47,69]]
def SM :List (Option (List Nat)):=[]
def SD :List (Option (List Nat)):=[some [0,11,12,13],some [0,5,15,16,17,45,46,47,69]]
def SL :List (Option (List Nat)):=[]
def SC :List (Option (List Nat)):=[some [0,11,12,13],some [0,5,15,16,17,45,46,47,69]]
def SK :List (Option (List Nat)):=[]
def SB :List (Option (List Nat)):=[some [0,11,12,13],some [0,5,15,16,17,45,46,47,69]]
def SJ :List (Option (List Nat)):=[]
def SA :List (Option (List Nat)):=[some [0,11,12,13],some [0,5,15,16,17,45,46,47,69]]
def SI :List (Option (List Nat)):=[]
def Rz :List (Option (List Nat)):=[some [0,11,12,13],some [0,5,15,16,17,45,46,47,69]]
def SH :List (Option (List Nat)):=[]
def Ry :List (Option (List Nat)):=[some [0,11,12,13],some [0,5,15,16,17,45,46,47,69]]
def SG :List (Option (List Nat)):=[]
def Wm (l0:List B5):FH->Xj FH
 | .h0 v17 aC=>(bif (decide (v17<(l0.length:Int))) then (bif ((decide (0<=v17/\v17<(l0.length:Int)))&&true) then (bif (Vx (B4 l0) v17) then (bif (Py ([110,111,100,101,32]:List UInt8) (Wv (B4 l0) v17)) then (bif (decide ((aC.length+(([110,111,100,101,32]:List UInt8)++(Wv (B4 l0) v17)).length +1)*(1+1)<=Ve)) then (bif (Nat.beq 1 1&&(Nat.beq 1 1&&decide (0+aC.length<=aC.length))) then (bif (Nat.beq 1 1&&((decide (0+(aC.length+(([110,111,100,101,32]:List UInt8)++(Wv (B4 l0) v17)).length)=(aC.length+(([110,111,100,101,32]:List UInt8)++(Wv (B4 l0) v17)).length)))&&decide (((aC.length+(([110,111,100,101,32]:List UInt8)++(Wv (B4 l0) v17)).length)+1+1)*(1+1)<=Ve))) then (bif (Yd (wrap .i64 (rd l0 v17.toNat).t)) then (bif (decide ((((aC.length+(([110,111,100,101,32]:List UInt8)++(Wv (B4 l0) v17)).length)+1)+(Xk (wrap .i64 (rd l0 v17.toNat).t)).length +1)*(1+1)<=Ve)) then (bif (Nat.beq 1 1&&(Nat.beq 1 1&&decide (0+((aC.length+(([110,111,100,101,32]:List UInt8)++(Wv (B4 l0) v17)).length)+1)<=((aC.length+(([110,111,100,101,32]:List UInt8)++(Wv (B4 l0) v17)).length)+1)))) then (bif (Nat.beq 1 1&&((decide (0+(((aC.length+(([110,111,100,101,32]:List UInt8)++(Wv (B4 l0) v17)).length)+1)+(Xk (wrap .i64 (rd l0 v17.toNat).t)).length)=(((aC.length+(([110,111,100,101,32]:List UInt8)++(Wv (B4 l0) v17)).length)+1)+(Xk (wrap .i64 (rd l0 v17.toNat).t)).length)))&&decide (((((aC.length+(([110,111,100,101,32]:List UInt8)++(Wv (B4 l0) v17)).length)+1)+(Xk (wrap .i64 (rd l0 v17.toNat).t)).length)+1+1)*(1+1)<=Ve))) then (bif (Yd (rd l0 v17.toNat).x) then (bif (decide ((((((aC.length+(([110,111,100,101,32]:List UInt8)++(Wv (B4 l0) v17)).length)+1)+(Xk (wrap .i64 (rd l0 v17.toNat).t)).length)+1)+(Xk (rd l0 v17.toNat).x).length +1)*(1+1)<=Ve)) then (bif (Nat.beq 1 1&&(Nat.beq 1 1&&decide (0+((((aC.length+(([110,111,100,101,32]:List UInt8)++(Wv (B4 l0) v17)).length)+1)+(Xk (wrap .i64 (rd l0 v17.toNat).t)).length)+1)<=((((aC.length+(([110,111,100,101,32]:List UInt8)++(Wv (B4 l0) v17)).length)+1)+(Xk (wrap .i64 (rd l0 v17.toNat).t)).length)+1)))) then (bif (Nat.beq 1 1&&((decide (0+(((((aC.length+(([110,111,100,101,32]:List UInt8)++(Wv (B4 l0) v17)).length)+1)+(Xk (wrap .i64 (rd l0 v17.toNat).t)).length)+1)+(Xk (rd l0 v17.toNat).x).length)=(((((aC.length+(([110,111,100,101,32]:List UInt8)++(Wv (B4 l0) v17)).length)+1)+(Xk (wrap .i64 (rd l0 v17.toNat).t)).length)+1)+(Xk (rd l0 v17.toNat).x).length)))&&decide (((((((aC.length+(([110,111,100,101,32]:List UInt8)++(Wv (B4 l0) v17)).length)+1)+(Xk (wrap .i64 (rd l0 v17.toNat).t)).length)+1)+(Xk (rd l0 v17.toNat).x).length)+1+1)*(1+1)<=Ve))) then (bif (Yd (rd l0 v17.toNat).y) then (bif (decide ((((((((aC.length+(([110,111,100,101,32]:List UInt8)++(Wv (B4 l0) v17)).length)+1)+(Xk (wrap .i64 (rd l0 v17.toNat).t)).length)+1)+(Xk (rd l0 v17.toNat).x).length)+1)+(Xk (rd l0 v17.toNat).y).length +1)*(1+1)<=Ve)) then (bif (Nat.beq 1 1&&(Nat.beq 1 1&&decide (0+((((((aC.length+(([110,111,100,101,32]:List UInt8)++(Wv (B4 l0) v17)).length)+1)+(Xk (wrap .i64 (rd l0 v17.toNat).t)).length)+1)+(Xk (rd l0 v17.toNat).x).length)+1)<=((((((aC.length+(([110,111,100,101,32]:List UInt8)++(Wv (B4 l0) v17)).length)+1)+(Xk (wrap .i64 (rd l0 v17.toNat).t)).length)+1)+(Xk (rd l0 v17.toNat).x).length)+1)))) then (bif (Nat.beq 1 1&&((decide (0+(((((((aC.length+(([110,111,100,101,32]:List UInt8)++(Wv (B4 l0) v17)).length)+1)+(Xk (wrap .i64 (rd l0 v17.toNat).t)).length)+1)+(Xk (rd l0 v17.toNat).x).length)+1)+(Xk (rd l0 v17.toNat).y).length)=(((((((aC.length+(([110,111,100,101,32]:List UInt8)++(Wv (B4 l0) v17)).length)+1)+(Xk (wrap .i64 (rd l0 v17.toNat).t)).length)+1)+(Xk (rd l0 v17.toNat).x).length)+1)+(Xk (rd l0 v17.toNat).y).length)))&&decide (((((((((aC.length+(([110,111,100,101,32]:List UInt8)++(Wv (B4 l0) v17)).length)+1)+(Xk (wrap .i64 (rd l0 v17.toNat).t)).length)+1)+(Xk (rd l0 v17.toNat).x).length)+1)+(Xk (rd l0 v17.toNat).y).length)+1+1)*(1+1)<=Ve))) then (bif (Yd (rd l0 v17.toNat).z) then (bif (decide ((((((((((aC.length+(([110,111,100,101,32]:List UInt8)++(Wv (B4 l0) v17)).length)+1)+(Xk (wrap .i64 (rd l0 v17.toNat).t)).length)+1)+(Xk (rd l0 v17.toNat).x).length)+1)+(Xk (rd l0 v17.toNat).y).length)+1)+(Xk (rd l0 v17.toNat).z).length +1)*(1+1)<=Ve)) then (bif (Nat.beq 1 1&&(Nat.beq 1 1&&decide (0+((((((((aC.length+(([110,111,100,101,32]:List UInt8)++(Wv (B4 l0) v17)).length)+1)+(Xk (wrap .i64 (rd l0 v17.toNat).t)).length)+1)+(Xk (rd l0 v17.toNat).x).length)+1)+(Xk (rd l0 v17.toNat).y).length)+1)<=((((((((aC.length+(([110,111,100,101,32]:List UInt8)++(Wv (B4 l0) v17)).length)+1)+(Xk (wrap .i64 (rd l0 v17.toNat).t)).length)+1)+(Xk (rd l0 v17.toNat).x).length)+1)+(Xk (rd l0 v17.toNat).y).length)+1)))) then (bif (Nat.beq 1 1&&((decide (0+(((((((((aC.length+(([110,111,100,101,32]:List UInt8)++(Wv (B4 l0) v17)).length)+1)+(Xk (wrap .i64 (rd l0 v17.toNat).t)).length)+1)+(Xk (rd l0 v17.toNat).x).length)+1)+(Xk (rd l0 v17.toNat).y).length)+1)+(Xk (rd l0 v17.toNat).z).length)=(((((((((aC.length+(([110,111,100,101,32]:List UInt8)++(Wv (B4 l0) v17)).length)+1)+(Xk (wrap .i64 (rd l0 v17.toNat).t)).length)+1)+(Xk (rd l0 v17.toNat).x).length)+1)+(Xk (rd l0 v17.toNat).y).length)+1)+(Xk (rd l0 v17.toNat).z).length)))&&decide (((((((((((aC.length+(([110,111,100,101,32]:List UInt8)++(Wv (B4 l0) v17)).length)+1)+(Xk (wrap .i64 (rd l0 v17.toNat).t)).length)+1)+(Xk (rd l0 v17.toNat).x).length)+1)+(Xk (rd l0 v17.toNat).y).length)+1)+(Xk (rd l0 v17.toNat).z).length)+1+1)*(1+1)<=Ve))) then (.to (.h1 v17 (rd l0 v17.toNat).s (((rd l0 v17.toNat).s.length :Nat):Int) 0 ((((((((((aC++(CH (([110,111,100,101,32]:List UInt8)++(Wv (B4 l0) v17))))++[(yB 32)])++(CH (Xk (wrap .i64 (rd l0 v17.toNat).t))))++[(yB 32)])++(CH (Xk (rd l0 v17.toNat).x)))++[(yB 32)])++(CH (Xk (rd l0 v17.toNat).y)))++[(yB 32)])++(CH (Xk (rd l0 v17.toNat).z)))++[(yB 10)]))) else .stuck) else .stuck) else .stuck) else .stuck) else .stuck) else .stuck) else .stuck) else .stuck) else .stuck) else .stuck) else .stuck) else .stuck) else .stuck) else .stuck) else .stuck) else .stuck) else .stuck) else .stuck) else .stuck) else .stuck) else .stuck) else .stuck) else (bif (decide ((aC.length:Int)>60000)) then (.ret [(.str []),(.int .i64 4)]) else (bif (decide (0+aC.length<=aC.length)) then (bif (sLe (Fa (aC.length) (fun k=>(Zz aC) (0+k)))) then (.ret [(.str (Fa (aC.length) (fun k=>(Zz aC) (0+k)))),(.int .i64 0)]) else .stuck) else .stuck)))
 | .h1 v17 v45 v46 v47 aC=>(bif (decide (v47<v46)) then (bif ((decide (0<=v47/\v47<(v45.length:Int)))&&true) then (bif (decide ((aC.length+3+1)*(1+1)<=Ve)) then (bif (Nat.beq 1 1&&(Nat.beq 1 1&&decide (0+aC.length<=aC.length))) then (.to (.h2 v17 v45 v46 v47 (aC++(CH ([98,111,120]:List UInt8))) (rd v45 v47.toNat).a (rd v45 v47.toNat).b (rd v45 v47.toNat).c (rd v45 v47.toNat).d (rd v45 v47.toNat).e (rd v45 v47.toNat).f)) else .stuck) else .stuck) else .stuck) else (.to (.h0 (wrap .i64 (v17+1)) aC)))
 | .h2 bP bO bQ bR aC aI bL bA aM aT aY=>(bif (Nat.beq 1 1&&((decide (0+aC.length=aC.length))&&decide ((aC.length+1+1)*(1+1)<=Ve))) then (bif (Yd aI) then (bif (decide (((aC.length+1)+(Xk aI).length +1)*(1+1)<=Ve)) then (bif (Nat.beq 1 1&&(Nat.beq 1 1&&decide (0+(aC.length+1)<=(aC.length+1)))) then (.to (.h3 bP bO bQ bR ((aC++[(yB 32)])++(CH (Xk aI))) aI bL bA aM aT aY)) else .stuck) else .stuck) else .stuck) else .stuck)
 | .h3 bP bO bQ bR aC aI bL bA aM aT aY=>(bif (Nat.beq 1 1&&((decide (0+aC.length=aC.length))&&decide ((aC.length+1+1)*(1+1)<=Ve))) then (bif (Yd bL) then (bif (decide (((aC.length+1)+(Xk bL).length +1)*(1+1)<=Ve)) then (bif (Nat.beq 1 1&&(Nat.beq 1 1&&decide (0+(aC.length+1)<=(aC.length+1)))) then (.to (.h4 bP bO bQ bR ((aC++[(yB 32)])++(CH (Xk bL))) aI bL bA aM aT aY)) else .stuck) else .stuck) else .stuck) else .stuck)
 | .h4 bP bO bQ bR aC aI bL bA aM aT aY=>(bif (Nat.beq 1 1&&((decide (0+aC.length=aC.length))&&decide ((aC.length+1+1)*(1+1)<=Ve))) then (bif (Yd bA) then (bif (decide (((aC.length+1)+(Xk bA).length +1)*(1+1)<=Ve)) then (bif (Nat.beq 1 1&&(Nat.beq 1 1&&decide (0+(aC.length+1)<=(aC.length+1)))) then (.to (.h5 bP bO bQ bR ((aC++[(yB 32)])++(CH (Xk bA))) aI bL bA aM aT aY)) else .stuck) else .stuck) else .stuck) else .stuck)
 | .h5 bP bO bQ bR aC aI bL bA aM aT aY=>(bif (Nat.beq 1 1&&((decide (0+aC.length=aC.length))&&decide ((aC.length+1+1)*(1+1)<=Ve))) then (bif (Yd aM) then (bif (decide (((aC.length+1)+(Xk aM).length +1)*(1+1)<=Ve)) then (bif (Nat.beq 1 1&&(Nat.beq 1 1&&decide (0+(aC.length+1)<=(aC.length+1)))) then (.to (.h6 bP bO bQ bR ((aC++[(yB 32)])++(CH (Xk aM))) aI bL bA aM aT aY)) else .stuck) else .stuck) else .stuck) else .stuck)
 | .h6 bP bO bQ bR aC aI bL bA aM aT aY=>(bif (Nat.beq 1 1&&((decide (0+aC.length=aC.length))&&decide ((aC.length+1+1)*(1+1)<=Ve))) then (bif (Yd aT) then (bif (decide (((aC.length+1)+(Xk aT).length +1)*(1+1)<=Ve)) then (bif (Nat.beq 1 1&&(Nat.beq 1 1&&decide (0+(aC.length+1)<=(aC.length+1)))) then (.to (.h7 bP bO bQ bR ((aC++[(yB 32)])++(CH (Xk aT))) aI bL bA aM aT aY)) else .stuck) else .stuck) else .stuck) else .stuck)
 | .h7 bP bO bQ bR aC aI bL bA aM aT aY=>(bif (Nat.beq 1 1&&((decide (0+aC.length=aC.length))&&decide ((aC.length+1+1)*(1+1)<=Ve))) then (bif (Yd aY) then (bif (decide (((aC.length+1)+(Xk aY).length +1)*(1+1)<=Ve)) then (bif (Nat.beq 1 1&&(Nat.beq 1 1&&decide (0+(aC.length+1)<=(aC.length+1)))) then (.to (.h8 bP bO bQ bR ((aC++[(yB 32)])++(CH (Xk aY))) aI bL bA aM aT aY)) else .stuck) else .stuck) else .stuck) else .stuck)
 | .h8 bP bO bQ bR aC aI bL bA aM aT aY=>(bif (Nat.beq 1 1&&((decide (0+aC.length=aC.length))&&decide ((aC.length+1+1)*(1+1)<=Ve))) then (.to (.h1 bP bO bQ (wrap .i64 (bR+1)) (aC++[(yB 10)]))) else .stuck)
def QM (l0:List B5):Xj FH:=(bif (Yk (B4 l0)) then (bif ((Un (B4 l0)) != 0) then (.ret [(.str []),(.int .i64 (Un (B4 l0)))]) else (.to (.h0 0 ([]:List By)))) else .stuck)
theorem w7x (l0:List B5): ∀s,Wp prog (Zy prog 10) (MK l0) (MK l0 s) (Wm l0 s)
 | .h0 v17 aC=>(lb (fun k0=>(lo fun o0=>(lo fun o1=>(lo fun o2=>(lo fun o3=>(lo fun o4=>(lo fun o5=>(lo fun o6=>(lo fun o7=>(lo fun o8=>(lo fun o9=>(lo fun o10=>(lo fun o11=>(lo fun o12=>(lo fun o13=>(lo fun o14=>(lo fun o15=>(lo fun o16=>(lo fun o17=>(lo fun o18=>(lo fun o19=>(lo fun o20=>(lo fun o21=>let a:=xL ((((((((((aC.length+(([110,111,100,101,32]:List UInt8)++(Wv (B4 l0) v17)).length)+1)+(Uo l0 v17).length)+1)+(Ji l0 v17).length)+1)+(Qs l0 v17).length)+1)+(Gz l0 v17).length)+1) ((((((((((aC++(CH (([110,111,100,101,32]:List UInt8)++(Wv (B4 l0) v17))))++[(yB 32)])++(CH (Uo l0 v17)))++[(yB 32)])++(CH (Ji l0 v17)))++[(yB 32)])++(CH (Qs l0 v17)))++[(yB 32)])++(CH (Gz l0 v17)))++[(yB 10)]).length (by first | exact Yc rfl | exact Yc (by simp only [Yr,Ap,At,AI,Yj] <;> omega) | assumption);let b:=aC++(CH (([110,111,100,101,32]:List UInt8)++(Wv (B4 l0) v17)));let c:=CH (Gz l0 v17);let d:=CH (Uo l0 v17);let e:=CH (Ji l0 v17);let f:=CH (Qs l0 v17);let g:=b++[(yB 32)];(sl Zb 29 [] ⟨[0,17],[],Ix,Iz⟩ ⟨[],[.cells [.keep,.len ((((((((g++d)++[(yB 32)])++e)++[(yB 32)])++f)++[(yB 32)])++c)++[(yB 10)]).length],.rowed 1 ((((((((g++d)++[(yB 32)])++e)++[(yB 32)])++f)++[(yB 32)])++c)++[(yB 10)]).length (Zz ((((((((g++d)++[(yB 32)])++e)++[(yB 32)])++f)++[(yB 32)])++c)++[(yB 10)]))],[]⟩ (CE 5 [false]) (pp a (pp a (pp (xS ((((((((((aC.length+(([110,111,100,101,32]:List UInt8)++(Wv (B4 l0) v17)).length)+1)+(Uo l0 v17).length)+1)+(Ji l0 v17).length)+1)+(Qs l0 v17).length)+1)+(Gz l0 v17).length)+1) (Zo (Yx (fun k=>(Zo (Yx (fun k=>(Zo (Yx (fun k=>(Zo (Yx (fun k=>(Zo (Yx (fun k=>(Zz aC) (0+k)) aC.length (Uy (([110,111,100,101,32]:List UInt8)++(Wv (B4 l0) v17)))) 0 (aC.length+(([110,111,100,101,32]:List UInt8)++(Wv (B4 l0) v17)).length) 1 [(.int .u8 32)]) (0+k)) ((aC.length+(([110,111,100,101,32]:List UInt8)++(Wv (B4 l0) v17)).length)+1) (Uy (Uo l0 v17))) 0 (((aC.length+(([110,111,100,101,32]:List UInt8)++(Wv (B4 l0) v17)).length)+1)+(Uo l0 v17).length) 1 [(.int .u8 32)]) (0+k)) ((((aC.length+(([110,111,100,101,32]:List UInt8)++(Wv (B4 l0) v17)).length)+1)+(Uo l0 v17).length)+1) (Uy (Ji l0 v17))) 0 (((((aC.length+(([110,111,100,101,32]:List UInt8)++(Wv (B4 l0) v17)).length)+1)+(Uo l0 v17).length)+1)+(Ji l0 v17).length) 1 [(.int .u8 32)]) (0+k)) ((((((aC.length+(([110,111,100,101,32]:List UInt8)++(Wv (B4 l0) v17)).length)+1)+(Uo l0 v17).length)+1)+(Ji l0 v17).length)+1) (Uy (Qs l0 v17))) 0 (((((((aC.length+(([110,111,100,101,32]:List UInt8)++(Wv (B4 l0) v17)).length)+1)+(Uo l0 v17).length)+1)+(Ji l0 v17).length)+1)+(Qs l0 v17).length) 1 [(.int .u8 32)]) (0+k)) ((((((((aC.length+(([110,111,100,101,32]:List UInt8)++(Wv (B4 l0) v17)).length)+1)+(Uo l0 v17).length)+1)+(Ji l0 v17).length)+1)+(Qs l0 v17).length)+1) (Uy (Gz l0 v17))) 0 (((((((((aC.length+(([110,111,100,101,32]:List UInt8)++(Wv (B4 l0) v17)).length)+1)+(Uo l0 v17).length)+1)+(Ji l0 v17).length)+1)+(Qs l0 v17).length)+1)+(Gz l0 v17).length) 1 [(.int .u8 10)]) (Zz ((((((((((aC++(CH (([110,111,100,101,32]:List UInt8)++(Wv (B4 l0) v17))))++[(yB 32)])++(CH (Uo l0 v17)))++[(yB 32)])++(CH (Ji l0 v17)))++[(yB 32)])++(CH (Qs l0 v17)))++[(yB 32)])++(CH (Gz l0 v17)))++[(yB 10)])) (by repeat' (first | exact Vg _ _ | assumption | exact Kp | exact Jb | rfl | (refine Qo ?_ ?_ rfl rfl rfl) | (refine Kd ?_ ?_ ?_ rfl) | exact Ke (Vg _ _) rfl | apply Ud | exact I9 _ | exact Al _ | (simp only [Yr,Ap,At,AI,Yj] <;> omega)))) (pp (pp (xF (Zo (Yx (fun k=>(Zo (Yx (fun k=>(Zo (Yx (fun k=>(Zo (Yx (fun k=>(Zo (Yx (fun k=>(Zz aC) (0+k)) aC.length (Uy (([110,111,100,101,32]:List UInt8)++(Wv (B4 l0) v17)))) 0 (aC.length+(([110,111,100,101,32]:List UInt8)++(Wv (B4 l0) v17)).length) 1 [(.int .u8 32)]) (0+k)) ((aC.length+(([110,111,100,101,32]:List UInt8)++(Wv (B4 l0) v17)).length)+1) (Uy (Uo l0 v17))) 0 (((aC.length+(([110,111,100,101,32]:List UInt8)++(Wv (B4 l0) v17)).length)+1)+(Uo l0 v17).length) 1 [(.int .u8 32)]) (0+k)) ((((aC.length+(([110,111,100,101,32]:List UInt8)++(Wv (B4 l0) v17)).length)+1)+(Uo l0 v17).length)+1) (Uy (Ji l0 v17))) 0 (((((aC.length+(([110,111,100,101,32]:List UInt8)++(Wv (B4 l0) v17)).length)+1)+(Uo l0 v17).length)+1)+(Ji l0 v17).length) 1 [(.int .u8 32)]) (0+k)) ((((((aC.length+(([110,111,100,101,32]:List UInt8)++(Wv (B4 l0) v17)).length)+1)+(Uo l0 v17).length)+1)+(Ji l0 v17).length)+1) (Uy (Qs l0 v17))) 0 (((((((aC.length+(([110,111,100,101,32]:List UInt8)++(Wv (B4 l0) v17)).length)+1)+(Uo l0 v17).length)+1)+(Ji l0 v17).length)+1)+(Qs l0 v17).length) 1 [(.int .u8 32)]) (0+k)) ((((((((aC.length+(([110,111,100,101,32]:List UInt8)++(Wv (B4 l0) v17)).length)+1)+(Uo l0 v17).length)+1)+(Ji l0 v17).length)+1)+(Qs l0 v17).length)+1) (Uy (Gz l0 v17))) 0 (((((((((aC.length+(([110,111,100,101,32]:List UInt8)++(Wv (B4 l0) v17)).length)+1)+(Uo l0 v17).length)+1)+(Ji l0 v17).length)+1)+(Qs l0 v17).length)+1)+(Gz l0 v17).length) 1 [(.int .u8 10)])) nn) (ww o21 (pp (pp (xw o20) (pp nn (xw o19))) (ww o18 (ww o17 (pp (pp (xw o16) (pp nn (xw o15))) (ww o14 (ww o13 (pp (pp (xw o12) (pp nn (xw o11))) (ww o10 (ww o9 (pp (pp (xw o8) (pp nn (xw o7))) (ww o6 (ww o5 (pp (pp (xw o4) (pp nn (xw o3))) (ww o2 (pp (pp (xr l0) (xw o1)) (ww o0 (tt k0 nn)))))))))))))))))))))))))))))))))))))))))))))) (fun k0=>(lb (fun k1=>(lr 76 3 [1,1,1,1,1,1,0] 1 10 [(2,(.str [])),(3,(ii 4))] (sl Zb 48 [] (b8 [2,3]) b7 (bl 2 2) (tt k1 (tt k0 nn))))) (fun k1=>(lo fun o0=>(lo fun o1=>let h:=xG (Nat.beq 1 1);(lr 76 3 [1,1,1,1,1,1,0] 1 10 [(2,(.str (Fa (aC.length) (fun k=>(Zz aC) (0+k))))),(3,(ii 0))] (sl Zb 51 [] (b8 [2,3]) b7 (bl 2 0) (pp (pp (xw o1) (pp h (pp h (pp (xw o0) (xY (aC.length) (fun k=>(Zz aC) (0+k))))))) (tt k1 (tt k0 nn)))))))))))
 | .h1 v17 v45 v46 v47 aC=>(lb (fun k0=>(lo fun o0=>(lo fun o1=>(lo fun o2=>let a:=xL (aC.length+3) (aC++(CH ([98,111,120]:List UInt8))).length (by first | exact Yc rfl | exact Yc (by simp only [Yr,Ap,At,AI,Yj] <;> omega) | assumption);let b:=aC++(CH ([98,111,120]:List UInt8));(sl Zb 83 [] ⟨[0,4,3],[],SE,SM⟩ ⟨[],[.cells [.keep,.len b.length],.rowed 1 b.length (Zz b),.keep],[]⟩ [true] (pp a (pp a (pp (xS (aC.length+3) (Yx (fun k=>(Zz aC) (0+k)) aC.length (Uy ([98,111,120]:List UInt8))) (Zz (aC++(CH ([98,111,120]:List UInt8)))) (by repeat' (first | exact Vg _ _ | assumption | exact Kp | exact Jb | rfl | (refine Qo ?_ ?_ rfl rfl rfl) | (refine Kd ?_ ?_ ?_ rfl) | exact Ke (Vg _ _) rfl | apply Ud | exact I9 _ | exact Al _ | (simp only [Yr,Ap,At,AI,Yj] <;> omega)))) (pp (pp (xF (Yx (fun k=>(Zz aC) (0+k)) aC.length (Uy ([98,111,120]:List UInt8)))) nn) (pp (pp (xw o2) (pp nn (xw o1))) (ww o0 (tt k0 nn)))))))))))) (fun k0=>(sl Zb 13 [] ⟨[0,1],[],Iy,JA⟩ b7 [false] (pp (fl aC nn) (tt k0 nn)))))
 | .h2 bP bO bQ bR aC aI bL bA aM aT aY=>(lo fun o0=>(lo fun o1=>(lo fun o2=>(lo fun o3=>let a:=xL ((aC.length+1)+(Xk aI).length) (x0v aC aI).length (by first | exact Yc rfl | exact Yc (by simp only [Yr,Ap,At,AI,Yj] <;> omega) | assumption);let b:=x0v aC aI;(sl Zb 91 [] ⟨[0,5,2],[],SD,SL⟩ ⟨[],[.cells [.keep,.len b.length],.rowed 1 b.length (Zz b),.keep],[]⟩ [true] (pp a (pp a (pp (xS ((aC.length+1)+(Xk aI).length) (Yx (fun k=>(Zo (Zz aC) 0 aC.length 1 [(.int .u8 32)]) (0+k)) (aC.length+1) (Uy (Xk aI))) (Zz (x0v aC aI)) (by repeat' (first | exact Vg _ _ | assumption | exact Kp | exact Jb | rfl | (refine Qo ?_ ?_ rfl rfl rfl) | (refine Kd ?_ ?_ ?_ rfl) | exact Ke (Vg _ _) rfl | apply Ud | exact I9 _ | exact Al _ | (simp only [Yr,Ap,At,AI,Yj] <;> omega)))) (pp (pp (xF (Yx (fun k=>(Zo (Zz aC) 0 aC.length 1 [(.int .u8 32)]) (0+k)) (aC.length+1) (Uy (Xk aI)))) nn) (pp (pp (xw o3) (pp nn (xw o2))) (ww o1 (ww o0 nn))))))))))))
 | .h3 bP bO bQ bR aC aI bL bA aM aT aY=>(lo fun o0=>(lo fun o1=>(lo fun o2=>(lo fun o3=>let a:=xL ((aC.length+1)+(Xk bL).length) (x0u aC bL).length (by first | exact Yc rfl | exact Yc (by simp only [Yr,Ap,At,AI,Yj] <;> omega) | assumption);let b:=x0u aC bL;(sl Zb 91 [] ⟨[0,5,2],[],SC,SK⟩ ⟨[],[.cells [.keep,.len b.length],.rowed 1 b.length (Zz b),.keep],[]⟩ [true] (pp a (pp a (pp (xS ((aC.length+1)+(Xk bL).length) (Yx (fun k=>(Zo (Zz aC) 0 aC.length 1 [(.int .u8 32)]) (0+k)) (aC.length+1) (Uy (Xk bL))) (Zz (x0u aC bL)) (by repeat' (first | exact Vg _ _ | assumption | exact Kp | exact Jb | rfl | (refine Qo ?_ ?_ rfl rfl rfl) | (refine Kd ?_ ?_ ?_ rfl) | exact Ke (Vg _ _) rfl | apply Ud | exact I9 _ | exact Al _ | (simp only [Yr,Ap,At,AI,Yj] <;> omega)))) (pp (pp (xF (Yx (fun k=>(Zo (Zz aC) 0 aC.length 1 [(.int .u8 32)]) (0+k)) (aC.length+1) (Uy (Xk bL)))) nn) (pp (pp (xw o3) (pp nn (xw o2))) (ww o1 (ww o0 nn))))))))))))
 | .h4 bP bO bQ bR aC aI bL bA aM aT aY=>(lo fun o0=>(lo fun o1=>(lo fun o2=>(lo fun o3=>let a:=xL ((aC.length+1)+(Xk bA).length) (Z9 aC bA).length (by first | exact Yc rfl | exact Yc (by simp only [Yr,Ap,At,AI,Yj] <;> omega) | assumption);let b:=Z9 aC bA;(sl Zb 91 [] ⟨[0,5,2],[],SB,SJ⟩ ⟨[],[.cells [.keep,.len b.length],.rowed 1 b.length (Zz b),.keep],[]⟩ [true] (pp a (pp a (pp (xS ((aC.length+1)+(Xk bA).length) (Yx (fun k=>(Zo (Zz aC) 0 aC.length 1 [(.int .u8 32)]) (0+k)) (aC.length+1) (Uy (Xk bA))) (Zz (Z9 aC bA)) (by repeat' (first | exact Vg _ _ | assumption | exact Kp | exact Jb | rfl | (refine Qo ?_ ?_ rfl rfl rfl) | (refine Kd ?_ ?_ ?_ rfl) | exact Ke (Vg _ _) rfl | apply Ud | exact I9 _ | exact Al _ | (simp only [Yr,Ap,At,AI,Yj] <;> omega)))) (pp (pp (xF (Yx (fun k=>(Zo (Zz aC) 0 aC.length 1 [(.int .u8 32)]) (0+k)) (aC.length+1) (Uy (Xk bA)))) nn) (pp (pp (xw o3) (pp nn (xw o2))) (ww o1 (ww o0 nn))))))))))))
 | .h5 bP bO bQ bR aC aI bL bA aM aT aY=>(lo fun o0=>(lo fun o1=>(lo fun o2=>(lo fun o3=>let a:=xL ((aC.length+1)+(Xk aM).length) (Zl aC aM).length (by first | exact Yc rfl | exact Yc (by simp only [Yr,Ap,At,AI,Yj] <;> omega) | assumption);let b:=Zl aC aM;(sl Zb 91 [] ⟨[0,5,2],[],SA,SI⟩ ⟨[],[.cells [.keep,.len b.length],.rowed 1 b.length (Zz b),.keep],[]⟩ [true] (pp a (pp a (pp (xS ((aC.length+1)+(Xk aM).length) (Yx (fun k=>(Zo (Zz aC) 0 aC.length 1 [(.int .u8 32)]) (0+k)) (aC.length+1) (Uy (Xk aM))) (Zz (Zl aC aM)) (by repeat' (first | exact Vg _ _ | assumption | exact Kp | exact Jb | rfl | (refine Qo ?_ ?_ rfl rfl rfl) | (refine Kd ?_ ?_ ?_ rfl) | exact Ke (Vg _ _) rfl | apply Ud | exact I9 _ | exact Al _ | (simp only [Yr,Ap,At,AI,Yj] <;> omega)))) (pp (pp (xF (Yx (fun k=>(Zo (Zz aC) 0 aC.length 1 [(.int .u8 32)]) (0+k)) (aC.length+1) (Uy (Xk aM)))) nn) (pp (pp (xw o3) (pp nn (xw o2))) (ww o1 (ww o0 nn))))))))))))
 | .h6 bP bO bQ bR aC aI bL bA aM aT aY=>(lo fun o0=>(lo fun o1=>(lo fun o2=>(lo fun o3=>let a:=xL ((aC.length+1)+(Xk aT).length) (y1o aC aT).length (by first | exact Yc rfl | exact Yc (by simp only [Yr,Ap,At,AI,Yj] <;> omega) | assumption);let b:=y1o aC aT;(sl Zb 91 [] ⟨[0,5,2],[],Rz,SH⟩ ⟨[],[.cells [.keep,.len b.length],.rowed 1 b.length (Zz b),.keep],[]⟩ [true] (pp a (pp a (pp (xS ((aC.length+1)+(Xk aT).length) (Yx (fun k=>(Zo (Zz aC) 0 aC.length 1 [(.int .u8 32)]) (0+k)) (aC.length+1) (Uy (Xk aT))) (Zz (y1o aC aT)) (by repeat' (first | exact Vg _ _ | assumption | exact Kp | exact Jb | rfl | (refine Qo ?_ ?_ rfl rfl rfl) | (refine Kd ?_ ?_ ?_ rfl) | exact Ke (Vg _ _) rfl | apply Ud | exact I9 _ | exact Al _ | (simp only [Yr,Ap,At,AI,Yj] <;> omega)))) (pp (pp (xF (Yx (fun k=>(Zo (Zz aC) 0 aC.length 1 [(.int .u8 32)]) (0+k)) (aC.length+1) (Uy (Xk aT)))) nn) (pp (pp (xw o3) (pp nn (xw o2))) (ww o1 (ww o0 nn))))))))))))
 | .h7 bP bO bQ bR aC aI bL bA aM aT aY=>(lo fun o0=>(lo fun o1=>(lo fun o2=>(lo fun o3=>let a:=xL ((aC.length+1)+(Xk aY).length) (y1n aC aY).length (by first | exact Yc rfl | exact Yc (by simp only [Yr,Ap,At,AI,Yj] <;> omega) | assumption);let b:=y1n aC aY;(sl Zb 91 [] ⟨[0,5,2],[],Ry,SG⟩ ⟨[],[.cells [.keep,.len b.length],.rowed 1 b.length (Zz b),.keep],[]⟩ [true] (pp a (pp a (pp (xS ((aC.length+1)+(Xk aY).length) (Yx (fun k=>(Zo (Zz aC) 0 aC.length 1 [(.int .u8 32)]) (0+k)) (aC.length+1) (Uy (Xk aY))) (Zz (y1n aC aY)) (by repeat' (first | exact Vg _ _ | assumption | exact Kp | exact Jb | rfl | (refine Qo ?_ ?_ rfl rfl rfl) | (refine Kd ?_ ?_ ?_ rfl) | exact Ke (Vg _ _) rfl | apply Ud | exact I9 _ | exact Al _ | (simp only [Yr,Ap,At,AI,Yj] <;> omega)))) (pp (pp (xF (Yx (fun k=>(Zo (Zz aC) 0 aC.length 1 [(.int .u8 32)]) (0+k)) (aC.length+1) (Uy (Xk aY)))) nn) (pp (pp (xw o3) (pp nn (xw o2))) (ww o1 (ww o0 nn))))))))))))
 | .h8 bP bO bQ bR aC aI bL bA aM aT aY=>(lo fun o0=>let a:=xL (aC.length+1) (aC++[(yB 10)]).length;let b:=aC++[(yB 10)];(sl Zb 47 [] ⟨[0,4],[],Ix,Iz⟩ ⟨[],[.cells [.keep,.len b.length],.rowed 1 b.length (Zz b)],[]⟩ [false] (pp a (pp a (pp (xS (aC.length+1) (Zo (Zz aC) 0 aC.length 1 [(.int .u8 10)]) (Zz (aC++[(yB 10)]))) (pp (pp (xF (Zo (Zz aC) 0 aC.length 1 [(.int .u8 10)])) nn) (ww o0 nn)))))))
theorem x9n (l0:List B5):Wp prog (Zy prog 10) (MK l0) (Zg prog 10 [(.dat l0.length (Zz l0))] true []) (QM l0):=(lo fun cO=>let a:=pp (pp (xr l0) (xw cO)) nn;(lb (fun k0=>(lr 76 10 [1,0,1,1,0,0] 1 10 [(2,(.str [])),(3,(ii (Un (B4 l0))))] (sl Zb 24 [] (b8 [2,3]) b7 [true] (tt k0 a)))) (fun k0=>(sl Zb 32 [(5,1,Zz ([]:List By))] ⟨[0,1],[],Iy,JA⟩ ⟨[],[.cells [.keep,.grow 1 1],.keep],[]⟩ [false] (pp (fl ([]:List By) nn) (tt k0 a))))))
theorem v9l (l0:List B5) (n:Nat) (vs:List B3) (h:Yw (Wm l0) n (QM l0)=.ret vs):Kj prog (Zy prog 10) (Zg prog 10 [(.dat l0.length (Zz l0))] true []) vs:=by have:=Ze (w7x l0) n _ (x9n l0);rwa [h] at this
end
open Go.Shelf Go.RowKit
def Ei :List UInt8:=[110,111,100,101,32]
def FA (p:List UInt8) (x:B5):List UInt8:=Ei++p++(FI [x.t,x.x,x.y,x.z]++[10])
def CW :List UInt8:=[98,111,120]
def Fd (r:R6):List UInt8:=CW++(FI [r.a,r.b,r.c,r.d,r.e,r.f]++[10])
def E2 :List R6->List UInt8
 | []=>[]
 | r::l=>Fd r++E2 l
def FC (l:List B5) (i:Nat):List UInt8:=FA (Wv l (i:Int)) (rd l i)++E2 (rd l i).s
def Kc (l:List B5):Nat->Nat->List UInt8
 | 0,_=>[]
 | k+1,i=>FC l i++Kc l k (i+1)
def Vs (l:List B5):List UInt8:=bif Un l != 0 then [] else bif decide (60000<(Kc l l.length 0).length) then [] else Kc l l.length 0
def Jn (l:List B5):Int:=bif Un l != 0 then Un l else bif decide (60000<(Kc l l.length 0).length) then 4 else 0
def Uk (l:List B5):Bool:=Yk l&&l.all fun x=>decide (0<=x.t)
structure E7 (q:B5):Prop where
 t:0<=q.t/\q.t<24
 x: -1000000<=q.x/\q.x<=1000000
 y: -1000000<=q.y/\q.y<=1000000
 z: -1000000<=q.z/\q.z<=1000000
 len:q.s.length<=400
 box: ∀r∈q.s,(-1000000<=r.a/\r.a<=1000000)/\(-1000000<=r.b/\r.b<=1000000)/\(-1000000<=r.c/\r.c<=1000000)/\(-1000000<=r.d/\r.d<=1000000)/\(-1000000<=r.e/\r.e<=1000000)/\(-1000000<=r.f/\r.f<=1000000)
theorem v9w {L:List R6} (h:Vu L=0):L.length<=400/\ ∀r∈L,DV r=true:=by
 unfold Vu at h;by_cases g:400<L.length
 .rw [Aa g] at h;cases h
 .rw [Ai g,Ab] at h;cases hq:L.all DV with
  | false=>rw [hq] at h;cases h
  | true=>exact ⟨by omega,fun r hr=>Ax.1 hq r hr⟩
theorem u9f {r:R6} (h:DV r=true):(-1000000<=r.a/\r.a<=1000000)/\(-1000000<=r.b/\r.b<=1000000)/\(-1000000<=r.c/\r.c<=1000000)/\(-1000000<=r.d/\r.d<=1000000)/\(-1000000<=r.e/\r.e<=1000000)/\(-1000000<=r.f/\r.f<=1000000):=by
 simp only [DV,Ad,Ak] at h;obtain ⟨h1,h2,h3,h4,h5,h6,h7⟩:=h;have mn: ∀x y:Int,Cz x y<=x/\Cz x y<=y:=fun x y=>by unfold Cz;split <;> omega
 have mx: ∀x y:Int,x<=Cy x y/\y<=Cy x y:=fun x y=>by unfold Cy;split <;> omega
 have a1:=mn (Cz r.a r.b) r.c;have a2:=mn r.a r.b;have a3:=mx (Cy r.a r.b) r.c;have a4:=mx r.a r.b;have a5:=mn (Cz r.d r.e) r.f;have a6:=mn r.d r.e;have a7:=mx (Cy r.d r.e) r.f;have a8:=mx r.d r.e;omega
theorem v9t {l:List B5} (h:ES l=0) {x:B5} (hx:x∈l):Vu x.s=0:=by
 unfold ES at h;cases hf:l.find? fun x=>Vu x.s != 0 with
 | none=>
  have:=List.find?_eq_none.1 hf x hx
  simpa using this
 | some y=>rw [hf] at h;have:=List.find?_some hf;rw [show Vu y.s=0 from h] at this;cases this
theorem v3t {l:List B5} (ht:(l.all fun x=>decide (0<=x.t))=true) (h:Un l=0) {i:Nat} (hi:i<l.length):E7 (rd l i):=by
 obtain ⟨h1,h2,h3⟩:=L8 (l:=l) (by rw [h];rfl);have hb:=h3 i hi;unfold DY at hb;rw [AT] at hb;obtain ⟨_,_,_,hk⟩:=RA hb.1;have hs:=v9w (v9t h2 (x:=rd l i) (by rw [Wb hi];exact A3 hi));unfold Ck at hk;cases g:decide (24<=(rd l i).t) with
 | true=>rw [g] at hk;cases hk
 | false=>
  have h0:0<=(rd l i).t :=WM ht i;have h24:(rd l i).t <24:=by have:=of_decide_eq_false g;omega
  rw [g,Ab] at hk;cases g2:Pz (rd l i).x (rd l i).y (rd l i).z with
  | false=>rw [g2] at hk;cases hk
  | true=>obtain ⟨k1,k2,k3⟩:=(w2v _ _ _).1 g2;refine ⟨⟨h0,h24⟩,k1,k2,k3,hs.1,fun r hr=> ?_⟩;exact u9f (hs.2 r hr)
theorem w7o {x:B5} (h:E7 x) {r:R6} (hr:r∈x.s):(Fd r).length <=200:=by obtain ⟨h1,h2,h3,h4,h5,h6⟩:=h.box r hr;have a1:=Qa h1;have a2:=Qa h2;have a3:=Qa h3;have a4:=Qa h4;have a5:=Qa h5;have a6:=Qa h6;simp only [Fd,CW,FI,Ap,At,AI];omega
theorem x2d {x:B5} (h:E7 x): ∀l:List R6,(∀r∈l,r∈x.s)->(E2 l).length <=200*l.length
 | [],_=>AF _
 | r::l,hl=>by have:=w7o h (hl r AQ);have:=x2d h l fun q hq=>hl q (AK _ hq);simp only [E2,Ap,At];omega
theorem w6a {p:List UInt8} {x:B5} (h:E7 x) (hp:p.length<=1000000):(FA p x).length <=1001000:=by have a1:=Qa (n:=x.t) (by have:=h.t;omega);have a2:=Qa h.x;have a3:=Qa h.y;have a4:=Qa h.z;simp only [FA,Ei,FI,Ap,At,AI];omega
theorem u0y {l:List B5} {i:Nat} (h:E7 (rd l i)) (hp:(Wv l (i:Int)).length <=1000000):(FC l i).length <=1100000:=by have h1:=w6a h hp;have h2:=x2d h (rd l i).s fun _ hr=>hr;have h3:=h.len;simp only [FC,Ap];omega
def HZ (t:List UInt8):List B3:=[.str (bif decide (60000<t.length) then [] else t),.int .i64 (bif decide (60000<t.length) then 4 else 0)]
theorem j0d {l:List B5} (ho:Uk l=true) (h:Un l=0):l.length<=200/\ ∀i,i<l.length->E7 (rd l i)/\Vx l (i:Int)=true:=by
 have hf:(Un l != 0)=false:=by rw [h];rfl
 have h1:=(L8 hf).1;unfold Uk at ho;rw [Ad] at ho;exact ⟨h1,fun i hi=>⟨v3t ho.2 h hi,QE ho.1 (by omega) hi (RM hf hi)⟩⟩
theorem u9k {l:List B5} (h:Un l=0):HZ (Kc l l.length 0)=[.str (Vs l),.int .i64 (Jn l)]:=by unfold HZ Vs Jn;rw [Jd h,Ab,Ab]
theorem u9j {l:List B5} {i m:Int} {bs:List R6} {j:Nat} {s:List UInt8} {x:B5} (h:E7 x) (hb:rd bs j∈x.s) (hj:j<bs.length) (hm:m=(bs.length:Int)) (hl:bs.length<=400) (ha:s.length<=1000000000) (N:Nat):
  Yw (Wm l) (N+8) (.to (.h1 i bs m (j:Int) (CH s)))=Yw (Wm l) N (.to (.h1 i bs m ((j+1:Nat):Int) (CH (s++Fd (rd bs j))))):=by
 obtain ⟨h1,h2,h3,h4,h5,h6⟩:=h.box _ hb;have w1:wrap .i64 ((j:Int)+1)=((j+1:Nat):Int):=Zm (by omega);have p0: ∀t:List By,Vf t 0 t.length=t:=fun t=>by rw [u2m (show 0+t.length<=t.length by omega),AR];exact List.take_length
 have ex: ∀(n:Int),(-1000000<=n/\n<=1000000)-> ∀(t:List By),t.length<=1000100000->(Nat.beq 1 1&&((decide (0+t.length=t.length))&&decide ((t.length+1+1)*(1+1)<=Ve)))=true/\Yd n=true/\decide (((t.length+1)+(Xk n).length +1)*(1+1)<=Ve)=true/\(Nat.beq 1 1&&(Nat.beq 1 1&&decide (0+(t.length+1)<=(t.length+1))))=true:=fun n hn t ht=>by have hl:(Xk n).length <=21:=Qa hn;exact ⟨P4 (by omega),Aa (by omega),Ik (by omega),by simp⟩
 have e1: ∀(t:List By),t.length<=1000100000->Wm l (.h1 i bs m (j:Int) t)=.to (.h2 i bs m (j:Int) (t++CH [98,111,120]) (rd bs j).a (rd bs j).b (rd bs j).c (rd bs j).d (rd bs j).e (rd bs j).f):=fun t ht=>by unfold Wm;simp only [Zj,p0];rw [Zp (Yb (by omega)),Zp (Bool.and_eq_true_iff.2 ⟨Ym (by omega),rfl⟩),Zp (Ik (by omega)),Zp (by simp)]
 have e2: ∀(t:List By) (a b c d e f:Int),t.length<=1000100000->(-1000000<=a/\a<=1000000)->Wm l (.h2 i bs m (j:Int) t a b c d e f)=.to (.h3 i bs m (j:Int) ((t++[yB 32])++CH (Xk a)) a b c d e f):=fun t a b c d e f ht ha=>by obtain ⟨c1,c2,c3,c4⟩:=ex a ha t ht;unfold Wm;simp only [];rw [Zp c1,Zp c2,Zp c3,Zp c4]
 have e3: ∀(t:List By) (a b c d e f:Int),t.length<=1000100000->(-1000000<=b/\b<=1000000)->Wm l (.h3 i bs m (j:Int) t a b c d e f)=.to (.h4 i bs m (j:Int) ((t++[yB 32])++CH (Xk b)) a b c d e f):=fun t a b c d e f ht ha=>by obtain ⟨c1,c2,c3,c4⟩:=ex b ha t ht;unfold Wm;simp only [];rw [Zp c1,Zp c2,Zp c3,Zp c4]
 have e4: ∀(t:List By) (a b c d e f:Int),t.length<=1000100000->(-1000000<=c/\c<=1000000)->Wm l (.h4 i bs m (j:Int) t a b c d e f)=.to (.h5 i bs m (j:Int) ((t++[yB 32])++CH (Xk c)) a b c d e f):=fun t a b c d e f ht ha=>by obtain ⟨c1,c2,c3,c4⟩:=ex c ha t ht;unfold Wm;simp only [];rw [Zp c1,Zp c2,Zp c3,Zp c4]
 have e5: ∀(t:List By) (a b c d e f:Int),t.length<=1000100000->(-1000000<=d/\d<=1000000)->Wm l (.h5 i bs m (j:Int) t a b c d e f)=.to (.h6 i bs m (j:Int) ((t++[yB 32])++CH (Xk d)) a b c d e f):=fun t a b c d e f ht ha=>by obtain ⟨c1,c2,c3,c4⟩:=ex d ha t ht;unfold Wm;simp only [];rw [Zp c1,Zp c2,Zp c3,Zp c4]
 have e6: ∀(t:List By) (a b c d e f:Int),t.length<=1000100000->(-1000000<=e/\e<=1000000)->Wm l (.h6 i bs m (j:Int) t a b c d e f)=.to (.h7 i bs m (j:Int) ((t++[yB 32])++CH (Xk e)) a b c d e f):=fun t a b c d e f ht ha=>by obtain ⟨c1,c2,c3,c4⟩:=ex e ha t ht;unfold Wm;simp only [];rw [Zp c1,Zp c2,Zp c3,Zp c4]
 have e7: ∀(t:List By) (a b c d e f:Int),t.length<=1000100000->(-1000000<=f/\f<=1000000)->Wm l (.h7 i bs m (j:Int) t a b c d e f)=.to (.h8 i bs m (j:Int) ((t++[yB 32])++CH (Xk f)) a b c d e f):=fun t a b c d e f ht ha=>by obtain ⟨c1,c2,c3,c4⟩:=ex f ha t ht;unfold Wm;simp only [];rw [Zp c1,Zp c2,Zp c3,Zp c4]
 have e8: ∀(t:List By) (a b c d e f:Int),t.length<=1000100000->Wm l (.h8 i bs m (j:Int) t a b c d e f)=.to (.h1 i bs m ((j+1:Nat):Int) (t++[yB 10])):=fun t a b c d e f ht=>by obtain ⟨c1,_⟩:=ex 0 (by omega) t ht;unfold Wm;simp only [w1];rw [Zp c1]
 have len: ∀(t:List By) (n:Int),(-1000000<=n/\n<=1000000)->((t++[yB 32])++CH (Xk n)).length <=t.length+22:=fun t n hn=>by have hl:(Xk n).length <=21:=Qa hn;rw [Ap,Ap,j5z,AJ];omega
 have fin:((((((((((((((CH s++CH [98,111,120])++[yB 32])++CH (Xk (rd bs j).a))++[yB 32])++CH (Xk (rd bs j).b))++[yB 32])++CH (Xk (rd bs j).c))++[yB 32])++CH (Xk (rd bs j).d))++[yB 32])++CH (Xk (rd bs j).e))++[yB 32])++CH (Xk (rd bs j).f))++[yB 10])=CH (s++Fd (rd bs j)):=by show ((((((((((((((s++[98,111,120])++[32])++itoa (rd bs j).a)++[32])++itoa (rd bs j).b)++[32])++itoa (rd bs j).c)++[32])++itoa (rd bs j).d)++[32])++itoa (rd bs j).e)++[32])++itoa (rd bs j).f)++[10]:List UInt8)=s++Fd (rd bs j);simp [Fd,CW,FI]
 have hs:(CH s).length <=1000000000:=ha;generalize hq:CH (s++Fd (rd bs j))=q at fin ⊢;generalize CH s=t0 at fin hs ⊢;rw [Zw,e1 t0 (by omega)];have b0:(t0++CH [98,111,120]).length <=1000000003:=by rw [Ap];show _+3<=_;omega
 generalize t0++CH [98,111,120]=t1 at fin b0 ⊢;rw [Zw,e2 t1 _ _ _ _ _ _ (by omega) h1];have b1:=len t1 (rd bs j).a h1;generalize ((t1++[yB 32])++CH (Xk (rd bs j).a))=t2 at fin b1 ⊢;rw [Zw,e3 t2 _ _ _ _ _ _ (by omega) h2];have b2:=len t2 (rd bs j).b h2;generalize ((t2++[yB 32])++CH (Xk (rd bs j).b))=t3 at fin b2 ⊢;rw [Zw,e4 t3 _ _ _ _ _ _ (by omega) h3];have b3:=len t3 (rd bs j).c h3;generalize ((t3++[yB 32])++CH (Xk (rd bs j).c))=t4 at fin b3 ⊢;rw [Zw,e5 t4 _ _ _ _ _ _ (by omega) h4];have b4:=len t4 (rd bs j).d h4;generalize ((t4++[yB 32])++CH (Xk (rd bs j).d))=t5 at fin b4 ⊢;rw [Zw,e6 t5 _ _ _ _ _ _ (by omega) h5];have b5:=len t5 (rd bs j).e h5;generalize ((t5++[yB 32])++CH (Xk (rd bs j).e))=t6 at fin b5 ⊢;rw [Zw,e7 t6 _ _ _ _ _ _ (by omega) h6];have b6:=len t6 (rd bs j).f h6;generalize ((t6++[yB 32])++CH (Xk (rd bs j).f))=t7 at fin b6 ⊢;rw [Zw,e8 t7 _ _ _ _ _ _ (by omega),fin]
theorem x5p {l:List B5} {i:Nat} (hi:i<l.length) (hl:l.length<=1000) {x:B5} (h:E7 x): ∀(k j:Nat) (acc:List UInt8),j+k=x.s.length->acc.length+200*k<=1000000000-> ∀N,
  Yw (Wm l) (N+(8*k+1)) (.to (.h1 (i:Int) x.s ((x.s.length:Nat):Int) (j:Int) (CH acc)))=Yw (Wm l) N (.to (.h0 ((i+1:Nat):Int) (CH (acc++E2 (x.s.drop j)))))
 | 0,j,acc,hk,ha,N=>by
  have w1:wrap .i64 ((i:Int)+1)=((i+1:Nat):Int):=Zm (by omega);have e:Wm l (.h1 (i:Int) x.s ((x.s.length:Nat):Int) (j:Int) (CH acc))=.to (.h0 ((i+1:Nat):Int) (CH acc)):=by unfold Wm;simp only [w1];rw [Yt (by omega),Ab]
  rw [Zw,e,Aw (by omega)];simp only [E2,AL]
 | k+1,j,acc,hk,ha,N=>by
  have hj:j<x.s.length:=by omega
  have hm:rd x.s j∈x.s:=by rw [Wb hj];exact A3 hj
  have hb:=w7o h hm;have hl4:=h.len;rw [show N+(8*(k+1)+1)=(N+(8*k+1))+8 by omega,u9j h hm hj rfl hl4 (by omega),x5p hi hl h k (j+1) _ (by omega) (by rw [Ap];omega) N,Xx hj];simp only [E2,AH]
theorem u9h {l:List B5} {i:Nat} {s:List UInt8} (hi:i<l.length) (h:E7 (rd l i)) (ho:Vx l (i:Int)=true) (ha:s.length<=1000000000):
  Wm l (.h0 (i:Int) (CH s))=.to (.h1 (i:Int) (rd l i).s (((rd l i).s.length :Nat):Int) 0 (CH (s++FA (Wv l (i:Int)) (rd l i)))):=by
 have hp:=PJ ho;have ht:=h.t;have wt:wrap .i64 (rd l i).t =(rd l i).t :=Zm (by omega);obtain ⟨o1,d1,e1,q1,l1⟩:=WZ (n:=(rd l i).t) (by omega);obtain ⟨o2,d2,e2,q2,l2⟩:=WZ h.x;obtain ⟨o3,d3,e3,q3,l3⟩:=WZ h.y;obtain ⟨o4,d4,e4,q4,l4⟩:=WZ h.z;have fin:((((((((((CH s++(CH (([110,111,100,101,32]:List UInt8)++Wv l (i:Int))))++([yB 32]:List By))++CH d1)++([yB 32]:List By))++CH d2)++([yB 32]:List By))++CH d3)++([yB 32]:List By))++CH d4)++([yB 10]:List By))=CH (s++FA (Wv l (i:Int)) (rd l i)):=by show ((((((((((s++(([110,111,100,101,32]:List UInt8)++Wv l (i:Int)))++([32]:List UInt8))++d1)++([32]:List UInt8))++d2)++([32]:List UInt8))++d3)++([32]:List UInt8))++d4)++([10]:List UInt8))=s++FA (Wv l (i:Int)) (rd l i);simp [FA,Ei,FI,q1,q2,q3,q4]
 have hs:(CH s).length <=1000000000:=ha;have hq:(([110,111,100,101,32]:List UInt8)++Wv l (i:Int)).length <=1000005:=by rw [Ap];show 5+_<=_;omega
 have ok:Py ([110,111,100,101,32]:List UInt8) (Wv l (i:Int))=true:=j0g (by show 5+_<=_;omega);rw [<-fin];generalize CH s=t0 at hs ⊢;unfold Wm;simp only [Zj,Yg,wt,o1,o2,o3,o4,e1,e2,e3,e4,ho,ok,Aq,Af];generalize (([110,111,100,101,32]:List UInt8)++Wv l (i:Int))=q at hq ⊢;rw [Zp (Yb (by omega)),Zp (Ym (by omega))];repeat (first | rw [Zp (P4 (by omega))] | rw [Zp (Ik (by omega))] | rw [Zp (by simp)])
theorem u5n {l:List B5} (hl:l.length<=200) (h: ∀i,i<l.length->E7 (rd l i)/\Vx l (i:Int)=true): ∀(k i:Nat) (acc:List UInt8),i+k=l.length->acc.length<=1100000*i->
  ∃N,Yw (Wm l) N (.to (.h0 (i:Int) (CH acc)))=.ret (HZ (acc++Kc l k i))
 | 0,i,acc,hk,ha=>by
  refine ⟨1,?_⟩;have e:Wm l (.h0 (i:Int) (CH acc))=bif decide ((acc.length:Int)>60000) then .ret [.str [],.int .i64 4] else .ret [.str acc,.int .i64 0]:=by
   unfold Wm;simp (disch:=omega) only [Yt,Ab];have es:Fa (CH acc).length (fun k=>Zz (CH acc) (0+k))=acc:=x9q (CH acc) acc.length rfl;have hb:(CH acc).length =acc.length:=rfl;rw [es,hb];by_cases g:60000<acc.length
   .rw [Aa (show (acc.length:Int)>60000 by omega)];rfl
   .rw [Ai (show ¬(acc.length:Int)>60000 by omega),Ab,Ab,Zp (Aa (by omega)),Zp (SU (by omega))]
  rw [Zw,e];simp only [Kc,AL,HZ];by_cases g:60000<acc.length
  .rw [Aa g,Aa (show (acc.length:Int)>60000 by omega)];rfl
  .rw [Ai g,Ai (show ¬(acc.length:Int)>60000 by omega)];rfl
 | k+1,i,acc,hk,ha=>by
  have hi:i<l.length:=by omega
  obtain ⟨h1,h2⟩:=h i hi;have hp:=PJ h2;have hr:=u0y h1 hp;have hn:=w6a h1 hp;have hs:=h1.len;obtain ⟨N,hN⟩:=u5n hl h k (i+1) (acc++FC l i) (by omega) (by rw [Ap];omega);refine ⟨N+(8*(rd l i).s.length +1)+1,?_⟩;rw [Zw,u9h hi h1 h2 (by omega)];show Yw _ _ (.to (FH.h1 (i:Int) _ _ ((0:Nat):Int) _))=_;rw [x5p hi (by omega) h1 (rd l i).s.length 0 _ (Al _) (by rw [Ap];omega) N,AR,AH];show Yw _ N (.to (FH.h0 _ (CH (acc++FC l i))))=_;rw [hN,Kc,AH]
theorem u9g (l:List B5) (ho:Uk l=true): ∃N,Yw (Wm l) N (QM l)=.ret [.str (Vs l),.int .i64 (Jn l)]:=by
 have e:QM l=bif (Un l != 0) then .ret [.str [],.int .i64 (Un l)] else .to (.h0 0 (CH [])):=by unfold QM;rw [Yg,Zp (show Yk l=true by unfold Uk at ho;rw [Ad] at ho;exact ho.1)];rfl
 rw [e];by_cases h:Un l=0
 .obtain ⟨h1,h2⟩:=j0d ho h;obtain ⟨N,hN⟩:=u5n h1 h2 l.length 0 [] (Al _) (AF _);refine ⟨N,?_⟩;rw [Jd h,Ab,<-u9k h];exact hN
 .unfold Vs Jn;rw [Qu h,Af,Af,Af];exact ⟨0,rfl⟩
def OC :List B3->Option (B3×Bool)
 | [a0]=>match Cc B5 a0 with
  | some (L,g,n)=>some (.tup [.str (Vs L),.int .i64 (Jn L)],CT B5 n g&&Uk L)
  | _=>none
 | _=>none
theorem j3x {S:B6} (hS:Zv prog S):Zv prog (S.with SF OC):=CS hS (by kernel_rfl) fun args v h=>by
 unfold OC at h;split at h
 .rename_i a0;split at h
  .rename_i L g n e0;simp only [Ae,Ac,Ad] at h;obtain ⟨rfl,ho0,hw⟩:=h;obtain ⟨N,hN⟩:=u9g L hw;exact ⟨_,_,(.cons (Xh e0 ho0) .nil),rfl,v9l L N _ hN,5,rfl⟩
  .cases h
 .cases h
def SY :B6:=SX.with SF OC
theorem Tv :Zv prog SY:=j3x Zb
def CP :List UInt8:=[110,111,100,101]
inductive Ct where
 | nod (p:List UInt8) (t x y z:Int)
 | box (r:R6)
def D8 (p:List UInt8):List Int->Option Ct
 | [t,x,y,z]=>bif decide (0<=t)&&decide (t<=23) then some (.nod p t x y z) else none
 | _=>none
def EF :List Int->Option Ct
 | [a,b,c,d,e,f]=>some (.box ⟨a,b,c,d,e,f⟩)
 | _=>none
def Sy :List (List UInt8)->Option Ct
 | p::q=>bif decide (q.length=4)&&(!decide (p=[])&&decide (C6 p=0)) then (Jh q).bind (D8 p) else none
 | []=>none
def u5l :List (List UInt8)->Option Ct
 | w::r=>bif decide (w=CP) then Sy r else bif decide (w=CW)&&decide (r.length=6) then (Jh r).bind EF else none
 | []=>none
theorem Qq (w:List UInt8) (r:List (List UInt8)):u5l (w::r)=bif decide (w=CP) then Sy r else bif decide (w=CW)&&decide (r.length=6) then (Jh r).bind EF else none:=rfl
def Dn (x:List UInt8):Option Ct:=u5l (Xt 32 [] x)
def D2 :List (List UInt8)->List B5->B5->List (List UInt8)->Option (List B5×List (List UInt8))
 | [],pre,q,ps=>some (pre++[q],ps)
 | x::l,pre,q,ps=>match Dn x with
  | none=>none
  | some (.nod p t x y z)=>D2 l (pre++[q]) ⟨[],0,t,x,y,z,[]⟩ (ps++[p])
  | some (.box r)=>D2 l pre {q with s:=q.s++[r]} ps
def D1 :List (List UInt8)->Option (List B5×List (List UInt8))
 | []=>some ([],[])
 | x::l=>match Dn x with
  | some (.nod p t x y z)=>D2 l [] ⟨[],0,t,x,y,z,[]⟩ [p]
  | _=>none
def Kr (ps:List (List UInt8)) (p:List UInt8):Nat->Nat->Option Nat
 | 0,_=>none
 | k+1,j=>bif rd ps j == p then some j else Kr ps p k (j+1)
def Er (ps:List (List UInt8)) (i:Nat):Option (Int×List UInt8):=
 let c:=Jz (rd ps i)
 bif decide (c.length=1) then some (-1,rd c 0) else match Kr ps (GJ c.dropLast) i 0 with
  | none=>none
  | some k=>some ((k:Int),rd c (c.length - 1))
def Wd (ps:List (List UInt8)):Nat->Nat->List B5->Option (List B5)
 | 0,_,l=>some l
 | k+1,i,l=>match Er ps i with
  | none=>none
  | some (a,n)=>Wd ps k (i+1) (l.set i {rd l i with n:=n,a:=a})
def DC (ls:List (List UInt8)):Nat:=(ls.filter fun x=>x.take 5 == Ei).length
def EX :Option (List B5)->List B5×Int
 | none=>([],6)
 | some m=>bif Un m != 0 then ([],Un m) else (m,0)
theorem Rg {m:List B5} (g:Un m=0):EX (some m)=(m,0):=by show (bif Un m != 0 then _ else _)=_;rw [Jd g];rfl
theorem v5n {m:List B5} (g:Un m≠0):EX (some m)=([],Un m):=by show (bif Un m != 0 then _ else _)=_;rw [Qu g];rfl
def Fi :Option (List B5×List (List UInt8))->List B5×Int
 | none=>([],12)
 | some (l,ps)=>EX (Wd ps l.length 0 l)
def Dj (s:List UInt8):List B5×Int:=bif decide (60000<s.length)||decide (200<DC (Xt 10 [] s)) then ([],4) else Fi ((ER s).bind D1)
def Xe (s:List UInt8):List B5:=(Dj s).1
def Qj (s:List UInt8):Int:=(Dj s).2
def Ia (s:List UInt8):Bool:=decide (s.length<=100000)
def GM (ok:Bool) (L:List B5) (e:Int):List B3:=bif ok then [.dat L.length (Zz L),.int .i64 e] else [.nils,.int .i64 e]
def Dk (s:List UInt8):List B3:=GM (decide ((Dj s).2=0)) (Dj s).1 (Dj s).2
def Nc (o:Option (List B5×List (List UInt8))):List B3:=GM (decide ((Fi o).2=0)) (Fi o).1 (Fi o).2
def GL (o:Option (List B5)):List B3:=match o with
 | none=>[.nils,.int .i64 6]
 | some m=>bif Un m != 0 then [.nils,.int .i64 (Un m)] else [.dat m.length (Zz m),.int .i64 0]
theorem j2d (l:List B5) (ps:List (List UInt8)):GL (Wd ps l.length 0 l)=Nc (some (l,ps)):=by
 show GL (Wd ps l.length 0 l)=GM (decide ((EX (Wd ps l.length 0 l)).2=0)) (EX (Wd ps l.length 0 l)).1 (EX (Wd ps l.length 0 l)).2;cases Wd ps l.length 0 l with
 | none=>rfl
 | some m=>
  show (bif Un m != 0 then _ else _)=_;by_cases g:Un m=0
  .rw [Rg g,Jd g];rfl
  .rw [v5n g,Qu g];show _=GM (decide (Un m=0)) [] (Un m);rw [Ai g];rfl
theorem u2g (s:List UInt8):Qj s≠0->Xe s=[]:=by
 unfold Qj Xe Dj;cases decide (60000<s.length)||decide (200<DC (Xt 10 [] s)) with
 | true=>exact fun _=>rfl
 | false=>
  rw [Ab];cases (ER s).bind D1 with
  | none=>exact fun _=>rfl
  | some q=>
   obtain ⟨l,ps⟩:=q;show (EX (Wd ps l.length 0 l)).2≠0->(EX (Wd ps l.length 0 l)).1=[];cases Wd ps l.length 0 l with
   | none=>exact fun _=>rfl
   | some m=>
    by_cases g:Un m=0
    .rw [Rg g];exact fun h=>absurd rfl h
    .rw [v5n g];exact fun _=>rfl
theorem j2a (s:List UInt8) (ρ:B7) (u:Value) (h:Zr ρ (Js (Dk s)) u):Zr ρ (.tup [.dat (Xe s).length (Zz (Xe s)),.int .i64 (Qj s)]) u:=by
 unfold Dk at h;by_cases g:(Dj s).2=0
 .rw [Aa g] at h;exact h
 .rw [Ai g] at h;rw [u2g s g];exact Gn (.cons (Gv B5) (Ci.refl _)) ρ u h
theorem j1z (s:List UInt8):pf 5 (Js (Dk s))=true:=by unfold Dk GM;cases decide ((Dj s).2=0) <;> rfl
theorem j2b {s:List UInt8} (h: ¬60000<s.length) (h2: ¬200<DC (Xt 10 [] s)):Dk s=Nc ((ER s).bind D1):=by unfold Dk Nc Dj;rw [Ai h,Ai h2];rfl
section
attribute [local irreducible] Un Yk
-- h2: append to (.dat (rd bY (0 + (Int.toNat (wrap .i64 ((((bY.length + 1) : Nat) : Int) - 1))))).s.length (Zz (rd bY (0 + (Int.toNat (wrap .i64 ((((bY.length + 1) : Nat) : Int) - 1))))).s)) (choices [true, true, true, true, false, false, false, false, false])
-- h2: append to (.dat (rd bY (0 + (Int.toNat (wrap .i64 ((((bY.length + 1) : Nat) : Int) - 1))))).s.length (Zz (rd bY (0 + (Int.toNat (wrap .i64 ((((bY.length + 1) : Nat) : Int) - 1))))).s)) (choices [true, true, true, false, false, false, false, false])
-- h2: append to (.dat (rd bY (0 + (Int.toNat (wrap .i64 ((((bY.length + 1) : Nat) : Int) - 1))))).s.length (Zz (rd bY (0 + (Int.toNat (wrap .i64 ((((bY.length + 1) : Nat) : Int) - 1))))).s)) (choices [true, true, false, false, false, false, false])
-- h2: append to (.dat (rd bY (0 + (Int.toNat (wrap .i64 ((((bY.length + 1) : Nat) : Int) - 1))))).s.length (Zz (rd bY (0 + (Int.toNat (wrap .i64 ((((bY.length + 1) : Nat) : Int) - 1))))).s)) (choices [true, false, false, false, false, false])
end
abbrev eF (σ:Type):Xj σ:=.ret [.nils,.int .i64 12]
theorem IQ (a b:List UInt8):(a == b)=decide (a=b):=by rw [AS,AU,Ak]
abbrev GB (t a b c:Int) (sol:List R6):B5:=B5.mk ([]:List UInt8) 0 t a b c sol
def Du {σ:Type} (Kn:List UInt8->Int->Int->Int->Int->Xj σ) (Kb:R6->Xj σ):Option Ct->Xj σ
 | none=>eF σ
 | some (.nod p t x y z)=>Kn p t x y z
 | some (.box r)=>Kb r
theorem y8e (ps:List (List UInt8)) (p:List UInt8): ∀k j,Kr ps p (k+1) j=match Kr ps p k j with
  | some x=>some x
  | none=>bif rd ps (j+k) == p then some (j+k) else none
 | 0,j=>rfl
 | k+1,j=>by have e1:Kr ps p (k+1+1) j=bif rd ps j == p then some j else Kr ps p (k+1) (j+1):=rfl;have e2:Kr ps p (k+1) j=bif rd ps j == p then some j else Kr ps p k (j+1):=rfl;rw [e1,e2,y8e ps p k (j+1),show j+1+k=j+(k+1) by omega];cases rd ps j == p <;> rfl
theorem j5u {d:List UInt8} (h:Ge d=true):d.length<=400:=by unfold Ge EP at h;simp only [Ad,Ak] at h;omega
theorem j2s {s:List UInt8} (h:Vw s=true):s.length<=500:=by
 unfold Vw at h;rw [Ad] at h;obtain ⟨h1,h2⟩:=h;have hn:(Xf s [91]).length <=40:=by unfold Cd at h1;rw [Ad,Ad,Ak,Ak] at h1;exact h1.2.1
 unfold Xf at hn;unfold Je C7 Zu Wr at h2;by_cases g:0<=C9 s [91]
 .rw [Aa g,Af,Af] at h2;rw [Aa g,Af,Bl] at hn;rw [Ad] at h2;obtain ⟨k1,k2⟩:=h2;rw [k1,Af] at k2;have hd:((s.drop ((C9 s [91]).toNat +1)).take ((s.drop ((C9 s [91]).toNat +1)).length - ([93]:List UInt8).length)).length <=400:=by generalize (s.drop ((C9 s [91]).toNat +1)).take ((s.drop ((C9 s [91]).toNat +1)).length - ([93]:List UInt8).length)=d at k2;exact j5u k2
  rw [Bl,Bk,AJ] at hd;omega
 .rw [Ai g,Ab] at hn;omega
def JD (l:List B5):Prop:= ∀x∈l,x.n.length<=500/\0<=x.t
theorem v3n {l:List B5} (h:JD l) {i:Nat} {x:B5} (hx:x.n.length<=500/\0<=x.t):JD (l.set i x):=fun y hy=>by
 rcases List.mem_or_eq_of_mem_set hy with h1 | h1
 .exact h y h1
 .rw [h1];exact hx
theorem w5c {l:List B5} (h:JD l) (hl:l.length<=1000000):Yk l=true:=by unfold Yk;rw [Aa hl,Ar];exact Ax.2 fun x hx=>Aa (h x hx).1
def Fm (p:List UInt8):Prop:=p≠ []/\C6 p=0/\p.length<=1000000
theorem Ma {p:List UInt8} (h:Fm p):1<=(Jz p).length /\(Jz p).length <=40/\ ∀q∈Jz p,q.length<=500:=by
 obtain ⟨h0,h1,h2⟩:=h;have hc:Jz p=Xt 47 [] p:=by unfold Jz;rw [IQ p [],Ai h0];rfl
 have hne:=IY 47 p [];have fK:1<=(Jz p).length :=by
  rw [hc];cases hq:Xt 47 [] p with
  | nil=>exact absurd hq hne
  | cons a l=>rw [At];omega
 unfold C6 at h1;by_cases g1:4000<p.length
 .rw [Aa g1] at h1;cases h1
 .rw [Ai g1,Ab] at h1;by_cases g2:40<(Jz p).length
  .rw [Aa g2] at h1;cases h1
  .rw [Ai g2,Ab] at h1;cases g3:(Jz p).all Vw with
   | false=>rw [g3] at h1;cases h1
   | true=>exact ⟨fK,by omega,fun q hq=>j2s (Ax.1 g3 q hq)⟩
theorem Ft {α:Type} [Xu α] {l:List α} {i:Nat} (h:i<l.length):rd l i∈l:=by rw [Wb h];exact A3 h
theorem x4x {ps:List (List UInt8)} {i:Nat} (h:(Jz (rd ps i)).length =1):Er ps i=some (-1,rd (Jz (rd ps i)) ((Jz (rd ps i)).length - 1)):=by unfold Er;simp only [h];rfl
theorem x4w {ps:List (List UInt8)} {i:Nat} (h:(Jz (rd ps i)).length ≠1):Er ps i=match Kr ps (GJ (Jz (rd ps i)).dropLast) i 0 with
  | none=>none
  | some k=>some ((k:Int),rd (Jz (rd ps i)) ((Jz (rd ps i)).length - 1)):=by
 unfold Er;simp only [];rw [Ai h];rfl
theorem Yl {x p:List UInt8} {t a b c:Int} (h:Dn x=some (.nod p t a b c)):(x.length<=1000000->Fm p)/\0<=t:=by
 unfold Dn at h;have hpc: ∀p,p∈Xt 32 [] x->p.length<=x.length:=fun p hp=>by have:=Ka 32 x [] p hp;simpa using this
 cases hw:Xt 32 [] x with
 | nil=>rw [hw] at h;cases h
 | cons w r=>
  rw [hw,Qq] at h;cases g:decide (w=CP) with
  | false=>
   rw [g,Ab] at h;exfalso;cases g2:decide (w=CW)&&decide (r.length=6) with
   | false=>rw [g2] at h;cases h
   | true=>
    rw [g2,Af] at h;cases hn:Jh r with
    | none=>rw [hn] at h;cases h
    | some L=>
     rw [hn] at h;have h:EF L=some (.nod p t a b c):=h;unfold EF at h;split at h
     .injection h with h;cases h
     .cases h
  | true=>
   rw [g,Af] at h
   match r,hw with
   | [],_=>cases h
   | u ::q,hw=>
    have h:(bif decide (q.length=4)&&(!decide (u=[])&&decide (C6 u=0)) then (Jh q).bind (D8 u) else none)=some (.nod p t a b c):=h;cases g2:decide (q.length=4)&&(!decide (u=[])&&decide (C6 u=0)) with
    | false=>rw [g2] at h;cases h
    | true=>
     rw [g2,Af] at h;cases hn:Jh q with
     | none=>rw [hn] at h;cases h
     | some L=>
      rw [hn] at h;have h:D8 u L=some (.nod p t a b c):=h;unfold D8 at h;split at h
      .rename_i t' x' y' z' _;cases g3:decide (0<=t')&&decide (t'<=23) with
       | false=>rw [g3] at h;cases h
       | true=>rw [g3,Af] at h;injection h with h;injection h with e1 e2;subst e1;subst e2;simp only [Ad,Ak,Be,AY] at g2 g3;exact ⟨fun hx=>⟨g2.2.1,g2.2.2,by have:=hpc u (by rw [hw];simp);omega⟩,g3.1⟩
      .cases h
theorem v0b (x:List UInt8) (l:List (List UInt8)):DC (x::l)=(bif x.take 5 == Ei then 1 else 0)+DC l:=by
 unfold DC;rw [List.filter_cons];cases x.take 5 == Ei with
 | true=>rw [AG rfl,At,Af];omega
 | false=>rw [Az (by simp),Ab];omega
theorem u2z : ∀l:List (List UInt8),DC l<=l.length:=fun l=>List.length_filter_le _ _
theorem v3u :Un ([]:List B5)=0:=rfl
def OM :List B3->Option (B3×Bool)
 | [.str s]=>some (.tup [.dat (Xe s).length (Zz (Xe s)),.int .i64 (Qj s)],Ia s)
 | _=>none
theorem Mf {s:List UInt8} {vs:List B3} (h:vs=Dk s\/(vs=[.nils,.int .i64 0]/\Dj s=([],0))) (ρ:B7) (u:Value) (hu:Zr ρ (Js vs) u):Zr ρ (.tup [.dat (Xe s).length (Zz (Xe s)),.int .i64 (Qj s)]) u:=by
 rcases h with rfl | ⟨rfl,h2⟩
 .exact j2a s ρ u hu
 .unfold Xe Qj;rw [h2];exact Gn (.cons (Gv B5) (Ci.refl _)) ρ u hu
theorem Me {s:List UInt8} {vs:List B3} (h:vs=Dk s\/(vs=[.nils,.int .i64 0]/\Dj s=([],0))):pf 5 (Js vs)=true:=by
 rcases h with rfl | ⟨rfl,_⟩
 .exact j1z s
 .rfl
end Go.Am
end
