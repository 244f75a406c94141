/- A part of a proof: several texts in one. -/
import Derived.Test.YthnnmgkacjjpeaaGreatDoorNc4
set_option maxRecDepth 1000000
set_option maxHeartbeats 8000000
set_option linter.unusedVariables false
set_option linter.unusedSimpArgs false
noncomputable section
namespace Go.Am
open IntKind (wrap)
open Go.Proofs.Tryz
open Go.Proofs Go.Lib Go.Sort
def CY (l:List B4):Nat->Int->List (List UInt8)
 | 0,_=>[]
 | k+1,i=>bif decide (0<=i) then (rd l i.toNat).n ::CY l k (rd l i.toNat).a else []
def FH (l:List B4) (i:Nat):Bool:=(List.range (i+1)).all fun j=>decide (-1<=(rd l j).a)&&decide ((rd l j).a <(j:Int))
def Xa (l:List B4) (i:Int):List UInt8:=Lib.join (CY l (i.toNat+1) i).reverse [47]
def Wi (l:List B4) (i:Int):Bool:=decide (0<=i/\i<(l.length:Int))&&(decide (l.length<=1000)&&(FH l i.toNat&&l.all fun x=>decide (x.n.length<=500)))
theorem Kq {l:List B4} {i j:Nat} (h:FH l i=true) (hj:j<=i): -1<=(rd l j).a /\(rd l j).a <(j:Int):=by have:=Ay.1 h j (AZ.2 (by omega));rwa [Ad,An,An] at this
theorem u2g {l:List B4} {i j:Nat} (h:FH l i=true) (hj:j<=i):FH l j=true:=Ay.2 fun k hk=>by have:=Kq h (show k<=i by have:=AZ.1 hk;omega);rw [Ad,An,An];exact this
theorem LV (l:List B4) (k:Nat) {i:Int} (h: ¬0<=i):CY l k i=[]:=by
 cases k with
 | zero=>rfl
 | succ k=>unfold CY;rw [Ah h];rfl
theorem w4o {l:List B4} {t:Nat} (ht:FH l t=true): ∀(k m:Nat) (i:Int),i<=(t:Int)->i<(k:Int)->i<(m:Int)->CY l k i=CY l m i
 | 0,m,i,h0,h1,h2=>by rw [LV l 0 (by omega),LV l m (by omega)]
 | k+1,0,i,h0,h1,h2=>by rw [LV l (k+1) (by omega),LV l 0 (by omega)]
 | k+1,m+1,i,h0,h1,h2=>by
  unfold CY;by_cases h:0<=i
  .obtain ⟨j,rfl⟩: ∃j:Nat,i=(j:Int):=⟨i.toNat,by omega⟩
   have hb:=Kq ht (show j<=t by omega);rw [Aa h,Af,Af,Zj,w4o ht k m (rd l j).a (by omega) (by omega) (by omega)]
  .rw [Ah h];rfl
theorem x9b (l:List B4): ∀(k:Nat) (i:Int),(CY l k i).length <=k
 | 0,i=>Ak _
 | k+1,i=>by
  unfold CY;cases decide (0<=i) with
  | true=>rw [Af,Au];have:=x9b l k (rd l i.toNat).a;omega
  | false=>exact AG _
theorem RQ {l:List B4} (h:(l.all fun x=>decide (x.n.length<=500))=true) (j:Nat):(rd l j).n.length <=500:=by
 by_cases hj:j<l.length
 .rw [Wf hj];exact Av (Ay.1 h _ (A0 hj))
 .have:rd l j=Xk.d:=by simp [rd,List.getD,List.getElem?_eq_none (show l.length<=j by omega)]
  rw [this];exact AG _
theorem x5g {l:List B4} (h:(l.all fun x=>decide (x.n.length<=500))=true): ∀(k:Nat) (i:Int) (p:List UInt8),p∈CY l k i->p.length<=500
 | 0,i,p,hp=>by cases hp
 | k+1,i,p,hp=>by
  unfold CY at hp;cases g:decide (0<=i) with
  | true=>
   rw [g,Af] at hp;cases hp with
   | head=>exact RQ h _
   | tail _ hp=>exact x5g h k _ p hp
  | false=>rw [g] at hp;cases hp
theorem v6b (m:Nat): ∀(L:List (List UInt8)),(∀p∈L,p.length<=m)->Lib.lens L<=m*L.length
 | [],h=>by simp [Lib.lens]
 | x::r,h=>by
  have h1:=h x AS;have h2:=v6b m r fun p hp=>h p (AO _ hp);have e:Lib.lens (x::r)=x.length+Lib.lens r:=by simp [Lib.lens]
  rw [e,Au,Nat.mul_add];omega
theorem j2w (L:List (List UInt8)) (h: ∀p∈L,p.length<=500):(Lib.join L [47]).length <=501*L.length:=by
 cases L with
 | nil=>simp [Lib.join_nil]
 | cons x r=>have:=v6b 500 (x::r) h;rw [Lib.join_length];have e:(x::r).length =r.length+1:=rfl;rw [e] at this ⊢;show 1*r.length+_<=_;omega
theorem PN {l:List B4} {i:Int} (h:Wi l i=true):(Xa l i).length <=1000000:=by unfold Wi at h;simp only [Ad,An] at h;obtain ⟨h1,h2,h3,h4⟩:=h;have:=j2w (CY l (i.toNat+1) i).reverse fun p hp=>x5g h4 _ _ p (BZ.1 hp);have hl:=x9b l (i.toNat+1) i;rw [List.length_reverse] at this;unfold Xa;omega
theorem u7c {l:List B4} {x:Int} {t:Nat} (ht:FH l t=true) (hl:l.length<=1000) {R:Xu GE}: ∀(m:Nat) (i:Int) (out:List (List UInt8)),i<(m:Int)->i<=(t:Int)->i<(l.length:Int)->out.length+m<=2000->
  (∃N,Yw (FX l x) N (.to (.h1 (out++CY l m i) 0 (wrap .i64 (((out++CY l m i).length :Int) - 1))))=R)-> ∃N,Yw (FX l x) N (.to (.h0 out i))=R
 | m,i,out,hm,hit,hil,ho,⟨N,hR⟩=>by
  by_cases h:0<=i
  .match m with
   | 0=>omega
   | m+1=>
    obtain ⟨j,rfl⟩: ∃j:Nat,i=(j:Int):=⟨i.toNat,by omega⟩
    have hb:=Kq ht (show j<=t by omega);have e:FX l x (.h0 out (j:Int))=.to (.h0 (out++[(rd l j).n]) (rd l j).a):=by unfold FX;simp only [Zj];rw [EB h,Af,Zp (P9 (by omega)),Ap,Zp (Ym (by omega))]
    have hu:CY l (m+1) (j:Int)=(rd l j).n ::CY l m (rd l j).a :=(by rw [CY,Aa h,Af,Zj]);rw [hu,show out++(rd l j).n ::CY l m (rd l j).a =(out++[(rd l j).n])++CY l m (rd l j).a by rw [AH];rfl] at hR;obtain ⟨M,hM⟩:=u7c ht hl m (rd l j).a (out++[(rd l j).n]) (by omega) (by omega) (by omega) (by rw [As,AJ];omega) ⟨N,hR⟩;exact ⟨M+1,by rw [Zw,e,hM]⟩
  .refine ⟨N+1,?_⟩;rw [LV l m h,AL] at hR;rw [Zw,<-hR]
   congr 1
   unfold FX;simp only [];rw [FY h];rfl
theorem v4g {α:Type} [Xk α] {L:List α} {i:Nat} {v:α} (hi:i<L.length) (k:Nat):rd (L.set i v) k=bif Nat.beq i k then v else rd L k:=by
 unfold rd;rw [Bb,Bb,List.getElem?_set];cases g:Nat.beq i k with
 | true=>obtain rfl:=Ai g;rw [AF rfl,AF hi];rfl
 | false=>
  have:i≠k:=fun e=>by rw [e,BC] at g;cases g
  rw [Az this];rfl
theorem j1d {L M:List (List UInt8)} (hl:M.length=L.length) (h: ∀k,k<L.length->rd M k=rd L (L.length - 1 - k)):M=L.reverse:=by apply Bp (by rw [List.length_reverse,hl]);intro k h1 h2;have:=h k (by omega);rw [Wf h1,Wf (show L.length - 1 - k<L.length by omega)] at this;rw [this,List.getElem_reverse]
theorem u7b {l:List B4} {x:Int} {L:List (List UInt8)} (hL:L.length<=2000) (hj:PU L.reverse [47]=true): ∀(d i j:Nat) (M:List (List UInt8)),M.length=L.length->i+j+1=L.length+0\/(L.length=0/\i=0/\j=0)->j - i<=d->
  (∀k,k<L.length->rd M k=bif decide (k<i)||decide (j<k) then rd L (L.length - 1 - k) else rd L k)->
  ∃N,Yw (FX l x) N (.to (.h1 M (i:Int) (wrap .i64 ((L.length:Int) - 1 - (i:Int)))))=.ret [.str (Nc L.reverse [47])]
 | d, i,j,M,hM,hij,hd,hk=>by
  have wj:L.length≠0->wrap .i64 ((L.length:Int) - 1 - (i:Int))=(j:Int):=fun h0=>by rw [Zm (by omega)];omega
  by_cases h:i<j
  .have h0:L.length≠0:=by omega
   match d with
   | 0=>omega
   | d +1=>
    have w2:wrap .i64 ((i:Int)+1)=((i+1:Nat):Int):=Zm (by omega);have w3:wrap .i64 ((j:Int) - 1)=wrap .i64 ((L.length:Int) - 1 - ((i+1:Nat):Int)):=by congr 1;omega
    have e:FX l x (.h1 M (i:Int) (wrap .i64 ((L.length:Int) - 1 - (i:Int))))=.to (.h1 ((M.set i (rd M j)).set j (rd M i)) ((i+1:Nat):Int) (wrap .i64 ((L.length:Int) - 1 - ((i+1:Nat):Int)))):=by rw [wj h0];unfold FX;simp only [Zj,w2,w3,Al];rw [Yb (by omega),Af,Ap,Ap,Zp (Ym (by omega)),Zp (Xe (by omega)),Zp (Ym (by omega)),Zp (Xe (by omega))]
    obtain ⟨N,hN⟩:=u7b (l:=l) (x:=x) hL hj d (i+1) (j - 1) ((M.set i (rd M j)).set j (rd M i)) (by rw [Bo,Bo,hM]) (by omega) (by omega) fun k hkl=>by
     rw [v4g (by rw [Bo];omega),v4g (by omega)];by_cases g1:j=k
     .subst g1;rw [BC,Af,hk i (by omega),Ah (show ¬i<i by omega),Ah (show ¬j<i by omega),Aa (show j - 1<j by omega),Bool.or_true];show rd L i=rd L (L.length - 1 - j)
      congr 1;omega
     .rw [show Nat.beq j k=false from by cases g:Nat.beq j k with
       | false=>rfl
       | true=>exact absurd (Ai g) g1,Ab]
      by_cases g2:i=k
      .subst g2;rw [BC,Af,hk j (by omega),Ah (show ¬j<i by omega),Ah (show ¬j<j by omega),Aa (show i<i+1 by omega)];show rd L j=rd L (L.length - 1 - i)
       congr 1;omega
      .rw [show Nat.beq i k=false from by cases g:Nat.beq i k with
        | false=>rfl
        | true=>exact absurd (Ai g) g2,Ab,hk k hkl,show decide (k<i+1)=decide (k<i) by rw [AR,An,An];omega,show decide (j - 1<k)=decide (j<k) by rw [AR,An,An];omega]
    exact ⟨N+1,by rw [Zw,e,hN]⟩
  .have hrev:M=L.reverse:=j1d hM fun k hkl=>by
    rw [hk k hkl];cases g:decide (k<i)||decide (j<k) with
    | true=>rfl
    | false=>
     rw [AT,AX,AX] at g;show rd L k=_
     congr 1;omega
   subst hrev;refine ⟨1,?_⟩;rw [Zw];have hlt: ¬(i:Int)<wrap .i64 ((L.length:Int) - 1 - (i:Int)):=by rw [Zm (by omega)];omega
   unfold FX;simp only [];rw [Xz hlt,Ab,Zp (by rw [Ad,Ad];exact ⟨rfl,Aa (by omega),Xr _⟩),Uq,Zp hj];rfl
theorem j1n (l:List B4) (i:Int) (h:Wi l i=true): ∃N,Yw (FX l i) N (VJ l i)=.ret [.str (Xa l i)]:=by
 have hp:=PN h;unfold Wi at h;simp only [Ad,An] at h;obtain ⟨h1,h2,h3,h4⟩:=h;have eK:=x9b l (i.toNat+1) i;have hjo:PU (CY l (i.toNat+1) i).reverse [47]=true:=by unfold PU;rw [Ad,An,An,List.length_reverse];exact ⟨by omega,hp⟩
 unfold VJ;refine u7c h3 h2 (i.toNat+1) i [] (by omega) (by omega) (by omega) (by rw [AI];omega) ?_;rw [A6];have:=u7b (l:=l) (x:=i) (L:=CY l (i.toNat+1) i) (by omega) hjo ((CY l (i.toNat+1) i).length) 0 ((CY l (i.toNat+1) i).length - 1) (CY l (i.toNat+1) i) rfl (by omega) (by omega) fun k hk=>by rw [Ah (show ¬k<0 by omega),Ah (show ¬(CY l (i.toNat+1) i).length - 1<k by omega)];rfl
 rw [show ((CY l (i.toNat+1) i).length :Int) - 1 - ((0:Nat):Int)=((CY l (i.toNat+1) i).length :Int) - 1 by omega] at this;exact this
def FN :List B1->Option (B1×Bool)
 | [a0,.int .i64 i]=>match C7 B4 a0 with
  | some (L,g,n)=>some (.str (Xa L i),CQ B4 n g&&Wi L i)
  | _=>none
 | _=>none
theorem j4i {S:B3} (hS:Zv prog S):Zv prog (S.with Sh FN):=CP hS (by kernel_rfl) fun args v h=>by
 unfold FN at h;split at h
 .rename_i a0 i;split at h
  .rename_i L g n e0;simp only [Ae,Ac,Ad] at h;obtain ⟨rfl,ho0,hw⟩:=h;obtain ⟨N,hN⟩:=j1n L i hw;exact ⟨_,_,(.cons (Xf e0 ho0) (.cons (.refl _) .nil)),rfl,u1q L i N _ hN,3,rfl⟩
  .cases h
 .cases h
theorem u3h (sep x p:List UInt8): ∀R:List (List UInt8),Lib.join (R++[x,p]) sep=Lib.join (R++[x++sep++p]) sep
 | []=>by show Lib.join [x,p] sep=Lib.join [x++sep++p] sep;rw [Lib.join_one,Lib.join_cons];simp [Lib.joinTail]
 | y::R=>by rw [A3,A3,Lib.join_cons,Lib.join_cons];simp [Lib.joinTail]
theorem u6i {l:List B4} {x:Int} {t:Nat} (ht:FH l t=true) (hl:l.length<=1000) (hn:(l.all fun x=>decide (x.n.length<=500))=true): ∀(m:Nat) (i:Int) (p:List UInt8),i<(m:Int)->i<=(t:Int)->i<(l.length:Int)->m<=1000->p.length+501*m<=600000->
  ∃N,Yw (LQ l x) N (.to (.h0 p i))=.ret [.str (Lib.join ((CY l m i).reverse ++[p]) [47])]
 | m,i,p,hm,hit,hil,hm2,hp=>by
  by_cases h:0<=i
  .match m with
   | 0=>omega
   | m+1=>
    obtain ⟨j,rfl⟩: ∃j:Nat,i=(j:Int):=⟨i.toNat,by omega⟩
    have hb:=Kq ht (show j<=t by omega);have hnl:=RQ hn j;have e:LQ l x (.h0 p (j:Int))=.to (.h0 (((rd l j).n ++[47])++p) (rd l j).a):=by unfold LQ;simp only [Zj];rw [EB h,Af,Zp (SA (by show _+1<=_;omega)),Zp (SA (by rw [As];show _+1+_<=_;omega)),Ap,Zp (Ym (by omega))]
    have hu:CY l (m+1) (j:Int)=(rd l j).n ::CY l m (rd l j).a :=(by rw [CY,Aa h,Af,Zj]);obtain ⟨N,hN⟩:=u6i (x:=x) ht hl hn m (rd l j).a (((rd l j).n ++[47])++p) (by omega) (by omega) (by omega) (by omega) (by rw [As,As];show _+1+_+_<=_;omega);refine ⟨N+1,?_⟩;rw [Zw,e,hN,hu,BN,show (CY l m (rd l j).a).reverse ++[(rd l j).n]++[p]=(CY l m (rd l j).a).reverse ++[(rd l j).n,p] from AH _ _ _,u3h]
  .refine ⟨1,?_⟩;rw [Zw,LV l m h,List.reverse_nil,A6,Lib.join_one];unfold LQ;simp only [];rw [FY h];rfl
theorem j0n (l:List B4) (i:Int) (h:Wi l i=true): ∃N,Yw (LQ l i) N (VS l i)=.ret [.str (Xa l i)]:=by
 unfold Wi at h;simp only [Ad,An] at h;obtain ⟨h1,h2,h3,h4⟩:=h;obtain ⟨j,rfl⟩: ∃j:Nat,i=(j:Int):=⟨i.toNat,by omega⟩
 rw [Zj] at h3;have hb:=Kq h3 (Ak j);have hnl:=RQ h4 j;unfold VS Xa;rw [Ap,Zp (Ym h1),Zj];have hu:CY l (j+1) (j:Int)=(rd l j).n ::CY l j (rd l j).a :=by rw [CY,Aa (show (0:Int)<=(j:Int) by omega),Af,Zj]
 rw [hu,BN];exact u6i h3 h2 h4 j (rd l j).a (rd l j).n (by omega) (by omega) (by omega) (by omega) (by omega)
theorem j4b {S:B3} (hS:Zv prog S):Zv prog (S.with S6 FN):=CP hS (by kernel_rfl) fun args v h=>by
 unfold FN at h;split at h
 .rename_i a0 i;split at h
  .rename_i L g n e0;simp only [Ae,Ac,Ad] at h;obtain ⟨rfl,ho0,hw⟩:=h;obtain ⟨N,hN⟩:=j0n L i hw;exact ⟨_,_,(.cons (Xf e0 ho0) (.cons (.refl _) .nil)),rfl,u0m L i N _ hN,3,rfl⟩
  .cases h
 .cases h
def FL (x:B4):Bool:=decide (12<x.s.length)||decide (500<x.n.length)
def greZ (n:Nat):Bool:=decide (12<n)&&decide (n<=200)||decide (220<n)
def Nb (l:List B4):Bool:=(l.take 300).any FL||greZ l.length
theorem j3d (l:List B4):(bif decide ((l.length:Int)>12) then (bif decide ((l.length:Int)<=200) then (.ret [.bool true]) else (.ret [.bool (decide ((l.length:Int)>220))])) else (.ret [.bool (decide ((l.length:Int)>220))]):Xu GL)=.ret [.bool (greZ l.length)]:=by
 unfold greZ;have e:decide ((l.length:Int)>220)=decide (220<l.length):=by rw [AR,An,An];omega
 rw [e];by_cases h:12<l.length
 .rw [Xv (by omega),Aa h];by_cases h2:l.length<=200
  .rw [Wb (by omega),Aa h2];rfl
  .rw [Fj (by omega),Ah h2];rfl
 .rw [Wz (by omega),Ah h];rfl
theorem u8e (l:List B4): ∀(k i:Nat),i+k=min l.length 300-> ∃N,Yw (LJ l) N (.to (.h0 (i:Int)))=.ret [.bool (((l.take 300).drop i).any FL||greZ l.length)]
 | 0,i,h=>⟨1,by
  rw [Zw,Aw (by rw [Bk];omega)];unfold LJ;simp only [];rw [j3d];by_cases g:i<l.length
  .rw [Yb (by omega),Af,Xz (by omega)];rfl
  .rw [Xz (by omega)];rfl⟩
 | k+1,i,h=>by
  have hi:i<l.length:=by omega
  have w2:wrap .i64 ((i:Int)+1)=((i+1:Nat):Int):=Zm (by omega);have e:LJ l (.h0 (i:Int))=bif FL (rd l i) then .ret [.bool true] else .to (.h0 ((i+1:Nat):Int)):=by
   unfold LJ FL;simp only [Zj,w2];rw [Yb (by omega),Af,Yb (by omega),Af,Ap,Zp (Ym (by omega))];have e1:decide (((rd l i).s.length :Int)>12)=decide (12<(rd l i).s.length):=by rw [AR,An,An];omega
   have e2:decide (((rd l i).n.length :Int)>500)=decide (500<(rd l i).n.length):=by rw [AR,An,An];omega
   rw [e1,e2];cases decide (12<(rd l i).s.length) <;> rfl
  have hd:(l.take 300).drop i=rd l i::(l.take 300).drop (i+1):=by rw [AW (show i<(l.take 300).length by rw [Bk];omega),BM,Wf hi]
  rw [hd,B0];cases g:FL (rd l i) with
  | true=>exact ⟨1,by rw [Zw,e,g];rfl⟩
  | false=>obtain ⟨N,hN⟩:=u8e l k (i+1) (by omega);exact ⟨N+1,by rw [Zw,e,g,Ab,hN,Bg]⟩
theorem j3c (l:List B4): ∃N,Yw (LJ l) N (x4a l)=.ret [.bool (Nb l)]:=u8e l (min l.length 300) 0 (Al _)
def O1 :List B1->Option (B1×Bool)
 | [a0]=>match C7 B4 a0 with
  | some (L,g,n)=>some (.bool (Nb L),CQ B4 n g)
  | _=>none
 | _=>none
theorem j4v {S:B3} (hS:Zv prog S):Zv prog (S.with TW O1):=CP hS (by kernel_rfl) fun args v h=>by
 unfold O1 at h;split at h
 .rename_i a0;split at h
  .rename_i L g n e0;simp only [Ae,Ac] at h;obtain ⟨rfl,ho0⟩:=h;obtain ⟨N,hN⟩:=j3c L;exact ⟨_,_,(.cons (Xf e0 ho0) .nil),rfl,u3q L N _ hN,3,rfl⟩
  .cases h
 .cases h
def Tv :B3:=((Tw.with Sh FN).with S6 FN).with TW O1
theorem Qf :Zv prog Tv:=j4v (j4b (j4i Uh))
inductive IE where
def Nx (aO:Int) (bD:Int) (bE:Int) (bC:Int):IE->CE
 :=nofun
def w3b (aO:Int) (bD:Int) (bE:Int) (bC:Int):IE->Xu IE
 :=nofun
def RY (aO:Int) (bD:Int) (bE:Int) (bC:Int):Xu IE:=(bif (decide (aO>=24)) then (.ret [(.int .i64 8)]) else (bif (decide ((Cw (Cw bD bE) bC)>=(-1000000))) then (bif (!(decide ((Cv (Cv bD bE) bC)<=1000000))) then (.ret [(.int .i64 8)]) else (.ret [(.int .i64 0)])) else (.ret [(.int .i64 8)])))
theorem v0p (aO:Int) (bD:Int) (bE:Int) (bC:Int): ∀s,Wj prog (Zy prog 56) (Nx aO bD bE bC) (Nx aO bD bE bC s) (w3b aO bD bE bC s)
 :=nofun
theorem w3c (aO:Int) (bD:Int) (bE:Int) (bC:Int):Wj prog (Zy prog 56) (Nx aO bD bE bC) (Zg prog 56 [(.agg [(.int .u8 aO),(.int .i64 bD),(.int .i64 bE),(.int .i64 bC)])] true []) (RY aO bD bE bC):=(lb (fun k0=>(lr 12 56 [1,0,1,0,0] 1 9 [(2,(ii 8))] (sl Qf 23 [] (b8 [2]) b7 (CA 5 []) (tt k0 nn)))) (fun k0=>(lb (fun k1=>let a:=tt k1 (tt k0 nn);(lb (fun k2=>(lr 12 56 [1,0,1,0,0] 1 9 [(2,(ii 8))] (sl Qf 52 [] (b8 [2]) b7 (bl 13 6136) (tt k2 a)))) (fun k2=>(lr 12 3 [1,1,1,1,1,1,0] 1 9 [(2,(ii 0))] (sl Qf 53 [] (b8 [2]) b7 (bl 13 2040) (tt k2 a)))))) (fun k1=>(lr 12 56 [1,0,1,0,0] 1 9 [(2,(ii 8))] (sl Qf 52 [] (b8 [2]) b7 (bl 13 4096) (tt k1 (tt k0 nn))))))))
theorem u4c (aO:Int) (bD:Int) (bE:Int) (bC:Int) (n:Nat) (vs:List B1) (h:Yw (w3b aO bD bE bC) n (RY aO bD bE bC)=.ret vs):Js prog (Zy prog 56) (Zg prog 56 [(.agg [(.int .u8 aO),(.int .i64 bD),(.int .i64 bE),(.int .i64 bC)])] true []) vs:=by have:=Ze (v0p aO bD bE bC) n _ (w3c aO bD bE bC);rwa [h] at this
inductive He where
def M9 (aO:Int) (bD:Int) (bE:Int) (bC:Int):He->CE
 :=nofun
def w0m (aO:Int) (bD:Int) (bE:Int) (bC:Int):He->Xu He
 :=nofun
def QK (aO:Int) (bD:Int) (bE:Int) (bC:Int):Xu He:=(bif (decide (aO>=24)) then (.ret [(.int .i64 8)]) else (bif (decide (bD>=(-1000000))) then (bif (decide (bE>=(-1000000))) then (bif (decide (bC>=(-1000000))) then (bif (decide (bD<=1000000)) then (bif (decide (bE<=1000000)) then (bif (!(decide (bC<=1000000))) then (.ret [(.int .i64 8)]) else (.ret [(.int .i64 0)])) else (.ret [(.int .i64 8)])) else (.ret [(.int .i64 8)])) else (.ret [(.int .i64 8)])) else (.ret [(.int .i64 8)])) else (.ret [(.int .i64 8)])))
theorem w8q (aO:Int) (bD:Int) (bE:Int) (bC:Int): ∀s,Wj prog (Zy prog 25) (M9 aO bD bE bC) (M9 aO bD bE bC s) (w0m aO bD bE bC s)
 :=nofun
theorem w0n (aO:Int) (bD:Int) (bE:Int) (bC:Int):Wj prog (Zy prog 25) (M9 aO bD bE bC) (Zg prog 25 [(.agg [(.int .u8 aO),(.int .i64 bD),(.int .i64 bE),(.int .i64 bC)])] true []) (QK aO bD bE bC):=(lb (fun k0=>(lr 12 25 [1,0,1,0,0] 1 9 [(2,(ii 8))] (sl Qf 23 [] (b8 [2]) b7 (CA 5 []) (tt k0 nn)))) (fun k0=>(lb (fun k1=>let c:=tt k1 (tt k0 nn);(lb (fun k2=>let a:=tt k2 c;(lb (fun k3=>(lb (fun k4=>let b:=tt k4 (tt k3 a);(lb (fun k5=>(lb (fun k6=>(lr 12 25 [1,0,1,0,0] 1 9 [(2,(ii 8))] (sl Qf 64 [] (b8 [2]) b7 (bl 22 3145720) (tt k6 (tt k5 b))))) (fun k6=>(lr 12 3 [1,1,1,1,1,1,0] 1 9 [(2,(ii 0))] (sl Qf 65 [] (b8 [2]) b7 (bl 22 1048568) (tt k6 (tt k5 b))))))) (fun k5=>(lr 12 25 [1,0,1,0,0] 1 9 [(2,(ii 8))] (sl Qf 64 [] (b8 [2]) b7 (bl 22 2228216) (tt k5 b)))))) (fun k4=>(lr 12 25 [1,0,1,0,0] 1 9 [(2,(ii 8))] (sl Qf 64 [] (b8 [2]) b7 (bl 22 2113528) (tt k4 (tt k3 a))))))) (fun k3=>(lr 12 25 [1,0,1,0,0] 1 9 [(2,(ii 8))] (sl Qf 64 [] (b8 [2]) b7 (bl 22 2099192) (tt k3 a)))))) (fun k2=>(lr 12 25 [1,0,1,0,0] 1 9 [(2,(ii 8))] (sl Qf 64 [] (b8 [2]) b7 (bl 22 2097272) (tt k2 c)))))) (fun k1=>(lr 12 25 [1,0,1,0,0] 1 9 [(2,(ii 8))] (sl Qf 64 [] (b8 [2]) b7 (bl 22 2097152) (tt k1 (tt k0 nn))))))))
theorem u1a (aO:Int) (bD:Int) (bE:Int) (bC:Int) (n:Nat) (vs:List B1) (h:Yw (w0m aO bD bE bC) n (QK aO bD bE bC)=.ret vs):Js prog (Zy prog 25) (Zg prog 25 [(.agg [(.int .u8 aO),(.int .i64 bD),(.int .i64 bE),(.int .i64 bC)])] true []) vs:=by have:=Ze (w8q aO bD bE bC) n _ (w0n aO bD bE bC);rwa [h] at this
def TT (x:Int):Bool:=decide (-1000000<=x)&&decide (x<=1000000)
def QC (x y z:Int):Bool:=TT x&&(TT y&&TT z)
def Ce (t x y z:Int):Int:=bif decide (24<=t) then 8 else bif QC x y z then 0 else 8
theorem WH (x y z:Int):QC x y z=true↔(-1000000<=x/\x<=1000000)/\(-1000000<=y/\y<=1000000)/\(-1000000<=z/\z<=1000000):=by unfold QC TT;simp only [Ad,An]
theorem j3p (t x y z:Int): ∃N,Yw (w3b t x y z) N (RY t x y z)=.ret [.int .i64 (Ce t x y z)]:=⟨0,by
 show RY t x y z=_;unfold RY Ce;by_cases h:24<=t
 .rw [EB h];rfl
 .rw [FY h,Ab,Ab];cases g:QC x y z with
  | true=>have:=(WH x y z).1 g;rw [RK,RK,RJ,RJ,EB (by omega),Wb (by omega)];rfl
  | false=>
   have: ¬((-1000000<=x/\x<=1000000)/\(-1000000<=y/\y<=1000000)/\(-1000000<=z/\z<=1000000)):=fun h=>A5.1 g ((WH x y z).2 h);rw [RK,RK,RJ,RJ];by_cases h1:min (min x y) z>= -1000000
   .rw [EB h1,Af,Fj (by omega)];rfl
   .rw [FY h1];rfl⟩
theorem j1c (t x y z:Int): ∃N,Yw (w0m t x y z) N (QK t x y z)=.ret [.int .i64 (Ce t x y z)]:=⟨0,by
 show QK t x y z=_;unfold QK Ce QC TT;by_cases h:24<=t
 .rw [EB h];rfl
 .rw [FY h,Ab,Ab];show (bif decide (-1000000<=x) then _ else _)=_;have e: ∀(a b:Int),decide (a>=b)=decide (b<=a):=fun a b=>rfl;rw [e y,e z];cases decide (-1000000<=x) <;> cases decide (-1000000<=y) <;> cases decide (-1000000<=z) <;> cases decide (x<=1000000) <;> cases decide (y<=1000000) <;> cases decide (z<=1000000) <;> rfl⟩
def QD :List B1->Option (B1×Bool)
 | [.agg [.int .u8 t,.int .i64 x,.int .i64 y,.int .i64 z]]=>some (.int .i64 (Ce t x y z),true)
 | _=>none
theorem j5c {S:B3} (hS:Zv prog S):Zv prog (S.with Tf QD):=CP hS (by kernel_rfl) fun args v h=>by
 unfold QD at h;split at h
 .rename_i t x y z;simp only [Ae,Ac] at h;obtain ⟨rfl,_⟩:=h;obtain ⟨N,hN⟩:=j3p t x y z;exact ⟨_,_,.cons (.refl _) .nil,rfl,u4c t x y z N _ hN,3,rfl⟩
 .cases h
theorem j4f {S:B3} (hS:Zv prog S):Zv prog (S.with Sa QD):=CP hS (by kernel_rfl) fun args v h=>by
 unfold QD at h;split at h
 .rename_i t x y z;simp only [Ae,Ac] at h;obtain ⟨rfl,_⟩:=h;obtain ⟨N,hN⟩:=j1c t x y z;exact ⟨_,_,.cons (.refl _) .nil,rfl,u1a t x y z N _ hN,3,rfl⟩
 .cases h
def Tu :B3:=(Tv.with Tf QD).with Sa QD
theorem Wa :Zv prog Tu:=j4f (j5c Qf)
inductive HZ where
 | h0 (v15:Int)
 | h1 (v29:Int) (aW:List (List UInt8×Bool))
def MT (l0:List B4):HZ->CE
 | .h0 v15=>⟨⟨69,0,true⟩,none,(Zf prog 33 [1,1,0,1,0,0] 0),none,(Zy prog 9),⟨Ye [(0,(.dat l0.length (Zz l0))),(13,(.dat l0.length (Zz l0))),(14,(ii (l0.length:Int))),(15,(ii v15))],Xt [] 0,0,[],true⟩,[],.leaf⟩
 | .h1 v29 aW=>⟨⟨69,0,true⟩,none,(Zf prog 33 [1,1,1,1,0,1,0,0] 0),none,(Zy prog 9),⟨Ye [(0,(.dat l0.length (Zz l0))),(6,(.mapr 0)),(27,(.dat l0.length (Zz l0))),(28,(ii (l0.length:Int))),(29,(ii v29))],Xt [⟨[(.obj (.mb aW))],121,none⟩] 0,1,[],true⟩,[],.leaf⟩
def JA :List (Option (List Nat)):=[some [0,13,14,15]]
def JC :List (Option (List Nat)):=[]
def Iz :List (Option (List Nat)):=[some [0,6,27,28,29]]
def JB :List (Option (List Nat)):=[]
def Qp (l0:List B4):HZ->Xu HZ
 | .h0 v15=>(bif (decide (v15<(l0.length:Int))) then (bif ((decide (0<=v15/\v15<(l0.length:Int)))&&true) then (bif (x9o (B2 (rd l0 v15.toNat).s)) then (bif ((Vv (B2 (rd l0 v15.toNat).s)) != 0) then (.ret [(.int .i64 (Vv (B2 (rd l0 v15.toNat).s)))]) else (.to (.h0 (wrap .i64 (v15+1))))) else .stuck) else .stuck) else (.to (.h1 0 ([]:List (List UInt8×Bool)))))
 | .h1 v29 aW=>(bif (decide (v29<(l0.length:Int))) then (bif ((decide (0<=v29/\v29<(l0.length:Int)))&&true) then (bif (Uk (rd l0 v29.toNat).n) then (bif (!(Cb (rd l0 v29.toNat).n)) then (.ret [(.int .i64 8)]) else (bif (decide ((rd l0 v29.toNat).a <(-1))) then (.ret [(.int .i64 8)]) else (bif (decide ((rd l0 v29.toNat).a >=v29)) then (.ret [(.int .i64 8)]) else (bif ((Ce (rd l0 v29.toNat).t (rd l0 v29.toNat).x (rd l0 v29.toNat).y (rd l0 v29.toNat).z) != 0) then (.ret [(.int .i64 8)]) else (bif (Wi (B2 l0) v29) then (bif (getK false aW (Xa (B2 l0) v29)) then (.ret [(.int .i64 8)]) else (bif (Up (Xa (B2 l0) v29)) then (bif ((C4 (Xa (B2 l0) v29)) != 0) then (.ret [(.int .i64 8)]) else (.to (.h1 (wrap .i64 (v29+1)) (Cq aW (Xa (B2 l0) v29) true)))) else .stuck)) else .stuck))))) else .stuck) else .stuck) else (.ret [(.int .i64 0)]))
def VX (l0:List B4):Xu HZ:=(bif (decide ((l0.length:Int)>200)) then (.ret [(.int .i64 4)]) else (.to (.h0 0)))
theorem w7w (l0:List B4): ∀s,Wj prog (Zy prog 33) (MT l0) (MT l0 s) (Qp l0 s)
 | .h0 v15=>(lb (fun k0=>(lo fun aG=>(lo fun aU=>let a:=ww aG (tt k0 nn);(lb (fun k1=>(lr 69 33 [1,1,0,1,0,0,1,1,0,0,1,1,1,0,0] 1 9 [(2,(ii (Vv (B2 (rd l0 (tn v15)).s))))] (sl Wa 34 [] (b8 [2]) b7 (bl 2 3) (tt k1 (pp (pp (xI R6 (rd l0 (tn v15)).s.length (Zz (rd l0 (tn v15)).s)) (xw aU)) a))))) (fun k1=>(sl Wa 36 [] ⟨[],[],JA,JC⟩ b7 (bl 2 1) (tt k1 (pp (pp (xI R6 (rd l0 (tn v15)).s.length (Zz (rd l0 (tn v15)).s)) (xw aU)) a)))))))) (fun k0=>(sl Wa 21 [] ⟨[0],[],Iz,JB⟩ b7 [false] (tt k0 nn))))
 | .h1 v29 aW=>(lb (fun k0=>(lo fun aG=>(lo fun aU=>let b:=ww aU (ww aG (tt k0 nn));(lb (fun k1=>(lr 69 33 [1,1,1,1,0,1,0,0,1,1,0,0,1,0,1,0,0] 1 9 [(2,(ii 8))] (sl Wa 48 [] (b8 [2]) b7 (CA 13 []) (tt k1 b)))) (fun k1=>(lb (fun k2=>(lr 69 33 [1,1,1,1,0,1,0,0,1,1,0,0,1,0,1,0,0] 1 9 [(2,(ii 8))] (sl Wa 48 [] (b8 [2]) b7 (bl 13 8177) (tt k2 (tt k1 b))))) (fun k2=>let c:=tt k2 (tt k1 b);(lb (fun k3=>(lr 69 33 [1,1,1,1,0,1,0,0,1,1,0,0,1,0,1,0,0] 1 9 [(2,(ii 8))] (sl Wa 48 [] (b8 [2]) b7 (bl 13 7937) (tt k3 c)))) (fun k3=>(lb (fun k4=>(lr 69 33 [1,1,1,1,0,1,0,0,1,1,0,0,1,0,1,0,0] 1 9 [(2,(ii 8))] (sl Wa 48 [] (b8 [2]) b7 (bl 13 4097) (tt k4 (tt k3 c))))) (fun k4=>(lo fun cW=>let a:=pp (pp (xr l0) (xw cW)) (tt k4 (tt k3 c));(lb (fun k5=>(lr 69 33 [1,1,1,1,0,1,0,0,1,1,0,0,1,1,1,0,1,0,0] 1 9 [(2,(ii 8))] (sl Wa 69 [] (b8 [2]) b7 (bl 17 122881) (tt k5 a)))) (fun k5=>(lo fun eI=>let d:=ww eI (tt k5 a);(lb (fun k6=>(lr 69 33 [1,1,1,1,0,1,0,0,1,1,0,0,1,1,1,0,1,0,0] 1 9 [(2,(ii 8))] (sl Wa 69 [] (b8 [2]) b7 (bl 17 65537) (tt k6 d)))) (fun k6=>(sl Wa 77 [] ⟨[0],[],Iz,JB⟩ b7 (bl 17 1) (tt k6 d))))))))))))))))))) (fun k0=>(lr 69 3 [1,1,1,1,1,1,0] 1 9 [(2,(ii 0))] (sl Wa 11 [] (b8 [2]) b7 [false] (tt k0 nn)))))
theorem x9p (l0:List B4):Wj prog (Zy prog 33) (MT l0) (Zg prog 33 [(.dat l0.length (Zz l0))] true []) (VX l0):=(lb (fun k0=>(lr 69 33 [1,0,1,0,0] 1 9 [(2,(ii 4))] (sl Wa 16 [] (b8 [2]) b7 [true] (tt k0 nn)))) (fun k0=>(sl Wa 22 [] ⟨[],[],JA,JC⟩ b7 [false] (tt k0 nn))))
theorem v9x (l0:List B4) (n:Nat) (vs:List B1) (h:Yw (Qp l0) n (VX l0)=.ret vs):Js prog (Zy prog 33) (Zg prog 33 [(.dat l0.length (Zz l0))] true []) vs:=by have:=Ze (w7w l0) n _ (x9p l0);rwa [h] at this
inductive H5 where
 | h0 (v3:Int)
 | h1 (v4:Int)
 | h2 (v4:Int) (v6:Int) (aW:List UInt8) (aC:Int) (bW:Int) (cE:Int) (cN:Int) (cO:Int) (cH:List R6)
def M0 (l0:List B4):H5->CE
 | .h0 v3=>⟨⟨90,0,true⟩,none,(Zf prog 38 [1,1,0,1,0,0] 0),none,(Zy prog 9),⟨Ye [(0,(.dat l0.length (Zz l0))),(3,(ii v3))],Xt [] 0,0,[],true⟩,[],.leaf⟩
 | .h1 v4=>⟨⟨90,0,true⟩,none,(Zf prog 38 [1,1,1,0,1,0,0] 0),none,(Zy prog 9),⟨Ye [(0,(.dat l0.length (Zz l0))),(4,(ii v4))],Xt [] 0,0,[],true⟩,[],.leaf⟩
 | .h2 v4 v6 aW aC bW cE cN cO cH=>⟨⟨90,0,true⟩,none,(Zf prog 38 [1,1,1,0,1,0,0,1,0,0,1,1,1,0,0] 0),none,(Zy prog 9),⟨Ye [(0,(.dat l0.length (Zz l0))),(4,(ii v4)),(5,(.ptr 0 0)),(6,(ii v6))],Xt [⟨[(.str aW),(ii aC),(.int .u8 bW),(ii cE),(ii cN),(ii cO),(.dat cH.length (Zz cH))],48,none⟩] 0,1,[],true⟩,[],.leaf⟩
def JV :List (Option (List Nat)):=[some [0,3]]
def JX :List (Option (List Nat)):=[]
def JU :List (Option (List Nat)):=[some [0,4]]
def JW :List (Option (List Nat)):=[]
def j0k :List (Option (List Nat)):=[some [0,4,5,6]]
def j0l :List (Option (List Nat)):=[]
def Vr (l0:List B4):H5->Xu H5
 | .h0 v3=>(bif (decide (v3<(l0.length:Int))) then (bif ((decide (0<=v3/\v3<(l0.length:Int)))&&true) then (bif (w0s (B2 (rd l0 v3.toNat).s)) then (bif ((Ic (B2 (rd l0 v3.toNat).s)) != 0) then (.ret [(.int .i64 (Ic (B2 (rd l0 v3.toNat).s)))]) else (.to (.h0 (wrap .i64 (v3+1))))) else .stuck) else .stuck) else (.to (.h1 0)))
 | .h1 v4=>(bif (decide (v4<(l0.length:Int))) then (bif ((decide (0<=v4/\v4<(l0.length:Int)))&&true) then (bif (Uk (rd l0 v4.toNat).n) then (bif (!(Cb (rd l0 v4.toNat).n)) then (.ret [(.int .i64 8)]) else (bif (decide ((rd l0 v4.toNat).a <(-1))) then (.ret [(.int .i64 8)]) else (bif (decide ((rd l0 v4.toNat).a >=v4)) then (.ret [(.int .i64 8)]) else (bif ((Ce (rd l0 v4.toNat).t (rd l0 v4.toNat).x (rd l0 v4.toNat).y (rd l0 v4.toNat).z) != 0) then (.ret [(.int .i64 8)]) else (bif (Wi (B2 l0) v4) then (bif (Up (Xa (B2 l0) v4)) then (bif ((C4 (Xa (B2 l0) v4)) != 0) then (.ret [(.int .i64 8)]) else (.to (.h2 v4 0 (rd l0 v4.toNat).n (rd l0 v4.toNat).a (rd l0 v4.toNat).t (rd l0 v4.toNat).x (rd l0 v4.toNat).y (rd l0 v4.toNat).z (rd l0 v4.toNat).s))) else .stuck) else .stuck))))) else .stuck) else .stuck) else (.ret [(.int .i64 0)]))
 | .h2 v4 v6 aW aC bW cE cN cO cH=>(bif (decide (v6<v4)) then (bif ((decide (0<=v6/\v6<(l0.length:Int)))&&true) then (bif ((rd l0 v6.toNat).a == aC) then (bif ((rd l0 v6.toNat).n == aW) then (.ret [(.int .i64 8)]) else (.to (.h2 v4 (wrap .i64 (v6+1)) aW aC bW cE cN cO cH))) else (.to (.h2 v4 (wrap .i64 (v6+1)) aW aC bW cE cN cO cH))) else .stuck) else (.to (.h1 (wrap .i64 (v4+1)))))
def VT (l0:List B4):Xu H5:=(bif (decide ((l0.length:Int)>200)) then (.ret [(.int .i64 4)]) else (.to (.h0 0)))
theorem w8g (l0:List B4): ∀s,Wj prog (Zy prog 38) (M0 l0) (M0 l0 s) (Vr l0 s)
 | .h0 v3=>(lb (fun k0=>(lo fun aG=>(lo fun aU=>let b:=ww aG (tt k0 nn);(lb (fun k1=>let a:=pp (xI R6 (rd l0 (tn v3)).s.length (Zz (rd l0 (tn v3)).s)) (xw aU);(lr 90 38 [1,1,0,1,0,0,1,0,0,1,0,0] 1 9 [(2,(ii (Ic (B2 (rd l0 (tn v3)).s))))] (sl Wa 33 [] (b8 [2]) b7 (bl 2 3) (pp a (ww aG (tt k1 (pp a b))))))) (fun k1=>(sl Wa 31 [] ⟨[],[],JV,JX⟩ b7 (bl 2 1) (tt k1 (pp (pp (xI R6 (rd l0 (tn v3)).s.length (Zz (rd l0 (tn v3)).s)) (xw aU)) b)))))))) (fun k0=>(sl Wa 17 [] ⟨[],[],JU,JW⟩ b7 [false] (tt k0 nn))))
 | .h1 v4=>(lb (fun k0=>(lo fun aG=>(lo fun aU=>let c:=ww aU (ww aG (tt k0 nn));(lb (fun k1=>(lr 90 38 [1,1,1,0,1,0,0,1,0,0,1,0,1,0,0] 1 9 [(2,(ii 8))] (sl Wa 58 [] (b8 [2]) b7 (CA 18 []) (tt k1 c)))) (fun k1=>let a:=tt k1 c;(lb (fun k2=>(lr 90 38 [1,1,1,0,1,0,0,1,0,0,1,0,1,0,0] 1 9 [(2,(ii 8))] (sl Wa 58 [] (b8 [2]) b7 (bl 18 262129) (tt k2 a)))) (fun k2=>(lb (fun k3=>(lr 90 38 [1,1,1,0,1,0,0,1,0,0,1,0,1,0,0] 1 9 [(2,(ii 8))] (sl Wa 58 [] (b8 [2]) b7 (bl 18 261889) (tt k3 (tt k2 a))))) (fun k3=>let d:=tt k3 (tt k2 a);(lb (fun k4=>(lr 90 38 [1,1,1,0,1,0,0,1,0,0,1,0,1,0,0] 1 9 [(2,(ii 8))] (sl Wa 58 [] (b8 [2]) b7 (bl 18 258049) (tt k4 d)))) (fun k4=>(lo fun cW=>(lo fun dK=>let b:=ww dK (pp (pp (xr l0) (xw cW)) (tt k4 d));(lb (fun k5=>(lr 90 38 [1,1,1,0,1,0,0,1,0,0,1,0,1,0,0] 1 9 [(2,(ii 8))] (sl Wa 58 [] (b8 [2]) b7 (bl 18 131073) (tt k5 b)))) (fun k5=>(sl Wa 61 [] ⟨[0],[],j0k,j0l⟩ b7 (bl 18 1) (tt k5 b))))))))))))))))) (fun k0=>(lr 90 3 [1,1,1,1,1,1,0] 1 9 [(2,(ii 0))] (sl Wa 14 [] (b8 [2]) b7 [false] (tt k0 nn)))))
 | .h2 v4 v6 aW aC bW cE cN cO cH=>(lb (fun k0=>(lo fun aG=>let a:=ww aG (tt k0 nn);(lb (fun k1=>let b:=ww aG (tt k1 a);(lb (fun k2=>(lr 90 38 [1,1,1,0,1,0,0,1,0,0,1,1,1,0,0,1,0,0,1,0,0] 1 9 [(2,(ii 8))] (sl Wa 18 [] (b8 [2]) b7 (CA 10 []) (tt k2 b)))) (fun k2=>(sl Wa 22 [] ⟨[0],[],j0k,j0l⟩ b7 (CA 9 [false]) (tt k2 b))))) (fun k1=>(sl Wa 22 [] ⟨[0],[],j0k,j0l⟩ b7 (bl 10 1) (tt k1 a)))))) (fun k0=>(sl Wa 16 [] ⟨[],[],JU,JW⟩ b7 [false] (tt k0 nn))))
theorem x9y (l0:List B4):Wj prog (Zy prog 38) (M0 l0) (Zg prog 38 [(.dat l0.length (Zz l0))] true []) (VT l0):=(lb (fun k0=>(lr 90 38 [1,0,1,0,0] 1 9 [(2,(ii 4))] (sl Wa 16 [] (b8 [2]) b7 [true] (tt k0 nn)))) (fun k0=>(sl Wa 20 [] ⟨[],[],JV,JX⟩ b7 [false] (tt k0 nn))))
theorem u0k (l0:List B4) (n:Nat) (vs:List B1) (h:Yw (Vr l0) n (VT l0)=.ret vs):Js prog (Zy prog 38) (Zg prog 38 [(.dat l0.length (Zz l0))] true []) vs:=by have:=Ze (w8g l0) n _ (x9y l0);rwa [h] at this
open Go.Shelf Go.RowKit
def pt (L:List R2) (y:Int):Prop:= ∃s∈L,s.a<=y/\y<s.b
structure D9 (L:List R2):Prop where
 pos: ∀s∈L,s.a<s.b
 sep:L.Pairwise fun s t=>s.b<t.a
theorem D9.nil :D9 []:=⟨by simp,.nil⟩
theorem D9.tail {s:R2} {L:List R2} (h:D9 (s::L)):D9 L:=⟨fun t ht=>h.pos t (AO _ ht),(Bu.1 h.sep).2⟩
theorem D9.head {s:R2} {L:List R2} (h:D9 (s::L)): ∀t∈L,s.b<t.a:=(Bu.1 h.sep).1
theorem u8n {s:R2} {L:List R2} (h:D9 (s::L)) {y:Int} (hy:pt (s::L) y):s.a<=y:=by
 obtain ⟨t,ht,h1,h2⟩:=hy;rcases AN.1 ht with rfl | ht
 .exact h1
 .have:=h.head t ht;have:=h.pos s (by simp);omega
theorem u8o : ∀(L M:List R2),D9 L->D9 M->(∀y,pt L y↔pt M y)->L=M
 | [],[],_,_,_=>rfl
 | [],t::M,_,hM,h=>by have:=(h t.a).2 ⟨t,by simp,BG _,hM.pos t (by simp)⟩;obtain ⟨s,hs,_⟩:=this;cases hs
 | s::L,[],hL,_,h=>by have:=(h s.a).1 ⟨s,by simp,BG _,hL.pos s (by simp)⟩;obtain ⟨s,hs,_⟩:=this;cases hs
 | s::L,t::M,hL,hM,h=>by
  have p1:=hL.pos s (by simp);have p2:=hM.pos t (by simp);have a1:t.a<=s.a:=u8n hM ((h s.a).1 ⟨s,by simp,BG _,p1⟩);have a2:s.a<=t.a:=u8n hL ((h t.a).2 ⟨t,by simp,BG _,p2⟩);have b1: ¬s.b<t.b:=fun hb=>by
   obtain ⟨u,hu,h1,h2⟩:=(h s.b).2 ⟨t,by simp,by omega,hb⟩;rcases AN.1 hu with rfl | hu
   .omega
   .have:=hL.head u hu;omega
  have b2: ¬t.b<s.b:=fun hb=>by
   obtain ⟨u,hu,h1,h2⟩:=(h t.b).1 ⟨s,by simp,by omega,hb⟩;rcases AN.1 hu with rfl | hu
   .omega
   .have:=hM.head u hu;omega
  have e:s=t:=by
   obtain ⟨sa,sb⟩:=s;obtain ⟨ta,tb⟩:=t;simp only at a1 a2 b1 b2;have:sa=ta:=by omega
   have:sb=tb:=by omega
   subst_vars;rfl
  subst e
  congr 1
  refine u8o L M hL.tail hM.tail fun y=>⟨fun hy=> ?_,fun hy=> ?_⟩
  .obtain ⟨u,hu,h1,h2⟩:=hy;have g:=hL.head u hu;obtain ⟨v,hv,h3,h4⟩:=(h y).1 ⟨u,by simp [hu],h1,h2⟩;rcases AN.1 hv with rfl | hv
   .omega
   .exact ⟨v,hv,h3,h4⟩
  .obtain ⟨u,hu,h1,h2⟩:=hy;have g:=hM.head u hu;obtain ⟨v,hv,h3,h4⟩:=(h y).2 ⟨u,by simp [hu],h1,h2⟩;rcases AN.1 hv with rfl | hv
   .omega
   .exact ⟨v,hv,h3,h4⟩
def push (out:List R2) (x x':Int):List R2:=
 bif decide (0<out.length)&&((rd out (out.length - 1)).b == x) then out.set (out.length - 1) ⟨(rd out (out.length - 1)).a,x'⟩ else out++[⟨x,x'⟩]
theorem v4t (out:List R2) (s:R2) (x x':Int):push (out++[s]) x x'=bif s.b == x then out++[⟨s.a,x'⟩] else out++[s]++[⟨x,x'⟩]:=by
 grind [rd,push]
theorem w5d {out:List R2} {x x':Int} (hc:D9 out) (hb: ∀s∈out,s.b<=x) (hx:x<x'):
  D9 (push out x x')/\(∀s∈push out x x',s.b<=x')/\ ∀y,pt (push out x x') y↔pt out y\/(x<=y/\y<x'):=by
 rcases List.eq_nil_or_concat out with rfl | ⟨L,s,rfl⟩
 .refine ⟨⟨?_,?_⟩,?_,fun y=> ?_⟩;all_goals simp_all [push,pt]
 .rw [List.concat_eq_append] at*;rw [v4t];have hs:=hb s (by simp);have hp:=hc.pos s (by simp);have sep:=List.pairwise_append.1 hc.sep;rcases Vo (s.b == x) with q | q
  .rw [q,Af];have q:s.b=x:=by simpa using q
   refine ⟨⟨?_,?_⟩,?_,fun y=> ?_⟩
   .intro t ht;rcases AP.1 ht with ht | ht
    .exact hc.pos t (by simp [ht])
    grind
   .grind
   .grind
   .constructor
    .rintro ⟨t,ht,h1,h2⟩;rcases AP.1 ht with ht | ht
     .exact .inl ⟨t,by simp [ht],h1,h2⟩
     .rw [Bc.1 ht] at h1 h2;by_cases hy:y<s.b
      .exact .inl ⟨s,by simp,h1,hy⟩
      grind
    .rintro (⟨t,ht,h1,h2⟩ | ⟨h1,h2⟩)
     .rcases AP.1 ht with ht | ht
      .exact ⟨t,by simp [ht],h1,h2⟩
      .rw [Bc.1 ht] at h1 h2;exact ⟨⟨s.a,x'⟩,by simp,h1,by grind⟩
     .exact ⟨⟨s.a,x'⟩,by simp,by grind,h2⟩
  .rw [q,Ab];have q:s.b≠x:=by simpa using q
   refine ⟨⟨?_,?_⟩,?_,fun y=> ?_⟩
   .intro t ht;rcases AP.1 ht with ht | ht
    .exact hc.pos t ht
    grind
   .grind
   .grind
   .constructor
    .rintro ⟨t,ht,h1,h2⟩;rcases AP.1 ht with ht | ht
     .exact .inl ⟨t,ht,h1,h2⟩
     grind
    .rintro (⟨t,ht,h1,h2⟩ | ⟨h1,h2⟩)
     .exact ⟨t,AP.2 (.inl ht),h1,h2⟩
     .exact ⟨⟨x,x'⟩,by simp,h1,h2⟩
theorem j2j {l:List Int} (h:l.Pairwise (· < ·)) {i j:Nat} (hij:i<j) (hj:j<l.length):rd l i<rd l j:=by rw [Wf (by omega),Wf hj];exact BO.1 h i j (by omega) hj hij
theorem x4o (cuts:List Int) (ins:List Bool) (hc:cuts.Pairwise (· < ·)): ∀(k i:Nat) (out:List R2),i+k<cuts.length\/k=0->D9 out->(∀s∈out,s.b<=rd cuts i)->
  D9 (F6 cuts ins k i out)/\ ∀y,pt (F6 cuts ins k i out) y↔pt out y\/ ∃j,i<=j/\j<i+k/\rd ins j=true/\rd cuts j<=y/\y<rd cuts (j+1)
 | 0,i,out,h,ho,hb=>⟨ho,fun y=>⟨.inl,fun hy=>hy.elim id fun ⟨j,h1,h2,_⟩=>by omega⟩⟩
 | k +1,i,out,h,ho,hb=>by
  have hlt:rd cuts i<rd cuts (i+1):=j2j hc (BJ _) (by omega);obtain ⟨p1,p2,p3⟩:=w5d ho hb hlt;have e:F6 cuts ins (k+1) i out=F6 cuts ins k (i+1) (bif rd ins i then push out (rd cuts i) (rd cuts (i+1)) else out):=rfl;rw [e];rcases Vo (rd ins i) with q | q
  .rw [q,Af];obtain ⟨r1,r2⟩:=x4o cuts ins hc k (i+1) (push out (rd cuts i) (rd cuts (i+1))) (by omega) p1 p2;refine ⟨r1,fun y=> ?_⟩;rw [r2,p3];constructor
   .rintro ((h | h) | ⟨j,h1,h2,h3⟩)
    .exact .inl h
    .exact .inr ⟨i,Ak _,by omega,q,h⟩
    .exact .inr ⟨j,by omega,by omega,h3⟩
   .rintro (h | ⟨j,h1,h2,h3⟩)
    .exact .inl (.inl h)
    .rcases BU h1 with rfl | h1
     .exact .inl (.inr h3.2)
     .exact .inr ⟨j,h1,by omega,h3⟩
  .rw [q,Ab];obtain ⟨r1,r2⟩:=x4o cuts ins hc k (i+1) out (by omega) ho (fun s hs=>by have:=hb s hs;omega);refine ⟨r1,fun y=> ?_⟩;rw [r2];constructor
   .rintro (h | ⟨j,h1,h2,h3⟩)
    .exact .inl h
    .exact .inr ⟨j,by omega,by omega,h3⟩
   .rintro (h | ⟨j,h1,h2,h3⟩)
    .exact .inl h
    .rcases BU h1 with rfl | h1
     .rw [q] at h3;cases h3.1
     .exact .inr ⟨j,h1,by omega,h3⟩
theorem v7z {cuts:List Int}: ∀(k:Nat),k<cuts.length-> ∀y,rd cuts 0<=y->y<rd cuts k-> ∃j,j<k/\rd cuts j<=y/\y<rd cuts (j+1)
 | 0,_,y,h1,h2=>by omega
 | k+1,hk,y,h1,h2=>by
  by_cases h:rd cuts k<=y
  .exact ⟨k,BJ _,h,h2⟩
  .obtain ⟨j,h3,h4⟩:=v7z k (by omega) y h1 (by omega);exact ⟨j,by omega,h4⟩
theorem u4r (cuts:List Int) (hc:cuts.Pairwise (· < ·)) (P:Int->Bool) (S:List R2) (hS: ∀s∈S,s.a∈cuts/\s.b∈cuts) (hP: ∀y,P y=true↔pt S y):
  D9 (Cu cuts (cuts.map P))/\ ∀y,pt (Cu cuts (cuts.map P)) y↔pt S y:=by
 obtain ⟨r1,r2⟩:=x4o cuts (cuts.map P) hc (cuts.length - 1) 0 [] (by omega) .nil (by simp);refine ⟨r1,fun y=> ?_⟩;unfold Cu;rw [r2];have hin: ∀x,x∈cuts-> ∃i,i<cuts.length/\rd cuts i=x:=fun x hx=>by obtain ⟨i,hi,h⟩:=A7 hx;exact ⟨i,hi,by rw [Wf hi];exact h⟩
 have hmap: ∀j,j<cuts.length->rd (cuts.map P) j=P (rd cuts j):=fun j hj=>by
  grind [Wf]
 have le_of: ∀i j,i<cuts.length->j<cuts.length->i<=j->rd cuts i<=rd cuts j:=fun i j hi hj hij=>by
  rcases BU hij with rfl | h
  .grind
  .exact Int.le_of_lt (j2j hc h hj)
 constructor
 .rintro (⟨s,hs,_⟩ | ⟨j,h1,h2,h3,h4,h5⟩)
  .cases hs
  .have hj:j+1<cuts.length:=by omega
   rw [hmap j (by omega)] at h3;obtain ⟨s,hs,a1,a2⟩:=(hP _).1 h3;obtain ⟨ca,cb⟩:=hS s hs;obtain ⟨m,hm,em⟩:=hin s.b cb;refine ⟨s,hs,by omega,?_⟩
   grind
 .rintro ⟨s,hs,a1,a2⟩;right;obtain ⟨ca,cb⟩:=hS s hs;obtain ⟨n,hn,en⟩:=hin s.a ca;obtain ⟨m,hm,em⟩:=hin s.b cb;have h0:=le_of 0 n (by omega) hn (AG _);obtain ⟨j,h1,h2,h3⟩:=v7z m hm y (by omega) (by omega);refine ⟨j,AG _,by omega,?_,h2,h3⟩;rw [hmap j (by omega),hP];refine ⟨s,hs,?_,?_⟩;all_goals grind
def Ei (E:List R3) (y:Int):Int:=(E.map fun e=>if e.a<=y then e.c else 0).sum
theorem I3 (e:R3) (E:List R3) (y:Int):Ei (e::E) y=(if e.a<=y then e.c else 0)+Ei E y:=by simp [Ei]
theorem u2m {E F:List R3} (h:E.Perm F) (y:Int):Ei E y=Ei F y:=by
 induction h with
 | nil=>rfl
 | cons e _ ih=>rw [I3,I3,ih]
 | swap a b l=>simp only [I3];omega
 | trans _ _ i1 i2=>rw [i1,i2]
theorem w5l (E:List R3) (y:Int) (h: ∀e∈E,y<e.a):Ei E y=0:=by
 induction E with
 | nil=>rfl
 | cons e E ih=>
  grind [I3]
theorem v7x (out:List R2) (last:Int) (inn:Bool) (x:Int):EV out last inn x=bif inn&& !(last == x) then push out last x else out:=by
 grind [EV,push]
theorem v1c {out:List R2} {last x:Int} (inn:Bool) (hc:D9 out) (hb: ∀s∈out,s.b<=last) (hx:last<=x):
  D9 (EV out last inn x)/\(∀s∈EV out last inn x,s.b<=x)/\ ∀y,pt (EV out last inn x) y↔pt out y\/(inn=true/\last<=y/\y<x):=by
 rw [v7x];rcases Vo (inn&& !(last == x)) with q | q;all_goals grind [w5d]
def Asc (E:List R3):Prop:=E.Pairwise fun e f=>e.a<=f.a
theorem v2l : ∀(E:List R3) (o last:Int) (out:List R2),Asc E->(∀e∈E,last<=e.a)->D9 out->(∀s∈out,s.b<=last)->
  D9 (Gf E o last (decide (o>0)) out)/\ ∀y,pt (Gf E o last (decide (o>0)) out) y↔pt out y\/(last<=y/\0<o+Ei E y/\ ∃e∈E,y<e.a)
 | [],o,last,out,_,_,hc,_=>⟨hc,fun y=>⟨.inl,fun h=>h.elim id fun ⟨_,_,e,he,_⟩=>by cases he⟩⟩
 | e ::r,o,last,out,hE,hl,hc,hb=>by
  have he:=hl e (by simp);have hr:=Bu.1 hE;obtain ⟨p1,p2,p3⟩:=v1c (decide (o>0)) hc hb he;obtain ⟨q1,q2⟩:=v2l r (o+e.c) e.a (EV out last (decide (o>0)) e.a) hr.2 hr.1 p1 p2;rw [V0];refine ⟨q1,fun y=> ?_⟩;rw [q2,p3,I3];constructor
  .rintro ((h | ⟨h1,h2,h3⟩) | ⟨h1,h2,f,hf,h3⟩)
   .exact .inl h
   .right;have h1:=Av h1;refine ⟨h2,?_,e,by simp,h3⟩;rw [Az (by omega),w5l r y fun f hf=>by have:=hr.1 f hf;omega];omega
   .right;refine ⟨by omega,?_,f,by simp [hf],h3⟩;rw [AF h1];omega
  .rintro (h | ⟨h1,h2,f,hf,h3⟩)
   .exact .inl (.inl h)
   .by_cases hy:e.a<=y
    .right;rw [AF hy] at h2;refine ⟨hy,by omega,f,?_,h3⟩;rcases AN.1 hf with rfl | hf
     .omega
     .exact hf
    .left;right;rw [Az hy,w5l r y fun f hf=>by have:=hr.1 f hf;omega] at h2;exact ⟨Aa (by omega),h1,by omega⟩
theorem u2n (l:List R2) (hv: ∀s∈l,s.a<s.b) (y:Int):0<=Ei (Co l) y/\(0<Ei (Co l) y↔pt l y):=by
 induction l with
 | nil=>grind [Ei,Co,pt]
 | cons s l ih=>
  obtain ⟨i1,i2⟩:=ih fun t ht=>hv t (by simp [ht]);have hs:=hv s (by simp);have e:Ei (Co (s::l)) y=(if s.a<=y/\y<s.b then 1 else 0)+Ei (Co l) y:=by
   grind [Co,I3]
  rw [e];by_cases h:s.a<=y/\y<s.b
  .rw [AF h];exact ⟨by omega,⟨fun _=>⟨s,by simp,h⟩,fun _=>by omega⟩⟩
  .rw [Az h];refine ⟨by omega,?_⟩;rw [Int.zero_add,i2];constructor
   .rintro ⟨t,ht,h2⟩;exact ⟨t,by simp [ht],h2⟩
   .rintro ⟨t,ht,h2⟩;rcases AN.1 ht with rfl | ht
    .grind
    .exact ⟨t,ht,h2⟩
theorem Y4 {l:List R2} {s:R2} (h:s∈l):(⟨s.b,0,-1⟩:R3)∈Co l/\(⟨s.a,0,1⟩:R3)∈Co l:=
 ⟨BD.2 ⟨s,h,by simp⟩,BD.2 ⟨s,h,by simp⟩⟩
theorem v9h (l:List R3) (h:Dl l=true):Asc (Cs l):=by
 refine BO.2 fun i j hi hj hij=> ?_
 grind [PY,Wf]
theorem u9i (l:List R2) (hv:l.all D5=true):D9 (Fc l)/\ ∀y,pt (Fc l) y↔pt l y:=by
 have hb:Dl (Co l)=true:=Ay.2 fun e he=>by obtain ⟨s,hs,h1⟩:=BD.1 he;have hv:=Ay.1 hv s hs;simp only [D5,Ad,An] at hv;simp only [AN,List.not_mem_nil,or_false] at h1;rcases h1 with rfl | rfl <;> exact Aa (by grind)
 have fR: ∀s∈l,s.a<s.b:=fun s hs=>by
  grind [D5]
 obtain ⟨hp,_⟩:=PY (Co l) hb;have ha:=v9h (Co l) hb;have hn: ∀y,Ei (Cs (Co l)) y=Ei (Co l) y:=fun y=>u2m hp y;unfold Fc;generalize Cs (Co l)=E at hp ha hn;cases E with
 | nil=>refine ⟨.nil,fun y=>⟨fun ⟨s,hs,_⟩=>(by cases hs),fun ⟨s,hs,_⟩=> ?_⟩⟩;have:=hp.mem_iff.2 (Y4 hs).1;cases this
 | cons e r=>
  have hr:=Bu.1 ha;rw [V0,Int.zero_add];have e0:EV [] 0 false e.a=[]:=rfl;rw [e0];obtain ⟨q1,q2⟩:=v2l r e.c e.a [] hr.2 hr.1 .nil (by simp);refine ⟨q1,fun y=> ?_⟩;rw [q2];obtain ⟨n1,n2⟩:=u2n l fR y;rw [<-n2,<-hn,I3];constructor
  .rintro (⟨s,hs,_⟩ | ⟨h1,h2,_⟩);all_goals grind
  .intro h;have hpt:=n2.1 (by rw [<-hn,I3];exact h);obtain ⟨s,hs,s1,s2⟩:=hpt;have m1:=hp.mem_iff.2 (Y4 hs).1
   grind [Y4]
theorem x6t (out:List Int) (hs:out.Pairwise (· < ·)) (x:Int): ∀k,k<=out.length->EQ out x k<=k/\(∀i,EQ out x k<=i->i<k->x<rd out i)/\(0<EQ out x k->rd out (EQ out x k - 1)<=x)
 | 0,_=>⟨Ak _,fun i h1 h2=>by omega,fun h=>by simp [EQ] at h⟩
 | k+1,hk=>by
  unfold EQ;rcases Vo (decide (rd out k>x)) with q | q
  .rw [q,Af];obtain ⟨h1,h2,h3⟩:=x6t out hs x k (by omega);refine ⟨by omega,fun i a b=> ?_,h3⟩;rcases BU (Nat.le_of_lt_succ b) with rfl | b
   .exact Av q
   .exact h2 i a b
  .rw [q,Ab];exact ⟨Ak _,fun i a b=>by omega,fun _=>by have:=of_decide_eq_false q;simp only [Nat.add_sub_cancel];omega⟩
theorem v6k (out:List Int) (hs:out.Pairwise (· < ·)) (x:Int):(D2 out x).Pairwise (· < ·)/\ ∀y,y∈D2 out x↔y∈out\/y=x:=by
 obtain ⟨h1,h2,h3⟩:=x6t out hs x out.length (Ak _);unfold D2;split
 .rename_i h0;rw [h0] at h2;refine ⟨Bu.2 ⟨fun y hy=> ?_,hs⟩,fun y=>by grind⟩;obtain ⟨i,hi,rfl⟩:=A7 hy
  grind [Wf]
 .rename_i k hk;rw [hk] at h1 h2 h3;have h3:rd out k<=x:=h3 (Nat.succ_pos _);have hkl:k<out.length:=by omega
  rcases Vo (rd out k == x) with q | q
  .grind [Wf]
  .rw [q,Ab];have q:rd out k≠x:=by simpa using q
   refine ⟨?_,fun y=> ?_⟩
   .have st:(out.take (k+1)).Pairwise (· < ·):=hs.sublist (List.take_sublist _ _);have sd:(out.drop (k+1)).Pairwise (· < ·):=hs.sublist (List.drop_sublist _ _);have ht: ∀y∈out.take (k+1),y<x:=fun y hy=>by
     obtain ⟨i,hi,rfl⟩:=A7 hy;have hi':i<k+1:=(by grind);rw [BM];have:rd out i<=rd out k:=by
      rcases BU (Nat.le_of_lt_succ hi') with rfl | h
      .grind
      .exact Int.le_of_lt (j2j hs h hkl)
     grind [Wf]
    have hd: ∀y∈out.drop (k+1),x<y:=fun y hy=>by obtain ⟨i,hi,rfl⟩:=A7 hy;simp_all [Wf]
    refine List.pairwise_append.2 ⟨st,Bu.2 ⟨hd,sd⟩,fun a ha b hb=> ?_⟩
    grind
   .rw [AP,AN];constructor
    .grind
    .rintro (h | h)
     .rw [<-List.take_append_drop (k+1) out,AP] at h
      grind
     grind
theorem x5p (l:List Int):(Cc l).Pairwise (· < ·)/\ ∀y,y∈Cc l↔y∈l:=by
 have: ∀(l out:List Int),out.Pairwise (· < ·)->(l.foldl D2 out).Pairwise (· < ·)/\ ∀y,y∈l.foldl D2 out↔y∈out\/y∈l:=by
  intro l
  induction l with
  | nil=>grind
  | cons x l ih=>
   grind [v6k]
 simp_all [Cc]
theorem y3q : ∀(l m:List Int),l.Pairwise (· < ·)->m.Pairwise (· < ·)->(∀x,x∈l↔x∈m)->l=m
 | [],[],_,_,_=>rfl
 | [],b::m,_,_,h=>by have:=(h b).2 (by simp);cases this
 | a::l,[],_,_,h=>by have:=(h a).1 (by simp);cases this
 | a::l,b::m,hl,hm,h=>by
  obtain ⟨a1,a2⟩:=Bu.1 hl;obtain ⟨b1,b2⟩:=Bu.1 hm;have e:a=b:=by
   have x1:=(h a).1 (by simp);have x2:=(h b).2 (by simp);rcases AN.1 x1 with x1 | x1
   .exact x1
   rcases AN.1 x2 with x2 | x2
   .exact x2.symm
   have:=b1 a x1;have:=a1 b x2;omega
  subst e
  congr 1
  refine y3q l m a2 b2 fun x=>⟨fun hx=> ?_,fun hx=> ?_⟩
  .rcases AN.1 ((h x).1 (by simp [hx])) with e | e
   .have:=a1 x hx;omega
   .exact e
  .rcases AN.1 ((h x).2 (by simp [hx])) with e | e
   .have:=b1 x hx;omega
   .exact e
theorem y3r (zs:List Int) (hs:zs.Pairwise (· <= ·)): ∀m,m<=zs.length->(compactUpTo zs.toArray m).Pairwise (· < ·)/\ ∀x,x∈compactUpTo zs.toArray m↔x∈zs.take m
 | 0,_=>by simp [compactUpTo]
 | m +1,h=>by
  obtain ⟨h1,h2⟩:=y3r zs hs m (by omega);have hg: ∀j (hj:j<zs.length),zs.toArray[j]! =zs[j]:=fun j hj=>by simp [hj]
  have hle: ∀i j (hi:i<zs.length) (hj:j<zs.length),i<j->zs[i]<=zs[j]:=fun i j hi hj hij=>BO.1 hs i j hi hj hij;have hm:m<zs.length:=by omega
  rw [compactUpTo_succ,hg m hm,List.take_succ_eq_append_getElem hm];by_cases hk:keeps zs.toArray m=true
  .rw [AF hk];refine ⟨List.pairwise_append.2 ⟨h1,List.pairwise_singleton _ _,fun x hx y hy=> ?_⟩,fun x=>by rw [AP,AP,h2 x]⟩;rw [Bc.1 hy];obtain ⟨i,hi,rfl⟩:=A7 ((h2 x).1 hx);have hi':i<m:=by simp at hi;omega
   rw [BM];simp only [keeps,An] at hk;rcases hk with hk | hk
   .omega
   .rw [hg m hm,hg (m - 1) (by omega)] at hk;have k1:zs[i]<=zs[m - 1]:=by
     rcases A9 i (m - 1) with q | q
     .exact hle i (m - 1) _ _ q
     .have e:i=m - 1:=(by omega);subst e;exact BG _
    have k2:=hle (m - 1) m (by omega) hm (by omega);omega
  .rw [Az hk,AL];refine ⟨h1,fun x=> ?_⟩;rw [h2 x,AP,Bc];refine ⟨.inl,fun hx=>hx.elim id fun e=> ?_⟩;simp only [keeps,An,not_or,Decidable.not_not] at hk;rw [hg m hm,hg (m - 1) (by omega)] at hk;rw [e,hk.2];have:m - 1<(zs.take m).length :=by simp;omega
   have e2:(zs.take m)[m - 1]=zs[m - 1]:=BM;rw [<-e2];exact A0 this
theorem MN (zs:List Int):(Qi zs).Pairwise (· <= ·):=by have:=List.pairwise_mergeSort (le:=fun x y:Int=>decide (x<=y)) (fun a b c h1 h2=>by grind) (fun a b=>by simp;omega) zs;exact this.imp fun h=>by simpa using h
theorem u9k (zs:List Int) (x:Int):x∈Qi zs↔x∈zs:=List.mem_mergeSort
theorem v7p (zs:List Int):Lg zs=Cc zs:=by obtain ⟨h1,h2⟩:=y3r (Qi zs) (MN zs) (Qi zs).length (Ak _);obtain ⟨s1,s2⟩:=x5p zs;refine y3q _ _ h1 s1 fun x=> ?_;rw [show Lg zs=compactUpTo (Qi zs).toArray (Qi zs).length from rfl,h2 x,List.take_length,u9k,s2]
namespace DO
variable {α β:Type} (D:DO α β)
def ref (sec:Int->List β) (cs:List Int):Nat->Nat->List α->List β->Nat->List α
 | 0,_,out,_,_=>out
 | k+1,i,out,last,first=>
  bif decide (0<i)&&D.same (sec (rd cs i)) last then ref sec cs k (i+1) (D.grow out first (rd cs (i+1))) last first
  else ref sec cs k (i+1) (out++(sec (rd cs i)).map (D.put (rd cs i) (rd cs (i+1)))) (sec (rd cs i)) out.length
theorem ref_eq (hs: ∀a b,D.same a b=true↔a=b) (l:List α): ∀(k i:Nat) (s:Sw α β) (out:List α) (last:List β) (first:Nat),
  s.out=out->s.last=last->(last≠ []->s.first=first)->(last=[]->out.length<=first)->(0<i->s.fin=rd (D.cuts l) i)->(i=0->last=[])->
  (D.go l k i s).out =D.ref (D.sec l) (D.cuts l) k i out last first
 | 0,i,s,out,last,first,h1,h2,h3,h4,h5,h6=>h1
 | k +1,i,s,out,last,first,h1,h2,h3,h4,h5,h6=>by
  subst h1 h2;have e1:D.go l (k+1) i s=D.go l k (i+1) (D.one l (rd (D.cuts l) i) (rd (D.cuts l) (i+1)) s):=rfl;rw [e1];unfold ref;rcases Vo (decide (0<(D.sec l (rd (D.cuts l) i)).length)&&((s.fin == rd (D.cuts l) i)&&D.same s.last (D.sec l (rd (D.cuts l) i)))) with q | q
  .have e:D.one l (rd (D.cuts l) i) (rd (D.cuts l) (i+1)) s=⟨D.grow s.out s.first (rd (D.cuts l) (i+1)),s.last,s.first,rd (D.cuts l) (i+1)⟩:=by unfold one;rw [q];rfl
   simp only [Ad,An] at q;obtain ⟨q1,q2,q3⟩:=q;have q3:=(hs _ _).1 q3;have hne:s.last≠ []:=fun h=>by rw [h] at q3;rw [<-q3] at q1;exact Nat.lt_irrefl _ q1
   have hi:0<i:=Nat.pos_of_ne_zero fun h=>hne (h6 h);have e2:(decide (0<i)&&D.same (D.sec l (rd (D.cuts l) i)) s.last)=true:=by rw [Aa hi,Aq,hs,q3]
   rw [e2,Af,e];refine ref_eq hs l k (i+1) _ _ _ _ ?_ rfl h3 (fun h=>absurd h hne) (fun _=>rfl) (fun h=>by omega);rw [h3 hne]
  .have e:D.one l (rd (D.cuts l) i) (rd (D.cuts l) (i+1)) s=⟨s.out++(D.sec l (rd (D.cuts l) i)).map (D.put (rd (D.cuts l) i) (rd (D.cuts l) (i+1))),D.sec l (rd (D.cuts l) i),s.out.length,rd (D.cuts l) (i+1)⟩:=by unfold one;rw [q];rfl
   rcases Vo (decide (0<i)&&D.same (D.sec l (rd (D.cuts l) i)) s.last) with q2 | q2
   .rw [q2,Af,e];simp only [Ad,An] at q2;obtain ⟨hi,q3⟩:=q2;have q3:=(hs _ _).1 q3;rw [(hs s.last (D.sec l (rd (D.cuts l) i))).2 q3.symm,Ap,h5 hi] at q;have hz:D.sec l (rd (D.cuts l) i)=[]:=by
     cases h:D.sec l (rd (D.cuts l) i) with
     | nil=>rfl
     | cons a b=>rw [h] at q;simp at q
    have hl:s.last=[]:=(by rw [<-q3,hz]);have hf:=h4 hl;rw [hz,List.map_nil,AL];refine ref_eq hs l k (i+1) _ _ _ _ ?_ hl.symm (fun h=>absurd hl h) (fun _=> ?_) (fun _=>rfl) (fun h=>by omega)
    .exact (D.grow_nil _ _ _ hf).symm
    .rw [D.grow_length];exact hf
   .rw [q2,Ab,e];exact ref_eq hs l k (i+1) _ _ _ _ rfl rfl (fun _=>rfl) (fun h=>by rw [h];simp) (fun _=>rfl) (fun h=>by omega)
theorem out_eq (hs: ∀a b,D.same a b=true↔a=b) (l:List α):D.out l=D.ref (D.sec l) (D.cuts l) ((D.cuts l).length - 1) 0 [] [] 0:=
 D.ref_eq hs l _ 0 _ [] [] 0 rfl rfl (fun _=>rfl) (fun _=>Ak _) (fun h=>absurd h (Nat.lt_irrefl _)) (fun _=>rfl)
end DO
theorem j6j (l:List R4):D4.cuts l=CK l []:=by unfold DO.cuts CK;rw [v7p,show Di ([]:List R4)=[] from rfl,AL];rfl
theorem j5u (l:List R4) (x y:Int):HS 2 l [] x y=E1 l x y:=by
 grind [HS,Lk,E1]
theorem w2i {l:List R4} {x:Int} {s:R2} (h:s∈D4.inn l x): ∃r∈l,r.a<=x/\x<r.c/\s=⟨r.b,r.d⟩:=by obtain ⟨r,hr,e⟩:=BR.1 h;obtain ⟨h1,h2⟩:=BA.1 hr;simp only [Ad,An] at h2;exact ⟨r,h1,h2.1,h2.2,e.symm⟩
theorem j2d {l:List R4} {x:Int} {r:R4} (h:r∈l) (h1:r.a<=x) (h2:x<r.c):(⟨r.b,r.d⟩:R2)∈D4.inn l x:=by refine BR.2 ⟨r,BA.2 ⟨h,?_⟩,rfl⟩;simp only [Ad,An];exact ⟨h1,h2⟩
theorem MQ (l:List R4) (hv:l.all DS=true) (hl:l.length<=400) (x:Int):D4.sec l x=Ec 2 l [] x:=by
 have hin:=D4.inn_length l x;have hvi:(D4.inn l x).all D5=true:=Ay.2 fun s hs=>by
  grind [w2i,DS,D5]
 have e1:D4.sec l x=Fc (D4.inn l x):=by
  show Vw (D4.inn l x)=_
  grind [Vw]
 obtain ⟨c1,c2⟩:=u9i _ hvi;obtain ⟨y1,y2⟩:=x5p (Db l++Db []);have e2:Ec 2 l [] x=Cu (CV l []) ((CV l []).map fun y=>E1 l x y):=by
  unfold Ec
  congr 1
  simp_all [j5u]
 obtain ⟨d1,d2⟩:=u4r (CV l []) y1 (fun y=>E1 l x y) (D4.inn l x) (fun s hs=>by
  obtain ⟨r,hr,_,_,rfl⟩:=w2i hs;unfold CV;exact ⟨(y2 _).2 (AP.2 (.inl (BD.2 ⟨r,hr,by simp⟩))),(y2 _).2 (AP.2 (.inl (BD.2 ⟨r,hr,by simp⟩)))⟩) (fun y=>by
  unfold E1;rw [BY];constructor
  .rintro ⟨r,hr,h⟩;simp only [TU,Ad,An] at h;exact ⟨_,j2d hr h.1 h.2.1,h.2.2.1,h.2.2.2⟩
  .rintro ⟨s,hs,h1,h2⟩
   grind [w2i,TU])
 grind [u8o]
theorem v6g (l:List R4): ∀(k i:Nat) (out:List R4) (last:List R2) (first:Nat),jF 2 l [] k i out last first=D4.ref (Ec 2 l []) (CK l []) k i out last first
 | 0,_,_,_,_=>rfl
 | k+1,i,out,last,first=>by unfold jF DO.ref;rw [v6g l k,v6g l k];rfl
theorem N5 (l:List R4) (hv:l.all DS=true) (hl:l.length<=400):D4.out l=Ck 2 l []:=by
 rw [D4.out_eq (fun a b=>decide_eq_true_iff) l,Ck,v6g,<-j6j]
 congr 1
 funext x
 exact MQ l hv hl x
theorem v8q (l:List R6):D6.cuts l=Ux l []:=by unfold DO.cuts Ux;rw [v7p,show Dj ([]:List R6)=[] from rfl,AL];rfl
theorem u8w (l:List R6) (z:Int):D6.inn l z=CM l z:=rfl
theorem u5h (r:R6):DT r=Fb r:=by
 unfold DT Fb;simp only [RK,RJ];rw [AR];simp only [Ad,An];have m1: ∀x y z:Int,x<=min y z↔x<=y/\x<=z:=fun x y z=>by omega
 have m2: ∀x y z:Int,max y z<=x↔y<=x/\z<=x:=fun x y z=>by omega
 simp only [ge_iff_le,m1,m2]
 grind
theorem v8e (l:List R6) (hv:l.all DT=true) (z:Int):(CM l z).all DS=true:=Ay.2 fun s hs=>by
 obtain ⟨r,hr,rfl⟩:=BR.1 hs;have:=Ay.1 hv r (BA.1 hr).1;rw [u5h] at this;simp only [Fb,Ad,An] at this;show DS ⟨r.a,r.b,r.d,r.e⟩=true
 grind [DS]
section
variable (l:List R6) (hv:l.all DT=true) (hl:l.length<=400)
include hv hl
theorem u8t (z:Int):D4.out (CM l z)=Ck 2 (CM l z) []:=N5 _ (v8e l hv z) (AK (UN l z) hl)
theorem u8r (z:Int):FR l z=F1 2 l [] z:=by
 have h1:=u8t l hv hl z;have h2:=UN l z;have e:Ck 2 (CM [] z) []=[]:=rfl
 grind [FR,F1,Dy,CM,u8w,Gj,v8e]
theorem u9o (z:Int) (h:FR l z=false):D6.sec l z=Dy 2 l [] z:=by
 have h1:=u8t l hv hl z;have h2:=UN l z;rw [u8r l hv hl] at h;show Wh (D6.inn l z)=Ck 2 (CM l z) (CM [] z)
 grind [u8w,Wh,CM,F1,v8e]
theorem w2d : ∀(k i:Nat) (out:List R6) (last:List R4) (first:Nat),KU 2 l [] k i out last first=bif FG l k i then some (D6.ref (D6.sec l) (D6.cuts l) k i out last first) else none
 | 0,_,_,_,_=>rfl
 | k+1,i,out,last,first=>by
  unfold KU FG DO.ref;rw [<-v8q,<-u8r l hv hl];rcases Vo (FR l (rd (D6.cuts l) i)) with q | q
  .rw [q];rfl
  .have:=u9o l hv hl _ q;rw [q,Ab,Ab,this,w2d k,w2d k];have e:D6.same (Dy 2 l [] (rd (D6.cuts l) i)) last=EX (Dy 2 l [] (rd (D6.cuts l) i)) last:=rfl;rw [e];cases (decide (0<i)&&EX (Dy 2 l [] (rd (D6.cuts l) i)) last) <;> rfl
theorem N3 :KT 2 l []=bif FG l ((D6.cuts l).length - 1) 0 then some (D6.out l) else none:=by unfold KT;rw [w2d l hv hl,<-v8q,D6.out_eq (fun a b=>decide_eq_true_iff) l]
end
theorem x4m (l:List R6):Vv l=Ic l:=by
 unfold Vv Ic;by_cases h:400<l.length
 .grind
 .rw [Ah h,Ab,Ab,show l.all Fb=l.all DT from by grind [u5h]];rcases Vo (l.all DT) with hv | hv
  .rw [hv,Af,Af];unfold Hh If EJ;rw [N3 l hv (by omega)]
   grind
  grind
open Go.Proofs Go.Lib Go.Sort
def HT (x:List UInt8):Prop:= ∀c∈x,c≠47
theorem Y0 : ∀(x cur rest:List UInt8),HT x->Wy 47 cur (x++rest)=Wy 47 (cur++x) rest
 | [],cur,rest,h=>by rw [A6,AL]
 | c::x,cur,rest,h=>by
  have hc:(c == (47:UInt8))=false:=by have:=h c AS;simp [this]
  rw [A3,Wy,hc,Ab,Y0 x (cur++[c]) rest fun d hd=>h d (AO _ hd),AH];rfl
theorem x7z : ∀(r:List (List UInt8)) (cur:List UInt8),(∀p∈r,HT p)->Wy 47 cur (Lib.joinTail [47] r)=cur::r
 | [],cur,h=>rfl
 | y::r,cur,h=>by
  have e:Lib.joinTail [47] (y::r)=47::(y++Lib.joinTail [47] r):=by simp [Lib.joinTail]
  rw [e,Wy,show ((47:UInt8) == 47)=true from rfl,Af,Y0 y [] _ (h y AS),A6,x7z r y fun p hp=>h p (AO _ hp)]
theorem YY {L:List (List UInt8)} (h0:L≠ []) (h: ∀p∈L,HT p):Wy 47 [] (Lib.join L [47])=L:=by
 cases L with
 | nil=>exact absurd rfl h0
 | cons x r=>rw [Lib.join_cons,Y0 x [] _ (h x AS),A6,x7z r x fun p hp=>h p (AO _ hp)]
theorem x7a : ∀(i:Nat) (x:List UInt8),F9 i x=true->HT x
 | _,[],_=>fun c hc=>by cases hc
 | i,d::x,h=>fun c hc=>by
  rw [F9,Ad] at h;cases hc with
  | head=>intro e;subst e;have h1:=h.1;unfold HK GK digN at h1;revert h1;cases decide (i≠0) <;> decide
  | tail _ hc=>exact x7a (i+1) x h.2 c hc
theorem v5p {x:List UInt8} (h:Cb x=true):HT x:=by unfold Cb at h;rw [Ad,Ad] at h;exact x7a 0 x h.2.2
theorem u3i {L M:List (List UInt8)} (hL:L≠ []) (hM:M≠ []) (h1: ∀p∈L,HT p) (h2: ∀p∈M,HT p) (h:Lib.join L [47]=Lib.join M [47]):L=M:=by rw [<-YY hL h1,<-YY hM h2,h]
theorem Nd (a b:Int):a<b\/b<=a:=by omega
def FF (l:List B4) (i:Nat):Prop:=FH l i=true/\ ∀j,j<=i->Cb (rd l j).n =true
def GH (l:List B4) (i:Nat):Prop:= ∀j k,j<k->k<i-> ¬((rd l j).a =(rd l k).a /\(rd l j).n =(rd l k).n)
def Cx (l:List B4) (i:Int):List (List UInt8):=CY l (i.toNat+1) i
theorem Pb (l:List B4) {i:Int} (h:i<0):Cx l i=[]:=LV l _ (by omega)
theorem Kg {l:List B4} {t j:Nat} (ht:FH l t=true) (hj:j<=t):Cx l (j:Int)=(rd l j).n ::Cx l (rd l j).a :=by
 have hb:=Kq ht hj;unfold Cx;rw [Zj,CY,Aa (show (0:Int)<=(j:Int) by omega),Af,Zj]
 congr 1
 exact w4o ht _ _ _ (by omega) (by omega) (by omega)
theorem V1 {l:List B4} {t:Nat} (h:FF l t): ∀(k:Nat) (i:Int),i<=(t:Int)-> ∀p∈CY l k i,HT p
 | 0,i,hi,p,hp=>by cases hp
 | k+1,i,hi,p,hp=>by
  unfold CY at hp;by_cases g:0<=i
  .obtain ⟨j,rfl⟩: ∃j:Nat,i=(j:Int):=⟨i.toNat,by omega⟩
   rw [Aa g,Af,Zj] at hp;cases hp with
   | head=>exact v5p (h.2 j (by omega))
   | tail _ hp=>have hb:=Kq h.1 (show j<=t by omega);exact V1 h k _ (by omega) p hp
  .rw [Ah g] at hp;cases hp
theorem v2h {l:List B4} {t:Nat} (h:FF l t) (hn:GH l t): ∀(m j k:Nat),j<m->j<t->k<t->Cx l (j:Int)=Cx l (k:Int)->j=k
 | 0,j,k,hm,_,_,_=>absurd hm (AC _)
 | m +1,j,k,hm,hj,hk,e=>by
  rw [Kg h.1 (show j<=t by omega),Kg h.1 (show k<=t by omega),Bi] at e;have bj:=Kq h.1 (show j<=t by omega);have bk:=Kq h.1 (show k<=t by omega);have ea:(rd l j).a =(rd l k).a :=by
   rcases Nd (rd l j).a 0 with a1 | a1
   .rcases Nd (rd l k).a 0 with a2 | a2
    .omega
    .exfalso;obtain ⟨q,hq⟩: ∃q:Nat,(rd l k).a =(q:Int):=⟨(rd l k).a.toNat,by omega⟩
     rw [Pb l a1,hq,Kg h.1 (show q<=t by omega)] at e;cases e.2
   .obtain ⟨p,hp⟩: ∃p:Nat,(rd l j).a =(p:Int):=⟨(rd l j).a.toNat,by omega⟩
    rcases Nd (rd l k).a 0 with a2 | a2
    .exfalso;rw [Pb l a2,hp,Kg h.1 (show p<=t by omega)] at e;cases e.2
    .obtain ⟨q,hq⟩: ∃q:Nat,(rd l k).a =(q:Int):=⟨(rd l k).a.toNat,by omega⟩
     rw [hp,hq] at e;have:=v2h h hn m p q (by omega) (by omega) (by omega) e.2;omega
  rcases Bq j k with g | g | g
  .exact absurd ⟨ea,e.1⟩ (hn j k g hk)
  .exact g
  .exact absurd ⟨ea.symm,e.1.symm⟩ (hn k j g hj)
theorem x3d {l:List B4} {i k:Nat} (h:FF l i) (hn:GH l i) (hk:k<i):Xa l (k:Int)=Xa l (i:Int)↔(rd l k).a =(rd l i).a /\(rd l k).n =(rd l i).n :=by
 have bi:=Kq h.1 (Ak i);have bk:=Kq h.1 (show k<=i by omega);have ek:=Kg h.1 (show k<=i by omega);have ei:=Kg h.1 (Ak i);constructor
 .intro e;have e:Cx l (k:Int)=Cx l (i:Int):=by have:=u3i (L:=(Cx l (k:Int)).reverse) (M:=(Cx l (i:Int)).reverse) (by rw [ek];simp) (by rw [ei];simp) (fun p hp=>V1 h _ _ (by omega) p (BZ.1 hp)) (fun p hp=>V1 h _ _ (BG _) p (BZ.1 hp)) e;exact List.reverse_inj.1 this
  rw [ek,ei,Bi] at e;refine ⟨?_,e.1⟩;rcases Nd (rd l k).a 0 with a1 | a1
  .rcases Nd (rd l i).a 0 with a2 | a2
   .omega
   .exfalso;obtain ⟨q,hq⟩: ∃q:Nat,(rd l i).a =(q:Int):=⟨(rd l i).a.toNat,by omega⟩
    rw [Pb l a1,hq,Kg h.1 (show q<=i by omega)] at e;cases e.2
  .obtain ⟨p,hp⟩: ∃p:Nat,(rd l k).a =(p:Int):=⟨(rd l k).a.toNat,by omega⟩
   rcases Nd (rd l i).a 0 with a2 | a2
   .exfalso;rw [Pb l a2,hp,Kg h.1 (show p<=i by omega)] at e;cases e.2
   .obtain ⟨q,hq⟩: ∃q:Nat,(rd l i).a =(q:Int):=⟨(rd l i).a.toNat,by omega⟩
    rw [hp,hq] at e;have:=v2h h hn (p+1) p q (by omega) (by omega) (by omega) e.2;omega
 .intro ⟨e1,e2⟩;show Lib.join (Cx l (k:Int)).reverse [47]=Lib.join (Cx l (i:Int)).reverse [47];rw [ek,ei,e1,e2]
def EL (l:List B4):Int:=match l.find? fun x=>Vv x.s != 0 with
 | some x=>Vv x.s
 | none=>0
def Et (l:List B4) (i:Nat):Bool:= !(Cb (rd l i).n)||(decide ((rd l i).a < -1)||(decide ((rd l i).a >=(i:Int))||(Ce (rd l i).t (rd l i).x (rd l i).y (rd l i).z != 0)))
def twin (l:List B4) (i:Nat):Bool:=(List.range i).any fun k=>((rd l k).a == (rd l i).a)&&((rd l k).n == (rd l i).n)
def DW (l:List B4) (i:Nat):Bool:=Et l i||(C4 (Xa l (i:Int)) != 0||twin l i)
def Ui (l:List B4):Int:=bif decide (200<l.length) then 4 else bif EL l != 0 then EL l else bif (List.range l.length).any (DW l) then 8 else 0
def Yk (l:List B4):Bool:=decide (l.length<=1000000)&&l.all fun x=>decide (x.n.length<=500)
def G9 (l:List B4) (i:Nat):Prop:= ∀j,j<i->DW l j=false
theorem RF {l:List B4} {i:Nat} (h:Et l i=false):Cb (rd l i).n =true/\ -1<=(rd l i).a /\(rd l i).a <(i:Int)/\Ce (rd l i).t (rd l i).x (rd l i).y (rd l i).z =0:=by unfold Et at h;simp only [AT,Bool.not_eq_false',AX,bne_eq_false_iff_eq] at h;exact ⟨h.1,by omega,by omega,h.2.2.2⟩
theorem Vl {l:List B4} {i:Nat} (h:G9 l i) (hi:Et l i=false):FF l i:=by
 have hb: ∀j,j<=i->Et l j=false:=fun j hj=>by
  rcases A9 j i with g | g
  .have:=h j g;unfold DW at this;rw [AT] at this;exact this.1
  .rw [show j=i by omega];exact hi
 refine ⟨Ay.2 fun j hj=> ?_,fun j hj=>(RF (hb j hj)).1⟩;have:=RF (hb j (by have:=AZ.1 hj;omega));rw [Ad,An,An];exact ⟨this.2.1,this.2.2.1⟩
theorem x1p {l:List B4} {i:Nat} (h:G9 l i):GH l i:=fun j k hjk hk ⟨e1,e2⟩=>by have:=h k hk;unfold DW twin at this;rw [AT,AT] at this;have:=List.any_eq_false.1 this.2.2 j (AZ.2 hjk);rw [e1,e2] at this;simp at this
def SB (l:List B4) (i:Nat) (m:List (List UInt8×Bool)):Prop:= ∀p,getK false m p=(List.range i).any fun k=>Xa l (k:Int) == p
theorem v6o (m:List (List UInt8×Bool)) (p q:List UInt8):getK false (Cq m p true) q=(p == q||getK false m q):=by
 induction m with
 | nil=>
  show (bif q == p then true else false)=_;have e:(p == q)=(q == p):=by rw [AR,AU,AU];exact eq_comm
  rw [e,show getK false [] q=false from rfl];cases q == p <;> rfl
 | cons x m ih=>
  unfold Cq;cases g:p == x.1 with
  | true=>
   rw [Af];show (bif q == x.1 then true else getK false m q)=(p == q||bif q == x.1 then x.2 else getK false m q);have e1:=AU.1 g;rw [<-e1];have e:(p == q)=(q == p):=by rw [AR,AU,AU];exact eq_comm
   rw [e];cases q == p <;> rfl
  | false=>
   rw [Ab];show (bif q == x.1 then x.2 else getK false (Cq m p true) q)=(p == q||bif q == x.1 then x.2 else getK false m q);rw [ih];cases g2:q == x.1 with
   | true=>
    have:(p == q)=false:=by rw [AU.1 g2];exact g
    rw [this];rfl
   | false=>rfl
theorem w7u {l:List B4} {i:Nat} {m:List (List UInt8×Bool)} (h:SB l i m):SB l (i+1) (Cq m (Xa l (i:Int)) true):=fun p=>by rw [v6o,h p,List.range_succ,List.any_append,Bool.or_comm];simp
theorem w7t {l:List B4} {i:Nat} {m:List (List UInt8×Bool)} (hs:SB l i m) (h:G9 l i) (hi:Et l i=false):getK false m (Xa l (i:Int))=twin l i:=by
 rw [hs];unfold twin;have e: ∀k∈List.range i,(Xa l (k:Int) == Xa l (i:Int))=(((rd l k).a == (rd l i).a)&&((rd l k).n == (rd l i).n)):=fun k hk=>by rw [AR,Ad,AU,AU,AU];exact x3d (Vl h hi) (x1p h) (AZ.1 hk)
 rw [AR,BY,BY];constructor
 .intro ⟨k,h1,h2⟩;exact ⟨k,h1,by rw [<-e k h1];exact h2⟩
 .intro ⟨k,h1,h2⟩;exact ⟨k,h1,by rw [e k h1];exact h2⟩
theorem QJ {l:List B4} {i:Nat} (ho:Yk l=true) (hl:l.length<=1000) (hi:i<l.length) (h:FF l i):Wi l (i:Int)=true:=by unfold Yk at ho;unfold Wi;rw [Ad] at ho;rw [Zj,Aa (show (0:Int)<=(i:Int)/\(i:Int)<(l.length:Int) by omega),Aa hl,h.1,ho.2];rfl
open Go.Proofs.Tryz
def Ez (T:Int) (l:List B4):Int:=match l.find? fun x=>Vv x.s != 0 with
 | some x=>Vv x.s
 | none=>T
theorem ZI (T:Int) (x:B4) (l:List B4):Ez T (x::l)=bif Vv x.s != 0 then Vv x.s else Ez T l:=by unfold Ez;rw [List.find?_cons];cases Vv x.s != 0 <;> rfl
theorem x9k (T:Int): ∀l:List B4,Ez T l=bif EL l != 0 then EL l else T
 | []=>rfl
 | x::l=>by
  have e:EL (x::l)=bif Vv x.s != 0 then Vv x.s else EL l:=by unfold EL;rw [List.find?_cons];cases Vv x.s != 0 <;> rfl
  rw [ZI,e,x9k T l];cases g:Vv x.s != 0 with
  | true=>rw [Af,Af,g,Af]
  | false=>rfl
def badF (l:List B4):Nat->Nat->Bool
 | 0,_=>false
 | k+1,i=>DW l i||badF l k (i+1)
theorem x2b (l:List B4): ∀(k i:Nat),badF l k i=(List.range k).any fun j=>DW l (i+j)
 | 0,i=>rfl
 | k+1,i=>by
  rw [badF,x2b l k (i+1),List.range_succ_eq_map,B0,List.any_map]
  congr 1
  congr 1
  funext j
  show DW l (i+1+j)=DW l (i+(j+1))
  congr 1;omega
theorem w6w (l:List B4):badF l l.length 0=(List.range l.length).any (DW l):=by
 rw [x2b]
 congr 1
 funext j
 rw [Al]
theorem u5u {l:List B4} {T:Int} (hl:l.length<=1000) (hT: ∃N,Yw (Qp l) N (.to (.h1 0 []))=.ret [.int .i64 T]): ∀(k i:Nat),i+k=l.length-> ∃N,Yw (Qp l) N (.to (.h0 (i:Int)))=.ret [.int .i64 (Ez T (l.drop i))]
 | 0,i,h=>by
  obtain ⟨N,hN⟩:=hT;refine ⟨N+1,?_⟩;rw [Zw,Aw (by omega)];have e:Qp l (.h0 (i:Int))=.to (.h1 0 []):=by unfold Qp;simp only [];rw [Xz (by omega)];rfl
  rw [e,hN];rfl
 | k+1,i,h=>by
  have hi:i<l.length:=by omega
  have w2:wrap .i64 ((i:Int)+1)=((i+1:Nat):Int):=Zm (by omega);have e:Qp l (.h0 (i:Int))=bif Vv (rd l i).s != 0 then .ret [.int .i64 (Vv (rd l i).s)] else .to (.h0 ((i+1:Nat):Int)):=by unfold Qp;simp only [Zj,w2,Yg];rw [Yb (by omega),Af,Ap,Zp (Ym (by omega))];rfl
  rw [Xj hi,ZI];cases g:Vv (rd l i).s != 0 with
  | true=>exact ⟨1,by rw [Zw,e,g];rfl⟩
  | false=>obtain ⟨N,hN⟩:=u5u hl hT k (i+1) (by omega);exact ⟨N+1,by rw [Zw,e,g,Ab,Ab,hN]⟩
theorem v9w {l:List B4} {i:Nat} {m:List (List UInt8×Bool)} (ho:Yk l=true) (hl:l.length<=1000) (hi:i<l.length) (hf:G9 l i) (hs:SB l i m):
  Qp l (.h1 (i:Int) m)=bif DW l i then .ret [.int .i64 8] else .to (.h1 ((i+1:Nat):Int) (Cq m (Xa l (i:Int)) true)):=by
 have w2:wrap .i64 ((i:Int)+1)=((i+1:Nat):Int):=Zm (by omega);have hn:Uk (rd l i).n =true:=by unfold Yk at ho;rw [Ad] at ho;have:=RQ ho.2 i;exact Aa (by omega)
 unfold Qp;simp only [Zj,w2,Yg];rw [Yb (by omega),Af,Ap,Zp (Ym (by omega)),Zp hn];unfold DW;cases hb:Et l i with
 | true=>
  rw [Bool.true_or,Af];unfold Et at hb;revert hb;cases Cb (rd l i).n with
  | false=>intro _;rfl
  | true=>
   cases decide ((rd l i).a < -1) with
   | true=>intro _;rfl
   | false=>
    cases decide ((rd l i).a >=(i:Int)) with
    | true=>intro _;rfl
    | false=>
     cases Ce (rd l i).t (rd l i).x (rd l i).y (rd l i).z != 0 with
     | true=>intro _;rfl
     | false=>intro h;cases h
 | false=>obtain ⟨b1,b2,b3,b4⟩:=RF hb;have hk:=Vl hf hb;have hp:=QJ ho hl hi hk;rw [b1,Ax,Ab,Xz (by omega),Ab,FY (by omega),Ab,b4,show ((0:Int) != 0)=false from rfl,Ab,Zp hp,w7t hs hf hb,Zp (show Up (Xa l (i:Int))=true from Aa (PN hp)),Bg];cases twin l i <;> cases C4 (Xa l (i:Int)) != 0 <;> rfl
theorem x1q {l:List B4} {i:Nat} (h:G9 l i) (hi:DW l i=false):G9 l (i+1):=fun j hj=>by
 rcases A9 j i with g | g
 .exact h j g
 .rw [show j=i by omega];exact hi
theorem u5t {l:List B4} (ho:Yk l=true) (hl:l.length<=1000): ∀(k i:Nat) (m:List (List UInt8×Bool)),i+k=l.length->G9 l i->SB l i m-> ∃N,Yw (Qp l) N (.to (.h1 (i:Int) m))=.ret [.int .i64 (bif badF l k i then 8 else 0)]
 | 0,i,m,h,hf,hs=>⟨1,by
  rw [Zw];unfold Qp;simp only [];rw [Xz (by omega)];rfl⟩
 | k+1,i,m,h,hf,hs=>by
  have e:=v9w ho hl (show i<l.length by omega) hf hs;rw [badF];cases g:DW l i with
  | true=>exact ⟨1,by rw [Zw,e,g];rfl⟩
  | false=>obtain ⟨N,hN⟩:=u5t ho hl k (i+1) _ (by omega) (x1q hf g) (w7u hs);exact ⟨N+1,by rw [Zw,e,g,Ab,hN,Bg]⟩
theorem u9u (l:List B4) (h:Yk l=true): ∃N,Yw (Qp l) N (VX l)=.ret [.int .i64 (Ui l)]:=by
 unfold VX Ui;by_cases g:200<l.length
 .rw [Xv (by omega),Aa g];exact ⟨0,rfl⟩
 .rw [Wz (by omega),Ah g,Ab,Ab];have hT:=u5t h (by omega) l.length 0 [] (Al _) (fun j hj=>absurd hj (AC _)) fun p=>rfl;have:=u5u (by omega) hT l.length 0 (Al _);rw [AQ,x9k,w6w] at this;exact this
def FM :List B1->Option (B1×Bool)
 | [a0]=>match C7 B4 a0 with
  | some (L,g,n)=>some (.int .i64 (Ui L),CQ B4 n g&&Yk L)
  | _=>none
 | _=>none
theorem j3x {S:B3} (hS:Zv prog S):Zv prog (S.with S1 FM):=CP hS (by kernel_rfl) fun args v h=>by
 unfold FM at h;split at h
 .rename_i a0;split at h
  .rename_i L g n e0;simp only [Ae,Ac,Ad] at h;obtain ⟨rfl,ho0,hw⟩:=h;obtain ⟨N,hN⟩:=u9u L hw;exact ⟨_,_,(.cons (Xf e0 ho0) .nil),rfl,v9x L N _ hN,3,rfl⟩
  .cases h
 .cases h
theorem u6g {l:List B4} {T:Int} (hl:l.length<=1000) (hT: ∃N,Yw (Vr l) N (.to (.h1 0))=.ret [.int .i64 T]): ∀(k i:Nat),i+k=l.length-> ∃N,Yw (Vr l) N (.to (.h0 (i:Int)))=.ret [.int .i64 (Ez T (l.drop i))]
 | 0,i,h=>by
  obtain ⟨N,hN⟩:=hT;refine ⟨N+1,?_⟩;rw [Zw,Aw (by omega)];have e:Vr l (.h0 (i:Int))=.to (.h1 0):=by unfold Vr;simp only [];rw [Xz (by omega)];rfl
  rw [e,hN];rfl
 | k+1,i,h=>by
  have hi:i<l.length:=by omega
  have w2:wrap .i64 ((i:Int)+1)=((i+1:Nat):Int):=Zm (by omega);have e:Vr l (.h0 (i:Int))=bif Vv (rd l i).s != 0 then .ret [.int .i64 (Vv (rd l i).s)] else .to (.h0 ((i+1:Nat):Int)):=by unfold Vr;simp only [Zj,w2,Yg];rw [Yb (by omega),Af,Ap,Zp (Ym (by omega)),x4m];rfl
  rw [Xj hi,ZI];cases g:Vv (rd l i).s != 0 with
  | true=>exact ⟨1,by rw [Zw,e,g];rfl⟩
  | false=>obtain ⟨N,hN⟩:=u6g hl hT k (i+1) (by omega);exact ⟨N+1,by rw [Zw,e,g,Ab,Ab,hN]⟩
def twF (l:List B4) (a:Int) (n:List UInt8):Nat->Nat->Bool
 | 0,_=>false
 | k+1,i=>(((rd l i).a == a)&&((rd l i).n == n))||twF l a n k (i+1)
theorem x5i (l:List B4) (a:Int) (n:List UInt8): ∀(k i:Nat),twF l a n k i=(List.range k).any fun j=>((rd l (i+j)).a == a)&&((rd l (i+j)).n == n)
 | 0,i=>rfl
 | k+1,i=>by
  rw [twF,x5i l a n k (i+1),List.range_succ_eq_map,B0,List.any_map]
  congr 1
  congr 1
  funext j
  show (_:Bool)=((rd l (i+(j+1))).a == a&&(rd l (i+(j+1))).n == n);rw [show i+1+j=i+(j+1) by omega]
theorem u6e {l:List B4} {i:Nat} {n:List UInt8} {a t x y z:Int} {s:List R6} (hi:i<l.length) (hl:l.length<=1000) {T:Int} (hT: ∃N,Yw (Vr l) N (.to (.h1 ((i+1:Nat):Int)))=.ret [.int .i64 T]):
  ∀(k j:Nat),j+k=i-> ∃N,Yw (Vr l) N (.to (.h2 (i:Int) (j:Int) n a t x y z s))=.ret [.int .i64 (bif twF l a n k j then 8 else T)]
 | 0,j,h=>by
  obtain ⟨N,hN⟩:=hT;have w2:wrap .i64 ((i:Int)+1)=((i+1:Nat):Int):=Zm (by omega);refine ⟨N+1,?_⟩;have e:Vr l (.h2 (i:Int) (j:Int) n a t x y z s)=.to (.h1 ((i+1:Nat):Int)):=by unfold Vr;simp only [w2];rw [Xz (by omega)];rfl
  rw [Zw,e,hN];rfl
 | k+1,j,h=>by
  have w2:wrap .i64 ((j:Int)+1)=((j+1:Nat):Int):=Zm (by omega);have e:Vr l (.h2 (i:Int) (j:Int) n a t x y z s)=bif ((rd l j).a == a)&&((rd l j).n == n) then .ret [.int .i64 8] else .to (.h2 (i:Int) ((j+1:Nat):Int) n a t x y z s):=by unfold Vr;simp only [Zj,w2];rw [Yb (by omega),Af,Ap,Zp (Ym (by omega))];cases (rd l j).a == a <;> cases (rd l j).n == n <;> rfl
  rw [twF];cases g:((rd l j).a == a)&&((rd l j).n == n) with
  | true=>exact ⟨1,by rw [Zw,e,g];rfl⟩
  | false=>obtain ⟨N,hN⟩:=u6e (n:=n) (a:=a) (t:=t) (x:=x) (y:=y) (z:=z) (s:=s) hi hl hT k (j+1) (by omega);exact ⟨N+1,by rw [Zw,e,g,Ab,hN,Bg]⟩
theorem u0j {l:List B4} {i:Nat} (ho:Yk l=true) (hl:l.length<=1000) (hi:i<l.length) (hf:G9 l i):
  Vr l (.h1 (i:Int))=bif Et l i||(C4 (Xa l (i:Int)) != 0) then .ret [.int .i64 8] else .to (.h2 (i:Int) 0 (rd l i).n (rd l i).a (rd l i).t (rd l i).x (rd l i).y (rd l i).z (rd l i).s):=by
 have hn:Uk (rd l i).n =true:=by unfold Yk at ho;rw [Ad] at ho;have:=RQ ho.2 i;exact Aa (by omega)
 unfold Vr;simp only [Zj,Yg];rw [Yb (by omega),Af,Ap,Zp (Ym (by omega)),Zp hn];cases hb:Et l i with
 | true=>
  rw [Bool.true_or,Af];unfold Et at hb;revert hb;cases Cb (rd l i).n with
  | false=>intro _;rfl
  | true=>
   cases decide ((rd l i).a < -1) with
   | true=>intro _;rfl
   | false=>
    cases decide ((rd l i).a >=(i:Int)) with
    | true=>intro _;rfl
    | false=>
     cases Ce (rd l i).t (rd l i).x (rd l i).y (rd l i).z != 0 with
     | true=>intro _;rfl
     | false=>intro h;cases h
 | false=>obtain ⟨b1,b2,b3,b4⟩:=RF hb;have hk:=Vl hf hb;have hp:=QJ ho hl hi hk;rw [b1,Ax,Ab,Xz (by omega),Ab,FY (by omega),Ab,b4,show ((0:Int) != 0)=false from rfl,Ab,Zp hp,Zp (show Up (Xa l (i:Int))=true from Aa (PN hp)),Bg]
theorem w4p (l:List B4) (i:Nat):twF l (rd l i).a (rd l i).n i 0=twin l i:=by
 rw [x5i];unfold twin
 congr 1
 funext j
 rw [Al]
theorem u6f {l:List B4} (ho:Yk l=true) (hl:l.length<=1000): ∀(k i:Nat),i+k=l.length->G9 l i-> ∃N,Yw (Vr l) N (.to (.h1 (i:Int)))=.ret [.int .i64 (bif badF l k i then 8 else 0)]
 | 0,i,h,hf=>⟨1,by
  rw [Zw];unfold Vr;simp only [];rw [Xz (by omega)];rfl⟩
 | k +1,i,h,hf=>by
  have hi:i<l.length:=by omega
  have e:=u0j ho hl hi hf;rw [badF];have hb:DW l i=((Et l i||(C4 (Xa l (i:Int)) != 0))||twin l i):=by unfold DW;rw [Bool.or_assoc]
  cases g:Et l i||(C4 (Xa l (i:Int)) != 0) with
  | true=>exact ⟨1,by rw [Zw,e,hb,g];rfl⟩
  | false=>
   cases g2:twin l i with
   | true=>
    have hx: ∀(k j:Nat),j+k=i->twF l (rd l i).a (rd l i).n k j=true-> ∃N,Yw (Vr l) N (.to (.h2 (i:Int) (j:Int) (rd l i).n (rd l i).a (rd l i).t (rd l i).x (rd l i).y (rd l i).z (rd l i).s))=.ret [.int .i64 8]:=by
     intro k
     induction k with
     | zero=>intro j _ hq;cases hq
     | succ k ih=>
      intro j hj hq;have w2:wrap .i64 ((j:Int)+1)=((j+1:Nat):Int):=Zm (by omega);have e:Vr l (.h2 (i:Int) (j:Int) (rd l i).n (rd l i).a (rd l i).t (rd l i).x (rd l i).y (rd l i).z (rd l i).s)=bif ((rd l j).a == (rd l i).a)&&((rd l j).n == (rd l i).n) then .ret [.int .i64 8] else .to (.h2 (i:Int) ((j+1:Nat):Int) (rd l i).n (rd l i).a (rd l i).t (rd l i).x (rd l i).y (rd l i).z (rd l i).s):=by unfold Vr;simp only [Zj,w2];rw [Yb (by omega),Af,Ap,Zp (Ym (by omega))];cases (rd l j).a == (rd l i).a <;> cases (rd l j).n == (rd l i).n <;> rfl
      rw [twF] at hq;cases g:((rd l j).a == (rd l i).a)&&((rd l j).n == (rd l i).n) with
      | true=>exact ⟨1,by rw [Zw,e,g];rfl⟩
      | false=>rw [g,Bg] at hq;obtain ⟨N,hN⟩:=ih (j+1) (by omega) hq;exact ⟨N+1,by rw [Zw,e,g,Ab,hN]⟩
    obtain ⟨N,hN⟩:=hx i 0 (Al _) (by rw [w4p];exact g2);refine ⟨N+1,?_⟩;rw [Zw,e,g,Ab,hb,g,g2];exact hN
   | false=>
    have hbf:DW l i=false:=by rw [hb,g,g2];rfl
    have ht:=u6f ho hl k (i+1) (by omega) (x1q hf hbf);obtain ⟨N,hN⟩:=u6e (n:=(rd l i).n) (a:=(rd l i).a) (t:=(rd l i).t) (x:=(rd l i).x) (y:=(rd l i).y) (z:=(rd l i).z) (s:=(rd l i).s) hi hl ht i 0 (Al _);rw [w4p,g2,Ab] at hN;refine ⟨N+1,?_⟩;rw [Zw,e,g,Ab,hbf,Bg];exact hN
theorem j0j (l:List B4) (h:Yk l=true): ∃N,Yw (Vr l) N (VT l)=.ret [.int .i64 (Ui l)]:=by
 unfold VT Ui;by_cases g:200<l.length
 .rw [Xv (by omega),Aa g];exact ⟨0,rfl⟩
 .rw [Wz (by omega),Ah g,Ab,Ab];have hT:=u6f h (by omega) l.length 0 (Al _) (fun j hj=>absurd hj (AC _));have:=u6g (by omega) hT l.length 0 (Al _);rw [AQ,x9k,w6w] at this;exact this
theorem j4a {S:B3} (hS:Zv prog S):Zv prog (S.with S5 FM):=CP hS (by kernel_rfl) fun args v h=>by
 unfold FM at h;split at h
 .rename_i a0;split at h
  .rename_i L g n e0;simp only [Ae,Ac,Ad] at h;obtain ⟨rfl,ho0,hw⟩:=h;obtain ⟨N,hN⟩:=j0j L hw;exact ⟨_,_,(.cons (Xf e0 ho0) .nil),rfl,u0k L N _ hN,3,rfl⟩
  .cases h
 .cases h
def Oz :B3:=(Tu.with S1 FM).with S5 FM
theorem RD :Zv prog Oz:=j4a (j3x Wa)
inductive ID where
def Nw (x0:Int):ID->CE
 :=nofun
def w2z (x0:Int):ID->Xu ID
 :=nofun
def RZ (x0:Int):Xu ID:=(bif ((wrap IntKind.u8 (Int.tdiv x0 2)) == 0) then (.ret [(.agg [(.int .i64 (wrap .i64 (1 - (wrap .i64 (2*(wrap .i64 (Int.tmod x0 2))))))),(.int .i64 0),(.int .i64 0)])]) else (bif ((wrap IntKind.u8 (Int.tdiv x0 2)) == 1) then (.ret [(.agg [(.int .i64 0),(.int .i64 (wrap .i64 (1 - (wrap .i64 (2*(wrap .i64 (Int.tmod x0 2))))))),(.int .i64 0)])]) else (.ret [(.agg [(.int .i64 0),(.int .i64 0),(.int .i64 (wrap .i64 (1 - (wrap .i64 (2*(wrap .i64 (Int.tmod x0 2)))))))])])))
theorem v0o (x0:Int): ∀s,Wj prog (Zy prog 126) (Nw x0) (Nw x0 s) (w2z x0 s)
 :=nofun
theorem w3a (x0:Int):Wj prog (Zy prog 126) (Nw x0) (Zg prog 126 [(.int .u8 x0)] true []) (RZ x0):=let a:=ii (wr (1 - (wr (2*(wr (Int.tmod x0 2))))));let b:=Zf prog 126 [1,1,0,1,0,1,0,0] 1;let c:=Zy prog 126;(lb (fun k0=>(Yt ⟨⟨21,0,true⟩,none,b,none,c,⟨Ye [(2,(.ptr 0 0))],Xt [⟨[a,(ii 0),(ii 0)],40,none⟩] 0,1,[],true⟩,[],.leaf⟩ (sl RD 32 [] ⟨[0],[],[some [2]],[]⟩ b7 [true] (tt k0 nn)) rfl (by kernel_rfl))) (fun k0=>(lb (fun k1=>(Yt ⟨⟨21,0,true⟩,none,b,none,c,⟨Ye [(2,(.ptr 0 0))],Xt [⟨[(ii 0),a,(ii 0)],40,none⟩] 0,1,[],true⟩,[],.leaf⟩ (sl RD 38 [] ⟨[0],[],[some [2]],[]⟩ b7 (bl 2 2) (tt k1 (tt k0 nn))) rfl (by kernel_rfl))) (fun k1=>(Yt ⟨⟨21,0,true⟩,none,(Zf prog 3 [1,1,1,1,1,1,0] 1),none,c,⟨Ye [(2,(.ptr 0 0))],Xt [⟨[(ii 0),(ii 0),a],40,none⟩] 0,1,[],true⟩,[],.leaf⟩ (sl RD 40 [] ⟨[0],[],[some [2]],[]⟩ b7 (bl 2 0) (tt k1 (tt k0 nn))) rfl (by kernel_rfl))))))
theorem u4b (x0:Int) (n:Nat) (vs:List B1) (h:Yw (w2z x0) n (RZ x0)=.ret vs):Js prog (Zy prog 126) (Zg prog 126 [(.int .u8 x0)] true []) vs:=by have:=Ze (v0o x0) n _ (w3a x0);rwa [h] at this
structure R9 where
 (a b c d e f g h i:Int)
def fdS (d:Int):Int:=wrap .i64 (1 - wrap .i64 (2*wrap .i64 (Int.tmod d 2)))
def CZ (d:Int):R3:=bif wrap .u8 (Int.tdiv d 2) == 0 then ⟨fdS d,0,0⟩ else bif wrap .u8 (Int.tdiv d 2) == 1 then ⟨0,fdS d,0⟩ else ⟨0,0,fdS d⟩
def Tn (v:R3):B1:=.agg [.int .i64 v.a,.int .i64 v.b,.int .i64 v.c]
theorem j3o (d:Int) (_:True): ∃N,Yw (w2z d) N (RZ d)=.ret [Tn (CZ d)]:=⟨0,by
 show RZ d=_;unfold RZ CZ;cases wrap .u8 (Int.tdiv d 2) == 0
 .cases wrap .u8 (Int.tdiv d 2) == 1 <;> rfl
 .rfl⟩
def O7 :List B1->Option (B1×Bool)
 | [.int .u8 d]=>some (Tn (CZ d),true)
 | _=>none
theorem j5b {S:B3} (hS:Zv prog S):Zv prog (S.with Te O7):=CP hS (by kernel_rfl) fun args v h=>by
 unfold O7 at h;split at h
 .rename_i d;simp only [Ae,Ac] at h;obtain ⟨rfl,ho⟩:=h;obtain ⟨N,hN⟩:=j3o d ho;exact ⟨_,_,.cons (.refl _) .nil,rfl,u4b d N _ hN,5,rfl⟩
 .cases h
def Tt :B3:=(Oz.with Te O7)
theorem w4n :Zv prog Tt:=(j5b RD)
def tab9 :List R9:=[⟨1,0,0,0,1,0,0,0,1⟩,⟨1,0,0,0,-1,0,0,0,-1⟩,⟨1,0,0,0,0,1,0,-1,0⟩,⟨1,0,0,0,0,-1,0,1,0⟩,⟨-1,0,0,0,1,0,0,0,-1⟩,⟨-1,0,0,0,-1,0,0,0,1⟩,⟨-1,0,0,0,0,1,0,1,0⟩,⟨-1,0,0,0,0,-1,0,-1,0⟩,⟨0,1,0,1,0,0,0,0,-1⟩,⟨0,1,0,-1,0,0,0,0,1⟩,⟨0,1,0,0,0,1,1,0,0⟩,⟨0,1,0,0,0,-1,-1,0,0⟩,⟨0,-1,0,1,0,0,0,0,1⟩,⟨0,-1,0,-1,0,0,0,0,-1⟩,⟨0,-1,0,0,0,1,-1,0,0⟩,⟨0,-1,0,0,0,-1,1,0,0⟩,⟨0,0,1,1,0,0,0,1,0⟩,⟨0,0,1,-1,0,0,0,-1,0⟩,⟨0,0,1,0,1,0,-1,0,0⟩,⟨0,0,1,0,-1,0,1,0,0⟩,⟨0,0,-1,1,0,0,0,-1,0⟩,⟨0,0,-1,-1,0,0,0,1,0⟩,⟨0,0,-1,0,1,0,1,0,0⟩,⟨0,0,-1,0,-1,0,-1,0,0⟩]
def B8 (t:Int):R9:=tab9.getD t.toNat ⟨0,0,0,0,0,0,0,0,0⟩
def Jv (t:Int):Bool:=decide (0<=t/\t<24)
def ag9 (v:R9):B1:=.agg [.int .i64 v.a,.int .i64 v.b,.int .i64 v.c,.int .i64 v.d,.int .i64 v.e,.int .i64 v.f,.int .i64 v.g,.int .i64 v.h,.int .i64 v.i]
abbrev Jx (x0:Int):=(CZ (wrap IntKind.u8 (Int.tdiv x0 4)))
abbrev Gq (x0:Int):=(CZ (wrap IntKind.u8 ((Int.tmod x0 4)+2)))
inductive IF where
def Ny (x0:Int):IF->CE
 :=nofun
def WD (x0:Int):IF->Xu IF
 :=nofun
def Ul (x0:Int):Xu IF:=(bif (decide ((Int.tmod x0 4)>=(wrap IntKind.u8 ((wrap IntKind.u8 (Int.tdiv (wrap IntKind.u8 (Int.tdiv x0 4)) 2))*2)))) then (.ret [(.agg [(.int .i64 (CZ (wrap IntKind.u8 (Int.tdiv x0 4))).a),(.int .i64 (CZ (wrap IntKind.u8 (Int.tdiv x0 4))).b),(.int .i64 (CZ (wrap IntKind.u8 (Int.tdiv x0 4))).c),(.int .i64 (CZ (wrap IntKind.u8 ((Int.tmod x0 4)+2))).a),(.int .i64 (CZ (wrap IntKind.u8 ((Int.tmod x0 4)+2))).b),(.int .i64 (CZ (wrap IntKind.u8 ((Int.tmod x0 4)+2))).c),(.int .i64 (wrap .i64 ((wrap .i64 ((CZ (wrap IntKind.u8 (Int.tdiv x0 4))).b *(CZ (wrap IntKind.u8 ((Int.tmod x0 4)+2))).c)) - (wrap .i64 ((CZ (wrap IntKind.u8 (Int.tdiv x0 4))).c *(CZ (wrap IntKind.u8 ((Int.tmod x0 4)+2))).b))))),(.int .i64 (wrap .i64 ((wrap .i64 ((CZ (wrap IntKind.u8 (Int.tdiv x0 4))).c *(CZ (wrap IntKind.u8 ((Int.tmod x0 4)+2))).a)) - (wrap .i64 ((CZ (wrap IntKind.u8 (Int.tdiv x0 4))).a *(CZ (wrap IntKind.u8 ((Int.tmod x0 4)+2))).c))))),(.int .i64 (wrap .i64 ((wrap .i64 ((CZ (wrap IntKind.u8 (Int.tdiv x0 4))).a *(CZ (wrap IntKind.u8 ((Int.tmod x0 4)+2))).b)) - (wrap .i64 ((CZ (wrap IntKind.u8 (Int.tdiv x0 4))).b *(CZ (wrap IntKind.u8 ((Int.tmod x0 4)+2))).a)))))])]) else (.ret [(.agg [(.int .i64 (CZ (wrap IntKind.u8 (Int.tdiv x0 4))).a),(.int .i64 (CZ (wrap IntKind.u8 (Int.tdiv x0 4))).b),(.int .i64 (CZ (wrap IntKind.u8 (Int.tdiv x0 4))).c),(.int .i64 (CZ (Int.tmod x0 4)).a),(.int .i64 (CZ (Int.tmod x0 4)).b),(.int .i64 (CZ (Int.tmod x0 4)).c),(.int .i64 (wrap .i64 ((wrap .i64 ((CZ (wrap IntKind.u8 (Int.tdiv x0 4))).b *(CZ (Int.tmod x0 4)).c)) - (wrap .i64 ((CZ (wrap IntKind.u8 (Int.tdiv x0 4))).c *(CZ (Int.tmod x0 4)).b))))),(.int .i64 (wrap .i64 ((wrap .i64 ((CZ (wrap IntKind.u8 (Int.tdiv x0 4))).c *(CZ (Int.tmod x0 4)).a)) - (wrap .i64 ((CZ (wrap IntKind.u8 (Int.tdiv x0 4))).a *(CZ (Int.tmod x0 4)).c))))),(.int .i64 (wrap .i64 ((wrap .i64 ((CZ (wrap IntKind.u8 (Int.tdiv x0 4))).a *(CZ (Int.tmod x0 4)).b)) - (wrap .i64 ((CZ (wrap IntKind.u8 (Int.tdiv x0 4))).b *(CZ (Int.tmod x0 4)).a)))))])]))
theorem v0q (x0:Int): ∀s,Wj prog (Zy prog 90) (Ny x0) (Ny x0 s) (WD x0 s)
 :=nofun
theorem w3d (x0:Int):Wj prog (Zy prog 90) (Ny x0) (Zg prog 90 [(.int .u8 x0)] true []) (Ul x0):=let e:=Zf prog 3 [1,1,1,1,1,1,0] 1;let f:=ii (Jx x0).a;let g:=ii (Jx x0).b;let h:=ii (Jx x0).c;let i:=Zy prog 90;(lb (fun k0=>(Yt ⟨⟨28,0,true⟩,none,e,none,i,⟨Ye [(2,(.ptr 0 0))],Xt [⟨[f,g,h,(ii (Gq x0).a),(ii (Gq x0).b),(ii (Gq x0).c),(ii (wr ((wr ((Jx x0).b *(Gq x0).c)) - (wr ((Jx x0).c *(Gq x0).b))))),(ii (wr ((wr ((Jx x0).c *(Gq x0).a)) - (wr ((Jx x0).a *(Gq x0).c))))),(ii (wr ((wr ((Jx x0).a *(Gq x0).b)) - (wr ((Jx x0).b *(Gq x0).a)))))],151,none⟩] 0,1,[],true⟩,[],.leaf⟩ (sl w4n 44 [] ⟨[0],[],[some [2]],[]⟩ b7 [true] (tt k0 nn)) rfl (by kernel_rfl))) (fun k0=>let d:=CZ (Int.tmod x0 4);(Yt ⟨⟨28,0,true⟩,none,e,none,i,⟨Ye [(2,(.ptr 0 0))],Xt [⟨[f,g,h,(ii d.a),(ii d.b),(ii d.c),(ii (wr ((wr ((Jx x0).b *d.c)) - (wr ((Jx x0).c *d.b))))),(ii (wr ((wr ((Jx x0).c *d.a)) - (wr ((Jx x0).a *d.c))))),(ii (wr ((wr ((Jx x0).a *d.b)) - (wr ((Jx x0).b *d.a)))))],151,none⟩] 0,1,[],true⟩,[],.leaf⟩ (sl w4n 40 [] ⟨[0],[],[some [2]],[]⟩ b7 [false] (tt k0 nn)) rfl (by kernel_rfl))))
theorem u4d (x0:Int) (n:Nat) (vs:List B1) (h:Yw (WD x0) n (Ul x0)=.ret vs):Js prog (Zy prog 90) (Zg prog 90 [(.int .u8 x0)] true []) vs:=by have:=Ze (v0q x0) n _ (w3d x0);rwa [h] at this
theorem Tg : ∀n:Nat,n<24->Yw (WD (n:Int)) 0 (Ul (n:Int))=.ret [ag9 (B8 (n:Int))]
 | 0,_=>by kernel_rfl
 | 1,_=>by kernel_rfl
 | 2,_=>by kernel_rfl
 | 3,_=>by kernel_rfl
 | 4,_=>by kernel_rfl
 | 5,_=>by kernel_rfl
 | 6,_=>by kernel_rfl
 | 7,_=>by kernel_rfl
 | 8,_=>by kernel_rfl
 | 9,_=>by kernel_rfl
 | 10,_=>by kernel_rfl
 | 11,_=>by kernel_rfl
 | 12,_=>by kernel_rfl
 | 13,_=>by kernel_rfl
 | 14,_=>by kernel_rfl
 | 15,_=>by kernel_rfl
 | 16,_=>by kernel_rfl
 | 17,_=>by kernel_rfl
 | 18,_=>by kernel_rfl
 | 19,_=>by kernel_rfl
 | 20,_=>by kernel_rfl
 | 21,_=>by kernel_rfl
 | 22,_=>by kernel_rfl
 | 23,_=>by kernel_rfl
 | n+24,h=>absurd h (by omega)
theorem j3q (t:Int) (h:Jv t=true): ∃N,Yw (WD t) N (Ul t)=.ret [ag9 (B8 t)]:=by
 have ht:0<=t/\t<24:=Av h;obtain ⟨n,rfl⟩: ∃n:Nat,t=(n:Int):=⟨t.toNat,by omega⟩
 exact ⟨0,Tg n (by omega)⟩
def O8 :List B1->Option (B1×Bool)
 | [.int .u8 t]=>some (ag9 (B8 t),Jv t)
 | _=>none
theorem j5d {S:B3} (hS:Zv prog S):Zv prog (S.with Th O8):=CP hS (by kernel_rfl) fun args v h=>by
 unfold O8 at h;split at h
 .rename_i t;simp only [Ae,Ac] at h;obtain ⟨rfl,ho⟩:=h;obtain ⟨N,hN⟩:=j3q t ho;exact ⟨_,_,.cons (.refl _) .nil,rfl,u4d t N _ hN,5,rfl⟩
 .cases h
def Ts :B3:=(Tt.with Th O8)
theorem P2 :Zv prog Ts:=(j5d w4n)
inductive IC where
def Nv (aO:Int) (bD:Int) (bE:Int) (bC:Int) (bJ:Int) (bZ:Int) (cA:Int):IC->CE
 :=nofun
def w2x (aO:Int) (bD:Int) (bE:Int) (bC:Int) (bJ:Int) (bZ:Int) (cA:Int):IC->Xu IC
 :=nofun
def R0 (aO:Int) (bD:Int) (bE:Int) (bC:Int) (bJ:Int) (bZ:Int) (cA:Int):Xu IC:=(bif (Jv aO) then (.ret [(.agg [(.int .i64 (wrap .i64 ((wrap .i64 ((wrap .i64 ((wrap .i64 (bJ*(B8 aO).a))+(wrap .i64 (bZ*(B8 aO).d))))+(wrap .i64 (cA*(B8 aO).g))))+bD))),(.int .i64 (wrap .i64 ((wrap .i64 ((wrap .i64 ((wrap .i64 (bJ*(B8 aO).b))+(wrap .i64 (bZ*(B8 aO).e))))+(wrap .i64 (cA*(B8 aO).h))))+bE))),(.int .i64 (wrap .i64 ((wrap .i64 ((wrap .i64 ((wrap .i64 (bJ*(B8 aO).c))+(wrap .i64 (bZ*(B8 aO).f))))+(wrap .i64 (cA*(B8 aO).i))))+bC)))])]) else .stuck)
theorem v0n (aO:Int) (bD:Int) (bE:Int) (bC:Int) (bJ:Int) (bZ:Int) (cA:Int): ∀s,Wj prog (Zy prog 93) (Nv aO bD bE bC bJ bZ cA) (Nv aO bD bE bC bJ bZ cA s) (w2x aO bD bE bC bJ bZ cA s)
 :=nofun
theorem w2y (aO:Int) (bD:Int) (bE:Int) (bC:Int) (bJ:Int) (bZ:Int) (cA:Int):Wj prog (Zy prog 93) (Nv aO bD bE bC bJ bZ cA) (Zg prog 93 [(.agg [(.int .u8 aO),(.int .i64 bD),(.int .i64 bE),(.int .i64 bC)]),(.agg [(.int .i64 bJ),(.int .i64 bZ),(.int .i64 cA)])] true []) (R0 aO bD bE bC bJ bZ cA):=(lo fun o0=>(Yt ⟨⟨29,0,true⟩,none,(Zf prog 3 [1,1,1,1,1,1,0] 1),none,(Zy prog 91),⟨Ye [(4,(.ptr 0 0))],Xt [⟨[(ii (wr ((wr ((wr ((wr (bJ*(B8 aO).a))+(wr (bZ*(B8 aO).d))))+(wr (cA*(B8 aO).g))))+bD))),(ii (wr ((wr ((wr ((wr (bJ*(B8 aO).b))+(wr (bZ*(B8 aO).e))))+(wr (cA*(B8 aO).h))))+bE))),(ii (wr ((wr ((wr ((wr (bJ*(B8 aO).c))+(wr (bZ*(B8 aO).f))))+(wr (cA*(B8 aO).i))))+bC)))],40,none⟩] 0,1,[],true⟩,[],.leaf⟩ (sl P2 31 [] ⟨[2],[],[some [4]],[]⟩ b7 [] (ww o0 nn)) rfl (by kernel_rfl)))
theorem u4a (aO:Int) (bD:Int) (bE:Int) (bC:Int) (bJ:Int) (bZ:Int) (cA:Int) (n:Nat) (vs:List B1) (h:Yw (w2x aO bD bE bC bJ bZ cA) n (R0 aO bD bE bC bJ bZ cA)=.ret vs):Js prog (Zy prog 93) (Zg prog 93 [(.agg [(.int .u8 aO),(.int .i64 bD),(.int .i64 bE),(.int .i64 bC)]),(.agg [(.int .i64 bJ),(.int .i64 bZ),(.int .i64 cA)])] true []) vs:=by have:=Ze (v0n aO bD bE bC bJ bZ cA) n _ (w2y aO bD bE bC bJ bZ cA);rwa [h] at this
inductive IA where
 | h0 (v4:Int)
def Ns (aO:Int) (bD:Int) (bE:Int) (bC:Int) (cP:Int) (cQ:Int) (dL:Int) (dM:Int) (dN:Int):IA->CE
 | .h0 v4=>⟨⟨13,0,true⟩,none,(Zf prog 92 [1,0,1,0,0] 0),none,(Zy prog 9),⟨Ye [(1,(.ptr 0 0)),(4,(.int .u8 v4))],Xt [⟨[(ii aO),(ii bD),(ii bE),(ii bC),(ii cP),(ii cQ),(ii dL),(ii dM),(ii dN)],151,none⟩] 0,1,[],true⟩,[],.leaf⟩
def KY :List (Option (List Nat)):=[some [1,4]]
def KZ :List (Option (List Nat)):=[]
def LI (aO:Int) (bD:Int) (bE:Int) (bC:Int) (cP:Int) (cQ:Int) (dL:Int) (dM:Int) (dN:Int):IA->Xu IA
 | .h0 v4=>(bif (decide (v4<24)) then (bif (Jv v4) then (bif ((((B8 v4).a == aO)&&(((B8 v4).b == bD)&&(((B8 v4).c == bE)&&true)))&&((((B8 v4).d == bC)&&(((B8 v4).e == cP)&&(((B8 v4).f == cQ)&&true)))&&((((B8 v4).g == dL)&&(((B8 v4).h == dM)&&(((B8 v4).i == dN)&&true)))&&true))) then (.ret [(.int .u8 v4)]) else (.to (.h0 (wrap IntKind.u8 (v4+1))))) else .stuck) else (.ret [(.int .u8 0)]))
def x4e (aO:Int) (bD:Int) (bE:Int) (bC:Int) (cP:Int) (cQ:Int) (dL:Int) (dM:Int) (dN:Int):Xu IA:=(.to (.h0 0))
theorem v0j (aO:Int) (bD:Int) (bE:Int) (bC:Int) (cP:Int) (cQ:Int) (dL:Int) (dM:Int) (dN:Int): ∀s,Wj prog (Zy prog 92) (Ns aO bD bE bC cP cQ dL dM dN) (Ns aO bD bE bC cP cQ dL dM dN s) (LI aO bD bE bC cP cQ dL dM dN s)
 | .h0 v4=>(lb (fun k0=>(lo fun aG=>let a:=ww aG (tt k0 nn);(lb (fun k1=>(lr 13 92 [1,0,1,0,0,1,1,0,0,1,1,0,0] 1 9 [(2,(.int .u8 v4))] (sl P2 22 [] (b8 [2]) b7 (bl 2 3) (tt k1 a)))) (fun k1=>(sl P2 24 [] ⟨[0],[],KY,KZ⟩ b7 (bl 2 1) (tt k1 a)))))) (fun k0=>(lr 13 3 [1,1,1,1,1,1,0] 1 9 [(2,(.int .u8 0))] (sl P2 11 [] (b8 [2]) b7 [false] (tt k0 nn)))))
theorem w2u (aO:Int) (bD:Int) (bE:Int) (bC:Int) (cP:Int) (cQ:Int) (dL:Int) (dM:Int) (dN:Int):Wj prog (Zy prog 92) (Ns aO bD bE bC cP cQ dL dM dN) (Zg prog 92 [(.agg [(.int .i64 aO),(.int .i64 bD),(.int .i64 bE),(.int .i64 bC),(.int .i64 cP),(.int .i64 cQ),(.int .i64 dL),(.int .i64 dM),(.int .i64 dN)])] true []) (x4e aO bD bE bC cP cQ dL dM dN):=(sl P2 12 [] ⟨[0],[],KY,KZ⟩ b7 [] nn)
theorem u3v (aO:Int) (bD:Int) (bE:Int) (bC:Int) (cP:Int) (cQ:Int) (dL:Int) (dM:Int) (dN:Int) (n:Nat) (vs:List B1) (h:Yw (LI aO bD bE bC cP cQ dL dM dN) n (x4e aO bD bE bC cP cQ dL dM dN)=.ret vs):Js prog (Zy prog 92) (Zg prog 92 [(.agg [(.int .i64 aO),(.int .i64 bD),(.int .i64 bE),(.int .i64 bC),(.int .i64 cP),(.int .i64 cQ),(.int .i64 dL),(.int .i64 dM),(.int .i64 dN)])] true []) vs:=by have:=Ze (v0j aO bD bE bC cP cQ dL dM dN) n _ (w2u aO bD bE bC cP cQ dL dM dN);rwa [h] at this
def w3 (p q r:Int):Int:=wrap .i64 (p+q+r)
def w4 (p q r s:Int):Int:=wrap .i64 (p+q+r+s)
theorem wll (p q r:Int):wrap .i64 (wrap .i64 (wrap .i64 p+wrap .i64 q)+wrap .i64 r)=w3 p q r:=by unfold w3;simp only [w64];omega
theorem w3s (p q r s:Int):wrap .i64 (w3 p q r+s)=w4 p q r s:=by unfold w3 w4;simp only [w64];omega
def Gh (t a b c x y z:Int):R3:=⟨w4 (x*(B8 t).a) (y*(B8 t).d) (z*(B8 t).g) a,w4 (x*(B8 t).b) (y*(B8 t).e) (z*(B8 t).h) b,w4 (x*(B8 t).c) (y*(B8 t).f) (z*(B8 t).i) c⟩
def VA (t a b c x y z:Int):Bool:=Jv t
theorem j3n (t a b c x y z:Int) (h:VA t a b c x y z=true): ∃N,Yw (w2x t a b c x y z) N (R0 t a b c x y z)=.ret [Tn (Gh t a b c x y z)]:=⟨0,by
 show R0 t a b c x y z=_;unfold R0 Gh Tn;rw [Zp (show Jv t=true from h)];simp only [wll,w3s]⟩
def O6 :List B1->Option (B1×Bool)
 | [.agg [.int .u8 t,.int .i64 a,.int .i64 b,.int .i64 c],.agg [.int .i64 x,.int .i64 y,.int .i64 z]]=>some (Tn (Gh t a b c x y z),VA t a b c x y z)
 | _=>none
theorem j5a {S:B3} (hS:Zv prog S):Zv prog (S.with Td O6):=CP hS (by kernel_rfl) fun args v h=>by
 unfold O6 at h;split at h
 .rename_i t a b c x y z;simp only [Ae,Ac] at h;obtain ⟨rfl,ho⟩:=h;obtain ⟨N,hN⟩:=j3n t a b c x y z ho;exact ⟨_,_,.cons (.refl _) (.cons (.refl _) .nil),rfl,u4a t a b c x y z N _ hN,5,rfl⟩
 .cases h
def X5 (v:R9) (a b c d e f g h i:Int):Bool:=((v.a == a)&&((v.b == b)&&((v.c == c)&&true)))&&(((v.d == d)&&((v.e == e)&&((v.f == f)&&true)))&&(((v.g == g)&&((v.h == h)&&((v.i == i)&&true)))&&true))
def GM (dd:Int):Nat->Nat->Int->Int->Int->Int->Int->Int->Int->Int->Int->Int
 | 0,_,_,_,_,_,_,_,_,_,_=>dd
 | n+1,k,a,b,c,d,e,f,g,h,i=>bif X5 (B8 (k:Int)) a b c d e f g h i then (k:Int) else GM dd n (k+1) a b c d e f g h i
def Ta (a b c d e f g h i:Int):Int:=GM 0 24 0 a b c d e f g h i
def rtV (a b c d e f g h i:Int):Int:=GM (-1) 24 0 a b c d e f g h i
theorem u8f (a b c d e f g h i:Int): ∀(n k:Nat),k+n=24-> ∃N,Yw (LI a b c d e f g h i) N (.to (.h0 (k:Int)))=.ret [.int .u8 (GM 0 n k a b c d e f g h i)]
 | 0,k,hk=>⟨1,by
  rw [Zw];unfold LI;simp only [];rw [Xz (by omega)];rfl⟩
 | n+1,k,hk=>by
  have w2:wrap .u8 ((k:Int)+1)=((k+1:Nat):Int):=wu8 _ (by omega);have ho:Jv (k:Int)=true:=Aa (by omega);have es:LI a b c d e f g h i (.h0 (k:Int))=bif X5 (B8 (k:Int)) a b c d e f g h i then .ret [.int .u8 (k:Int)] else .to (.h0 ((k+1:Nat):Int)):=by unfold LI X5;simp only [w2];rw [Yb (by omega),Af,Zp ho]
  rw [GM];cases hq:X5 (B8 (k:Int)) a b c d e f g h i with
  | true=>exact ⟨1,by rw [Zw,es,hq];rfl⟩
  | false=>obtain ⟨N,hN⟩:=u8f a b c d e f g h i n (k+1) (by omega);exact ⟨N+1,by rw [Zw,es,hq,Ab,Ab,hN]⟩
theorem j3i (a b c d e f g h i:Int) (_:True): ∃N,Yw (LI a b c d e f g h i) N (x4e a b c d e f g h i)=.ret [.int .u8 (Ta a b c d e f g h i)]:=u8f a b c d e f g h i 24 0 (by omega)
def O4 :List B1->Option (B1×Bool)
 | [.agg [.int .i64 a,.int .i64 b,.int .i64 c,.int .i64 d,.int .i64 e,.int .i64 f,.int .i64 g,.int .i64 h,.int .i64 i]]=>some (.int .u8 (Ta a b c d e f g h i),true)
 | _=>none
theorem j4y {S:B3} (hS:Zv prog S):Zv prog (S.with TZ O4):=CP hS (by kernel_rfl) fun args v hx=>by
 unfold O4 at hx;split at hx
 .rename_i a b c d e f g h i;simp only [Ae,Ac] at hx;obtain ⟨rfl,ho⟩:=hx;obtain ⟨N,hN⟩:=j3i a b c d e f g h i ho;exact ⟨_,_,.cons (.refl _) .nil,rfl,u3v a b c d e f g h i N _ hN,5,rfl⟩
 .cases hx
def Tr :B3:=((Ts.with Td O6).with TZ O4)
theorem v8o :Zv prog Tr:=(j4y (j5a P2))
inductive Hx where
def Nq (aO:Int) (bD:Int) (bE:Int) (bC:Int) (bJ:Int) (bZ:Int) (cA:Int) (cJ:Int):Hx->CE
 :=nofun
def w2p (aO:Int) (bD:Int) (bE:Int) (bC:Int) (bJ:Int) (bZ:Int) (cA:Int) (cJ:Int):Hx->Xu Hx
 :=nofun
def R1 (aO:Int) (bD:Int) (bE:Int) (bC:Int) (bJ:Int) (bZ:Int) (cA:Int) (cJ:Int):Xu Hx:=(bif (Jv aO) then (bif (Jv bJ) then (bif (VA bJ bZ cA cJ bD bE bC) then (.ret [(.agg [(.int .u8 (Ta (wrap .i64 ((wrap .i64 ((wrap .i64 ((B8 aO).a *(B8 bJ).a))+(wrap .i64 ((B8 aO).b *(B8 bJ).d))))+(wrap .i64 ((B8 aO).c *(B8 bJ).g)))) (wrap .i64 ((wrap .i64 ((wrap .i64 ((B8 aO).a *(B8 bJ).b))+(wrap .i64 ((B8 aO).b *(B8 bJ).e))))+(wrap .i64 ((B8 aO).c *(B8 bJ).h)))) (wrap .i64 ((wrap .i64 ((wrap .i64 ((B8 aO).a *(B8 bJ).c))+(wrap .i64 ((B8 aO).b *(B8 bJ).f))))+(wrap .i64 ((B8 aO).c *(B8 bJ).i)))) (wrap .i64 ((wrap .i64 ((wrap .i64 ((B8 aO).d *(B8 bJ).a))+(wrap .i64 ((B8 aO).e *(B8 bJ).d))))+(wrap .i64 ((B8 aO).f *(B8 bJ).g)))) (wrap .i64 ((wrap .i64 ((wrap .i64 ((B8 aO).d *(B8 bJ).b))+(wrap .i64 ((B8 aO).e *(B8 bJ).e))))+(wrap .i64 ((B8 aO).f *(B8 bJ).h)))) (wrap .i64 ((wrap .i64 ((wrap .i64 ((B8 aO).d *(B8 bJ).c))+(wrap .i64 ((B8 aO).e *(B8 bJ).f))))+(wrap .i64 ((B8 aO).f *(B8 bJ).i)))) (wrap .i64 ((wrap .i64 ((wrap .i64 ((B8 aO).g *(B8 bJ).a))+(wrap .i64 ((B8 aO).h *(B8 bJ).d))))+(wrap .i64 ((B8 aO).i *(B8 bJ).g)))) (wrap .i64 ((wrap .i64 ((wrap .i64 ((B8 aO).g *(B8 bJ).b))+(wrap .i64 ((B8 aO).h *(B8 bJ).e))))+(wrap .i64 ((B8 aO).i *(B8 bJ).h)))) (wrap .i64 ((wrap .i64 ((wrap .i64 ((B8 aO).g *(B8 bJ).c))+(wrap .i64 ((B8 aO).h *(B8 bJ).f))))+(wrap .i64 ((B8 aO).i *(B8 bJ).i)))))),(.int .i64 (Gh bJ bZ cA cJ bD bE bC).a),(.int .i64 (Gh bJ bZ cA cJ bD bE bC).b),(.int .i64 (Gh bJ bZ cA cJ bD bE bC).c)])]) else .stuck) else .stuck) else .stuck)
theorem v0g (aO:Int) (bD:Int) (bE:Int) (bC:Int) (bJ:Int) (bZ:Int) (cA:Int) (cJ:Int): ∀s,Wj prog (Zy prog 57) (Nq aO bD bE bC bJ bZ cA cJ) (Nq aO bD bE bC bJ bZ cA cJ s) (w2p aO bD bE bC bJ bZ cA cJ s)
 :=nofun
theorem w2q (aO:Int) (bD:Int) (bE:Int) (bC:Int) (bJ:Int) (bZ:Int) (cA:Int) (cJ:Int):Wj prog (Zy prog 57) (Nq aO bD bE bC bJ bZ cA cJ) (Zg prog 57 [(.agg [(.int .u8 aO),(.int .i64 bD),(.int .i64 bE),(.int .i64 bC)]),(.agg [(.int .u8 bJ),(.int .i64 bZ),(.int .i64 cA),(.int .i64 cJ)])] true []) (R1 aO bD bE bC bJ bZ cA cJ):=(lo fun o0=>(lo fun o1=>(lo fun o2=>let j:=Gh bJ bZ cA cJ bD bE bC;(Yt ⟨⟨32,0,true⟩,none,(Zf prog 3 [1,1,1,1,1,1,0] 1),none,(Zy prog 57),⟨Ye [(4,(.ptr 0 0))],Xt [⟨[(.int .u8 (Ta (wr ((wr ((wr ((B8 aO).a *(B8 bJ).a))+(wr ((B8 aO).b *(B8 bJ).d))))+(wr ((B8 aO).c *(B8 bJ).g)))) (wr ((wr ((wr ((B8 aO).a *(B8 bJ).b))+(wr ((B8 aO).b *(B8 bJ).e))))+(wr ((B8 aO).c *(B8 bJ).h)))) (wr ((wr ((wr ((B8 aO).a *(B8 bJ).c))+(wr ((B8 aO).b *(B8 bJ).f))))+(wr ((B8 aO).c *(B8 bJ).i)))) (wr ((wr ((wr ((B8 aO).d *(B8 bJ).a))+(wr ((B8 aO).e *(B8 bJ).d))))+(wr ((B8 aO).f *(B8 bJ).g)))) (wr ((wr ((wr ((B8 aO).d *(B8 bJ).b))+(wr ((B8 aO).e *(B8 bJ).e))))+(wr ((B8 aO).f *(B8 bJ).h)))) (wr ((wr ((wr ((B8 aO).d *(B8 bJ).c))+(wr ((B8 aO).e *(B8 bJ).f))))+(wr ((B8 aO).f *(B8 bJ).i)))) (wr ((wr ((wr ((B8 aO).g *(B8 bJ).a))+(wr ((B8 aO).h *(B8 bJ).d))))+(wr ((B8 aO).i *(B8 bJ).g)))) (wr ((wr ((wr ((B8 aO).g *(B8 bJ).b))+(wr ((B8 aO).h *(B8 bJ).e))))+(wr ((B8 aO).i *(B8 bJ).h)))) (wr ((wr ((wr ((B8 aO).g *(B8 bJ).c))+(wr ((B8 aO).h *(B8 bJ).f))))+(wr ((B8 aO).i *(B8 bJ).i)))))),(ii j.a),(ii j.b),(ii j.c)],42,none⟩] 0,1,[],true⟩,[],.leaf⟩ (sl v8o 87 [] ⟨[2],[],[some [4]],[]⟩ b7 (bl 16 14169) (ww o2 (ww o1 (ww o0 nn)))) rfl (by kernel_rfl)))))
theorem u3s (aO:Int) (bD:Int) (bE:Int) (bC:Int) (bJ:Int) (bZ:Int) (cA:Int) (cJ:Int) (n:Nat) (vs:List B1) (h:Yw (w2p aO bD bE bC bJ bZ cA cJ) n (R1 aO bD bE bC bJ bZ cA cJ)=.ret vs):Js prog (Zy prog 57) (Zg prog 57 [(.agg [(.int .u8 aO),(.int .i64 bD),(.int .i64 bE),(.int .i64 bC)]),(.agg [(.int .u8 bJ),(.int .i64 bZ),(.int .i64 cA),(.int .i64 cJ)])] true []) vs:=by have:=Ze (v0g aO bD bE bC bJ bZ cA cJ) n _ (w2q aO bD bE bC bJ bZ cA cJ);rwa [h] at this
def k9 (s t:Int):R9:=⟨w3 ((B8 s).a *(B8 t).a) ((B8 s).b *(B8 t).d) ((B8 s).c *(B8 t).g),w3 ((B8 s).a *(B8 t).b) ((B8 s).b *(B8 t).e) ((B8 s).c *(B8 t).h),w3 ((B8 s).a *(B8 t).c) ((B8 s).b *(B8 t).f) ((B8 s).c *(B8 t).i),w3 ((B8 s).d *(B8 t).a) ((B8 s).e *(B8 t).d) ((B8 s).f *(B8 t).g),w3 ((B8 s).d *(B8 t).b) ((B8 s).e *(B8 t).e) ((B8 s).f *(B8 t).h),w3 ((B8 s).d *(B8 t).c) ((B8 s).e *(B8 t).f) ((B8 s).f *(B8 t).i),w3 ((B8 s).g *(B8 t).a) ((B8 s).h *(B8 t).d) ((B8 s).i *(B8 t).g),w3 ((B8 s).g *(B8 t).b) ((B8 s).h *(B8 t).e) ((B8 s).i *(B8 t).h),w3 ((B8 s).g *(B8 t).c) ((B8 s).h *(B8 t).f) ((B8 s).i *(B8 t).i)⟩
def Nu (v:R9):Int:=Ta v.a v.b v.c v.d v.e v.f v.g v.h v.i
def rt9 (v:R9):Int:=rtV v.a v.b v.c v.d v.e v.f v.g v.h v.i
def DY (s a b c t x y z:Int):R4:=⟨Nu (k9 s t),(Gh t x y z a b c).a,(Gh t x y z a b c).b,(Gh t x y z a b c).c⟩
def PK (s a b c t x y z:Int):Bool:=Jv s&&Jv t
def IR (v:R4):B1:=.agg [.int .u8 v.a,.int .i64 v.b,.int .i64 v.c,.int .i64 v.d]
theorem j3g (s a b c t x y z:Int) (h:PK s a b c t x y z=true): ∃N,Yw (w2p s a b c t x y z) N (R1 s a b c t x y z)=.ret [IR (DY s a b c t x y z)]:=⟨0,by
 unfold PK at h;rw [Ad] at h;show R1 s a b c t x y z=_;unfold R1;rw [Zp h.1,Zp h.2,Zp (show VA t x y z a b c=true from h.2)];simp only [wll];rfl⟩
def O2 :List B1->Option (B1×Bool)
 | [.agg [.int .u8 s,.int .i64 a,.int .i64 b,.int .i64 c],.agg [.int .u8 t,.int .i64 x,.int .i64 y,.int .i64 z]]=>some (IR (DY s a b c t x y z),PK s a b c t x y z)
 | _=>none
theorem j4w {S:B3} (hS:Zv prog S):Zv prog (S.with TY O2):=CP hS (by kernel_rfl) fun args v h=>by
 unfold O2 at h;split at h
 .rename_i s a b c t x y z;simp only [Ae,Ac] at h;obtain ⟨rfl,ho⟩:=h;obtain ⟨N,hN⟩:=j3g s a b c t x y z ho;exact ⟨_,_,.cons (.refl _) (.cons (.refl _) .nil),rfl,u3s s a b c t x y z N _ hN,5,rfl⟩
 .cases h
def Tq :B3:=(Tr.with TY O2)
theorem RE :Zv prog Tq:=(j4w v8o)
theorem v9f :((List.range 24).all fun s=>(List.range 24).all fun t=>rt9 (k9 (s:Int) (t:Int)) == Nu (k9 (s:Int) (t:Int))&&(decide (0<=Nu (k9 (s:Int) (t:Int)))&&decide (Nu (k9 (s:Int) (t:Int))<24)))=true:=by kernel_rfl
theorem u9f {s t:Int} (hs:Jv s=true) (ht:Jv t=true):rt9 (k9 s t)=Nu (k9 s t)/\0<=Nu (k9 s t)/\Nu (k9 s t)<24:=by
 have hs:0<=s/\s<24:=Av hs;have ht:0<=t/\t<24:=Av ht;obtain ⟨p,rfl⟩: ∃n:Nat,s=(n:Int):=⟨s.toNat,by omega⟩
 obtain ⟨q,rfl⟩: ∃n:Nat,t=(n:Int):=⟨t.toNat,by omega⟩
 have:=Ay.1 (Ay.1 v9f p (AZ.2 (by omega))) q (AZ.2 (by omega));rw [Ad,Ad,An,An,AU] at this;exact this
def Fg (s a b c t x y z:Int):Int:=bif Ce s a b c != 0 then Ce s a b c else bif Ce t x y z != 0 then Ce t x y z else bif Ce (DY s a b c t x y z).a (DY s a b c t x y z).b (DY s a b c t x y z).c (DY s a b c t x y z).d != 0 then 16 else 0
def EG (s a b c t x y z:Int):R4:=bif Fg s a b c t x y z != 0 then ⟨0,0,0,0⟩ else DY s a b c t x y z
def Km (s a b c t x y z:Int):Bool:=decide (0<=s)&&decide (0<=t)
theorem WE {t x y z:Int} (h:(Ce t x y z != 0)=false) (h0:0<=t):Jv t=true:=by
 unfold Ce at h;by_cases g:24<=t
 .rw [Aa g] at h;cases h
 .exact Aa (by omega)
def IG :List B1->Option (B1×Bool)
 | [.agg [.int .u8 s,.int .i64 a,.int .i64 b,.int .i64 c],.agg [.int .u8 t,.int .i64 x,.int .i64 y,.int .i64 z]]=>some (.tup [IR (EG s a b c t x y z),.int .i64 (Fg s a b c t x y z)],Km s a b c t x y z)
 | _=>none
inductive Hw where
def Np (aO:Int) (bD:Int) (bE:Int) (bC:Int) (bJ:Int) (bZ:Int) (cA:Int) (cJ:Int):Hw->CE
 :=nofun
def w2n (aO:Int) (bD:Int) (bE:Int) (bC:Int) (bJ:Int) (bZ:Int) (cA:Int) (cJ:Int):Hw->Xu Hw
 :=nofun
def R5 (aO:Int) (bD:Int) (bE:Int) (bC:Int) (bJ:Int) (bZ:Int) (cA:Int) (cJ:Int):Xu Hw:=(bif ((Ce aO bD bE bC) != 0) then (.ret [(.agg [(.int .u8 0),(.int .i64 0),(.int .i64 0),(.int .i64 0)]),(.int .i64 (Ce aO bD bE bC))]) else (bif ((Ce bJ bZ cA cJ) != 0) then (.ret [(.agg [(.int .u8 0),(.int .i64 0),(.int .i64 0),(.int .i64 0)]),(.int .i64 (Ce bJ bZ cA cJ))]) else (bif (PK aO bD bE bC bJ bZ cA cJ) then (bif ((Ce (DY aO bD bE bC bJ bZ cA cJ).a (DY aO bD bE bC bJ bZ cA cJ).b (DY aO bD bE bC bJ bZ cA cJ).c (DY aO bD bE bC bJ bZ cA cJ).d) != 0) then (.ret [(.agg [(.int .u8 0),(.int .i64 0),(.int .i64 0),(.int .i64 0)]),(.int .i64 16)]) else (.ret [(.agg [(.int .u8 (DY aO bD bE bC bJ bZ cA cJ).a),(.int .i64 (DY aO bD bE bC bJ bZ cA cJ).b),(.int .i64 (DY aO bD bE bC bJ bZ cA cJ).c),(.int .i64 (DY aO bD bE bC bJ bZ cA cJ).d)]),(.int .i64 0)])) else .stuck)))
theorem v0f (aO:Int) (bD:Int) (bE:Int) (bC:Int) (bJ:Int) (bZ:Int) (cA:Int) (cJ:Int): ∀s,Wj prog (Zy prog 20) (Np aO bD bE bC bJ bZ cA cJ) (Np aO bD bE bC bJ bZ cA cJ s) (w2n aO bD bE bC bJ bZ cA cJ s)
 :=nofun
theorem w2o (aO:Int) (bD:Int) (bE:Int) (bC:Int) (bJ:Int) (bZ:Int) (cA:Int) (cJ:Int):Wj prog (Zy prog 20) (Np aO bD bE bC bJ bZ cA cJ) (Zg prog 20 [(.agg [(.int .u8 aO),(.int .i64 bD),(.int .i64 bE),(.int .i64 bC)]),(.agg [(.int .u8 bJ),(.int .i64 bZ),(.int .i64 cA),(.int .i64 cJ)])] true []) (R5 aO bD bE bC bJ bZ cA cJ):=let f:=Zy prog 19;(lb (fun k0=>(Yt ⟨⟨29,0,true⟩,none,(Zf prog 20 [1,0,1,1,0,0] 1),none,f,⟨Ye [(4,(.ptr 0 0)),(5,(ii (Ce aO bD bE bC)))],Xt [⟨[(.int .u8 0),(ii 0),(ii 0),(ii 0)],42,none⟩] 0,1,[],true⟩,[],.leaf⟩ (sl RE 27 [] ⟨[2],[],[some [4,5]],[]⟩ b7 [true] (tt k0 nn)) rfl (by kernel_rfl))) (fun k0=>(lb (fun k1=>(Yt ⟨⟨29,0,true⟩,none,(Zf prog 20 [1,1,0,1,1,0,0] 1),none,f,⟨Ye [(4,(.ptr 0 0)),(5,(ii (Ce bJ bZ cA cJ)))],Xt [⟨[(.int .u8 0),(ii 0),(ii 0),(ii 0)],42,none⟩] 0,1,[],true⟩,[],.leaf⟩ (sl RE 41 [] ⟨[2],[],[some [4,5]],[]⟩ b7 (bl 2 2) (tt k1 (tt k0 nn))) rfl (by kernel_rfl))) (fun k1=>(lo fun bH=>let g:=ww bH (tt k1 (tt k0 nn));(lb (fun k2=>(Yt ⟨⟨29,0,true⟩,none,(Zf prog 20 [1,1,1,1,0,1,0,0] 1),none,f,⟨Ye [(4,(.ptr 0 0)),(5,(ii 16))],Xt [⟨[(.int .u8 0),(ii 0),(ii 0),(ii 0)],42,none⟩] 0,1,[],true⟩,[],.leaf⟩ (sl RE 57 [] ⟨[2],[],[some [4,5]],[]⟩ b7 (bl 3 4) (tt k2 g)) rfl (by kernel_rfl))) (fun k2=>let e:=DY aO bD bE bC bJ bZ cA cJ;(Yt ⟨⟨29,0,true⟩,none,(Zf prog 3 [1,1,1,1,1,1,0] 1),none,f,⟨Ye [(4,(.ptr 0 0)),(5,(ii 0))],Xt [⟨[(.int .u8 e.a),(ii e.b),(ii e.c),(ii e.d)],42,none⟩] 0,1,[],true⟩,[],.leaf⟩ (sl RE 58 [] ⟨[2],[],[some [4,5]],[]⟩ b7 (bl 3 0) (tt k2 g)) rfl (by kernel_rfl)))))))))
theorem u3r (aO:Int) (bD:Int) (bE:Int) (bC:Int) (bJ:Int) (bZ:Int) (cA:Int) (cJ:Int) (n:Nat) (vs:List B1) (h:Yw (w2n aO bD bE bC bJ bZ cA cJ) n (R5 aO bD bE bC bJ bZ cA cJ)=.ret vs):Js prog (Zy prog 20) (Zg prog 20 [(.agg [(.int .u8 aO),(.int .i64 bD),(.int .i64 bE),(.int .i64 bC)]),(.agg [(.int .u8 bJ),(.int .i64 bZ),(.int .i64 cA),(.int .i64 cJ)])] true []) vs:=by have:=Ze (v0f aO bD bE bC bJ bZ cA cJ) n _ (w2o aO bD bE bC bJ bZ cA cJ);rwa [h] at this
theorem j3f (s a b c t x y z:Int) (h:Km s a b c t x y z=true): ∃N,Yw (w2n s a b c t x y z) N (R5 s a b c t x y z)=.ret [IR (EG s a b c t x y z),.int .i64 (Fg s a b c t x y z)]:=⟨0,by
 unfold Km at h;rw [Ad,An,An] at h;show R5 s a b c t x y z=_;unfold R5 EG;unfold Fg;cases g1:Ce s a b c != 0 with
 | true=>simp only [Af,g1];rfl
 | false=>
  cases g2:Ce t x y z != 0 with
  | true=>simp only [Af,Ab,g2];rfl
  | false=>
   rw [Ab,Ab,Zp (show PK s a b c t x y z=true by unfold PK;rw [WE g1 h.1,WE g2 h.2];rfl)];simp only [Ab];cases Ce (DY s a b c t x y z).a (DY s a b c t x y z).b (DY s a b c t x y z).c (DY s a b c t x y z).d != 0 <;> rfl⟩
theorem v7f {S:B3} (hS:Zv prog S):Zv prog (S.with No IG):=CP hS (by kernel_rfl) fun args v h=>by
 unfold IG at h;split at h
 .rename_i s a b c t x y z;simp only [Ae,Ac] at h;obtain ⟨rfl,ho⟩:=h;obtain ⟨N,hN⟩:=j3f s a b c t x y z ho;exact ⟨_,_,.cons (.refl _) (.cons (.refl _) .nil),rfl,u3r s a b c t x y z N _ hN,5,rfl⟩
 .cases h
def Oy :B3:=(Tq.with No IG)
theorem w4m :Zv prog Oy:=(v7f RE)
def z4 :R4:=⟨0,0,0,0⟩
def Gg (x:B4):R4:=⟨x.t,x.x,x.y,x.z⟩
def HP (f g:R4):R4×Int:=(EG f.a f.b f.c f.d g.a g.b g.c g.d,Fg f.a f.b f.c f.d g.a g.b g.c g.d)
def Ge (l:List B4):Nat->Int->R4×Int
 | 0,_=>(z4,0)
 | k+1,i=>bif decide ((rd l i.toNat).a <0) then (Gg (rd l i.toNat),0) else bif (Ge l k (rd l i.toNat).a).2 != 0 then (z4,(Ge l k (rd l i.toNat).a).2) else HP (Gg (rd l i.toNat)) (Ge l k (rd l i.toNat).a).1
def CT (l:List B4) (i:Int):R4×Int:=Ge l (i.toNat+1) i
theorem x6u {l:List B4} {t:Nat} (ht:FH l t=true): ∀(k m j:Nat),j<=t->j<k->j<m->Ge l k (j:Int)=Ge l m (j:Int)
 | 0,m,j,h0,h1,h2=>absurd h1 (AC _)
 | k+1,0,j,h0,h1,h2=>absurd h2 (AC _)
 | k+1,m+1,j,h0,h1,h2=>by
  have hb:=Kq ht h0;unfold Ge;rw [Zj];by_cases h:(rd l j).a <0
  .rw [Aa h];rfl
  .obtain ⟨p,hp⟩: ∃p:Nat,(rd l j).a =(p:Int):=⟨(rd l j).a.toNat,by omega⟩
   rw [hp,x6u ht k m p (by omega) (by omega) (by omega)]
theorem QG {l:List B4} {t j:Nat} (ht:FH l t=true) (hj:j<=t):CT l (j:Int)=bif decide ((rd l j).a <0) then (Gg (rd l j),0) else bif (CT l (rd l j).a).2 != 0 then (z4,(CT l (rd l j).a).2) else HP (Gg (rd l j)) (CT l (rd l j).a).1:=by
 have hb:=Kq ht hj;have e:CT l (j:Int)=Ge l (j+1) (j:Int):=by unfold CT;rw [Zj]
 rw [e,Ge,Zj];by_cases h:(rd l j).a <0
 .rw [Aa h];rfl
 .obtain ⟨p,hp⟩: ∃p:Nat,(rd l j).a =(p:Int):=⟨(rd l j).a.toNat,by omega⟩
  have e2:CT l (p:Int)=Ge l j (p:Int):=by unfold CT;rw [Zj];exact x6u ht _ _ p (by omega) (by omega) (by omega)
  rw [hp,e2]
def Wn (l:List B4) (i:Int):R4:=(CT l i).1
def Ib (l:List B4) (i:Int):Int:=(CT l i).2
def Ji (l:List B4) (i:Int):Bool:=decide (0<=i/\i<(l.length:Int))&&(decide (l.length<=1000)&&(FH l i.toNat&&l.all fun x=>decide (0<=x.t)))
def PV (q:Nat) (l:List B4) (i:Int):Bool:=decide (i<(q:Int))&&Ji l i
theorem RR {l:List B4} (h:(l.all fun x=>decide (0<=x.t))=true) (j:Nat):0<=(rd l j).t :=by
 by_cases hj:j<l.length
 .rw [Wf hj];exact Av (Ay.1 h _ (A0 hj))
 .have:rd l j=Xk.d:=by simp [rd,List.getD,List.getElem?_eq_none (show l.length<=j by omega)]
  rw [this];exact BG 0
theorem v2c {f g:R4} (hf:0<=f.a) (hg:0<=g.a):0<=(HP f g).1.a :=by
 unfold HP;simp only [];unfold EG;cases h:Fg f.a f.b f.c f.d g.a g.b g.c g.d != 0 with
 | true=>exact BG 0
 | false=>
  unfold Fg at h;cases g1:Ce f.a f.b f.c f.d != 0 with
  | true=>rw [g1,Af,g1] at h;cases h
  | false=>
   rw [g1,Ab] at h;cases g2:Ce g.a g.b g.c g.d != 0 with
   | true=>rw [g2,Af,g2] at h;cases h
   | false=>exact (u9f (WE g1 hf) (WE g2 hg)).2.1
theorem ZH {l:List B4} {t:Nat} (ht:FH l t=true) (hl:(l.all fun x=>decide (0<=x.t))=true): ∀(m j:Nat),j<m->j<=t->0<=(CT l (j:Int)).1.a
 | 0,j,hm,_=>absurd hm (AC _)
 | m+1,j,hm,hj=>by
  have hb:=Kq ht hj;rw [QG ht hj];by_cases h:(rd l j).a <0
  .rw [Aa h];exact RR hl j
  .obtain ⟨p,hp⟩: ∃p:Nat,(rd l j).a =(p:Int):=⟨(rd l j).a.toNat,by omega⟩
   rw [Ah h,Ab,hp];cases (CT l (p:Int)).2 != 0 with
   | true=>exact BG 0
   | false=>exact v2c (RR hl j) (ZH ht hl m p (by omega) (by omega))
def OQ (q:Nat):List B1->Option (B1×Bool)
 | [a0,.int .i64 i]=>match C7 B4 a0 with
  | some (L,g,n)=>some (.tup [IR (Wn L i),.int .i64 (Ib L i)],CQ B4 n g&&PV q L i)
  | _=>none
 | _=>none
def Tpl (q:Nat):B3:=Oy.with NK (OQ q)
abbrev x3l (l0:List B4) (x1:Int):=(EG (rd l0 (tn x1)).t (rd l0 (tn x1)).x (rd l0 (tn x1)).y (rd l0 (tn x1)).z (Wn (B2 l0) (rd l0 (tn x1)).a).a (Wn (B2 l0) (rd l0 (tn x1)).a).b (Wn (B2 l0) (rd l0 (tn x1)).a).c (Wn (B2 l0) (rd l0 (tn x1)).a).d)
inductive Hl where
def NL (l0:List B4) (x1:Int):Hl->CE
 :=nofun
def w1f (l0:List B4) (x1:Int):Hl->Xu Hl
 :=nofun
def QH (q:Nat) (l0:List B4) (x1:Int):Xu Hl:=(bif ((decide (0<=x1/\x1<(l0.length:Int)))&&true) then (bif (decide ((rd l0 x1.toNat).a <0)) then (.ret [(.agg [(.int .u8 (rd l0 x1.toNat).t),(.int .i64 (rd l0 x1.toNat).x),(.int .i64 (rd l0 x1.toNat).y),(.int .i64 (rd l0 x1.toNat).z)]),(.int .i64 0)]) else (bif (PV q (B2 l0) (rd l0 x1.toNat).a) then (bif ((Ib (B2 l0) (rd l0 x1.toNat).a) != 0) then (.ret [(.agg [(.int .u8 0),(.int .i64 0),(.int .i64 0),(.int .i64 0)]),(.int .i64 (Ib (B2 l0) (rd l0 x1.toNat).a))]) else (bif (Km (rd l0 x1.toNat).t (rd l0 x1.toNat).x (rd l0 x1.toNat).y (rd l0 x1.toNat).z (Wn (B2 l0) (rd l0 x1.toNat).a).a (Wn (B2 l0) (rd l0 x1.toNat).a).b (Wn (B2 l0) (rd l0 x1.toNat).a).c (Wn (B2 l0) (rd l0 x1.toNat).a).d) then (.ret [(.agg [(.int .u8 (EG (rd l0 x1.toNat).t (rd l0 x1.toNat).x (rd l0 x1.toNat).y (rd l0 x1.toNat).z (Wn (B2 l0) (rd l0 x1.toNat).a).a (Wn (B2 l0) (rd l0 x1.toNat).a).b (Wn (B2 l0) (rd l0 x1.toNat).a).c (Wn (B2 l0) (rd l0 x1.toNat).a).d).a),(.int .i64 (EG (rd l0 x1.toNat).t (rd l0 x1.toNat).x (rd l0 x1.toNat).y (rd l0 x1.toNat).z (Wn (B2 l0) (rd l0 x1.toNat).a).a (Wn (B2 l0) (rd l0 x1.toNat).a).b (Wn (B2 l0) (rd l0 x1.toNat).a).c (Wn (B2 l0) (rd l0 x1.toNat).a).d).b),(.int .i64 (EG (rd l0 x1.toNat).t (rd l0 x1.toNat).x (rd l0 x1.toNat).y (rd l0 x1.toNat).z (Wn (B2 l0) (rd l0 x1.toNat).a).a (Wn (B2 l0) (rd l0 x1.toNat).a).b (Wn (B2 l0) (rd l0 x1.toNat).a).c (Wn (B2 l0) (rd l0 x1.toNat).a).d).c),(.int .i64 (EG (rd l0 x1.toNat).t (rd l0 x1.toNat).x (rd l0 x1.toNat).y (rd l0 x1.toNat).z (Wn (B2 l0) (rd l0 x1.toNat).a).a (Wn (B2 l0) (rd l0 x1.toNat).a).b (Wn (B2 l0) (rd l0 x1.toNat).a).c (Wn (B2 l0) (rd l0 x1.toNat).a).d).d)]),(.int .i64 (Fg (rd l0 x1.toNat).t (rd l0 x1.toNat).x (rd l0 x1.toNat).y (rd l0 x1.toNat).z (Wn (B2 l0) (rd l0 x1.toNat).a).a (Wn (B2 l0) (rd l0 x1.toNat).a).b (Wn (B2 l0) (rd l0 x1.toNat).a).c (Wn (B2 l0) (rd l0 x1.toNat).a).d))]) else .stuck)) else .stuck)) else .stuck)
theorem w8z (l0:List B4) (x1:Int): ∀s,Wj prog (Zy prog 55) (NL l0 x1) (NL l0 x1 s) (w1f l0 x1 s)
 :=nofun
theorem w1g {q:Nat} (hq:Zv prog (Tpl q)) (l0:List B4) (x1:Int):Wj prog (Zy prog 55) (NL l0 x1) (Zg prog 55 [(.dat l0.length (Zz l0)),(.int .i64 x1)] true []) (QH q l0 x1):=(lo fun cM=>let e:=rd l0 (tn x1);let i:=Zy prog 19;(lb (fun k0=>(Yt ⟨⟨42,0,true⟩,none,(Zf prog 55 [1,0,1,0,0] 1),none,i,⟨Ye [(4,(.ptr 0 0)),(5,(ii 0))],Xt [⟨[(.int .u8 e.t),(ii e.x),(ii e.y),(ii e.z)],42,none⟩] 0,1,[],true⟩,[],.leaf⟩ (sl hq 26 [] ⟨[0],[],[some [4,5]],[]⟩ b7 [true] (ww cM (tt k0 (ww cM nn)))) rfl (by kernel_rfl))) (fun k0=>(lo fun aG=>let f:=pp (pp (xr l0) (xw aG)) (ww cM (tt k0 (ww cM nn)));(lb (fun k1=>(Yt ⟨⟨42,0,true⟩,none,(Zf prog 55 [1,1,1,0,1,0,0] 1),none,i,⟨Ye [(4,(.ptr 0 0)),(5,(ii (Ib (B2 l0) e.a)))],Xt [⟨[(.int .u8 0),(ii 0),(ii 0),(ii 0)],42,none⟩] 0,1,[],true⟩,[],.leaf⟩ (sl hq 47 [] ⟨[0],[],[some [4,5]],[]⟩ b7 (bl 2 2) (tt k1 f)) rfl (by kernel_rfl))) (fun k1=>(lo fun o0=>let g:=Wn (B2 l0) e.a;let h:=x3l l0 x1;(Yt ⟨⟨42,0,true⟩,none,(Zf prog 3 [1,1,1,1,1,1,0] 1),none,i,⟨Ye [(4,(.ptr 0 0)),(5,(ii (Fg e.t e.x e.y e.z g.a g.b g.c g.d)))],Xt [⟨[(.int .u8 h.a),(ii h.b),(ii h.c),(ii h.d)],42,none⟩] 0,1,[],true⟩,[],.leaf⟩ (sl hq 43 [] ⟨[0],[],[some [4,5]],[]⟩ b7 (bl 2 0) (ww o0 (ww cM (tt k1 f)))) rfl (by kernel_rfl)))))))))
theorem w5f {q:Nat} (hq:Zv prog (Tpl q)) (l0:List B4) (x1:Int) (n:Nat) (vs:List B1) (h:Yw (w1f l0 x1) n (QH q l0 x1)=.ret vs):Js prog (Zy prog 55) (Zg prog 55 [(.dat l0.length (Zz l0)),(.int .i64 x1)] true []) vs:=by have:=Ze (w8z l0 x1) n _ (w1g hq l0 x1);rwa [h] at this
theorem v5a (q:Nat) (l:List B4) (i:Int) (hq:i<(q:Int)+1) (h:Ji l i=true): ∃N,Yw (w1f l i) N (QH q l i)=.ret [IR (Wn l i),.int .i64 (Ib l i)]:=⟨0,by
 have h':=h;unfold Ji at h;simp only [Ad,An] at h;obtain ⟨h1,h2,h3,h4⟩:=h;obtain ⟨j,rfl⟩: ∃j:Nat,i=(j:Int):=⟨i.toNat,by omega⟩
 rw [Zj] at h3;have hb:=Kq h3 (Ak j);show QH q l (j:Int)=_;unfold QH Wn Ib;rw [Ap,Zp (Ym h1),QG h3 (Ak j)];simp only [Zj,Yg];by_cases g:(rd l j).a <0
 .rw [Aa g];rfl
 .obtain ⟨p,hp⟩: ∃p:Nat,(rd l j).a =(p:Int):=⟨(rd l j).a.toNat,by omega⟩
  have ho:PV q l (p:Int)=true:=by unfold PV Ji;rw [Zj,u2g h3 (show p<=j by omega),h4,Aa (show (p:Int)<(q:Int) by omega),Aa (show (0:Int)<=(p:Int)/\(p:Int)<(l.length:Int) by omega),Aa h2];rfl
  rw [Ah g,Ab,Ab,hp,Zp ho];show (bif (CT l (p:Int)).2 != 0 then _ else _)=_;cases g2:(CT l (p:Int)).2 != 0 with
  | true=>rfl
  | false=>
   have ht:=ZH h3 h4 (p+1) p (BJ p) (by omega);have hw:Km (rd l j).t (rd l j).x (rd l j).y (rd l j).z (CT l (p:Int)).1.a (CT l (p:Int)).1.b (CT l (p:Int)).1.c (CT l (p:Int)).1.d =true:=by unfold Km;rw [Aa (RR h4 j)];exact Aa ht
   rw [Ab,Ab,Zp hw];rfl⟩
theorem u8u : ∀q:Nat,Zv prog (Tpl q)
 | 0=>CP w4m (by kernel_rfl) fun args v h=>by
  unfold OQ at h;split at h
  .rename_i a0 i;split at h
   .rename_i L g n e0;simp only [Ae,Ac,Ad] at h;obtain ⟨rfl,ho0,hw⟩:=h;unfold PV Ji at hw;simp only [Ad,An] at hw;omega
   .cases h
  .cases h
 | q+1=>CP w4m (by kernel_rfl) fun args v h=>by
  unfold OQ at h;split at h
  .rename_i a0 i;split at h
   .rename_i L g n e0;simp only [Ae,Ac,Ad] at h;obtain ⟨rfl,ho0,hw⟩:=h;unfold PV at hw;rw [Ad,An] at hw;obtain ⟨N,hN⟩:=v5a q L i (by omega) hw.2;exact ⟨_,_,(.cons (Xf e0 ho0) (.cons (.refl _) .nil)),rfl,w5f (u8u q) L i N _ hN,5,rfl⟩
   .cases h
  .cases h
def OR :List B1->Option (B1×Bool)
 | [a0,.int .i64 i]=>match C7 B4 a0 with
  | some (L,g,n)=>some (.tup [IR (Wn L i),.int .i64 (Ib L i)],CQ B4 n g&&Ji L i)
  | _=>none
 | _=>none
theorem j4l {S:B3} (hS:Zv prog S):Zv prog (S.with NK OR):=CP hS (by kernel_rfl) fun args v h=>by
 unfold OR at h;split at h
 .rename_i a0 i;split at h
  .rename_i L g n e0;simp only [Ae,Ac,Ad] at h;obtain ⟨rfl,ho0,hw⟩:=h;obtain ⟨N,hN⟩:=v5a i.toNat L i (by unfold Ji at hw;simp only [Ad,An] at hw;omega) hw;exact ⟨_,_,(.cons (Xf e0 ho0) (.cons (.refl _) .nil)),rfl,w5f (u8u i.toNat) L i N _ hN,5,rfl⟩
  .cases h
 .cases h
abbrev PH (l:List B4) (i:Int):R4:=Wn l i
abbrev v5c (l:List B4) (i:Int):Int:=Ib l i
def SzSc :B3:=(Oy.with NK OR)
theorem Qx :Zv prog SzSc:=(j4l w4m)
inductive Hm where
def NN (l0:List B4) (x1:Int):Hm->CE
 :=nofun
def w1h (l0:List B4) (x1:Int):Hm->Xu Hm
 :=nofun
def QF (l0:List B4) (x1:Int):Xu Hm:=(bif (Yk (B2 l0)) then (bif ((Ui (B2 l0)) != 0) then (.ret [(.str []),(.int .i64 (Ui (B2 l0)))]) else (bif (decide (x1<0)) then (.ret [(.str []),(.int .i64 2)]) else (bif (decide (x1>=(l0.length:Int))) then (.ret [(.str []),(.int .i64 2)]) else (bif (Wi (B2 l0) x1) then (.ret [(.str (Xa (B2 l0) x1)),(.int .i64 0)]) else .stuck)))) else .stuck)
theorem w9a (l0:List B4) (x1:Int): ∀s,Wj prog (Zy prog 17) (NN l0 x1) (NN l0 x1 s) (w1h l0 x1 s)
 :=nofun
theorem w1i (l0:List B4) (x1:Int):Wj prog (Zy prog 17) (NN l0 x1) (Zg prog 17 [(.dat l0.length (Zz l0)),(.int .i64 x1)] true []) (QF l0 x1):=(lo fun cM=>let a:=pp (pp (xr l0) (xw cM)) nn;(lb (fun k0=>(lr 16 17 [1,0,1,1,0,0] 1 17 [(4,(.str [])),(5,(ii (Ui (B2 l0))))] (sl Qx 48 [] (b8 [4,5]) b7 (bl 2 3) (tt k0 (tt k0 a))))) (fun k0=>(lb (fun k1=>(lr 16 17 [1,0,1,1,0,0] 1 17 [(4,(.str [])),(5,(ii 2))] (sl Qx 61 [] (b8 [4,5]) b7 (bl 7 126) (tt k1 (tt k0 a))))) (fun k1=>let b:=tt k1 (tt k0 a);(lb (fun k2=>(lr 16 17 [1,0,1,1,0,0] 1 17 [(4,(.str [])),(5,(ii 2))] (sl Qx 61 [] (b8 [4,5]) b7 (bl 7 96) (tt k2 b)))) (fun k2=>(lo fun o0=>(lr 16 3 [1,1,1,1,1,1,0] 1 17 [(4,(.str (Xa (B2 l0) x1))),(5,(ii 0))] (sl Qx 65 [] (b8 [4,5]) b7 (bl 7 0) (pp (pp (xr l0) (xw o0)) (tt k2 b))))))))))))
theorem u2e (l0:List B4) (x1:Int) (n:Nat) (vs:List B1) (h:Yw (w1h l0 x1) n (QF l0 x1)=.ret vs):Js prog (Zy prog 17) (Zg prog 17 [(.dat l0.length (Zz l0)),(.int .i64 x1)] true []) vs:=by have:=Ze (w9a l0 x1) n _ (w1i l0 x1);rwa [h] at this
inductive IB where
 | h0 (v21:Int)
def Nt (l0:List B4) (x1:List UInt8):IB->CE
 | .h0 v21=>⟨⟨31,0,true⟩,none,(Zf prog 18 [1,1,1,0,1,0,0] 0),none,(Zy prog 17),⟨Ye [(0,(.dat l0.length (Zz l0))),(1,(.str x1)),(20,(ii (l0.length:Int))),(21,(ii v21))],Xt [] 0,0,[],true⟩,[],.leaf⟩
def K0 :List (Option (List Nat)):=[some [0,1,20,21]]
def K1 :List (Option (List Nat)):=[]
def LH (l0:List B4) (x1:List UInt8):IB->Xu IB
 | .h0 v21=>(bif (decide (v21<(l0.length:Int))) then (bif (Wi (B2 l0) v21) then (bif ((Xa (B2 l0) v21) == x1) then (.ret [(.int .i64 v21),(.int .i64 0)]) else (.to (.h0 (wrap .i64 (v21+1))))) else .stuck) else (.ret [(.int .i64 0),(.int .i64 6)]))
def VB (l0:List B4) (x1:List UInt8):Xu IB:=(bif (Yk (B2 l0)) then (bif ((Ui (B2 l0)) != 0) then (.ret [(.int .i64 0),(.int .i64 (Ui (B2 l0)))]) else (bif (Up x1) then (bif ((C4 x1) != 0) then (.ret [(.int .i64 0),(.int .i64 (C4 x1))]) else (.to (.h0 0))) else .stuck)) else .stuck)
theorem v0k (l0:List B4) (x1:List UInt8): ∀s,Wj prog (Zy prog 18) (Nt l0 x1) (Nt l0 x1 s) (LH l0 x1 s)
 | .h0 v21=>(lb (fun k0=>(lo fun aG=>let a:=pp (pp (xr l0) (xw aG)) (tt k0 nn);(lb (fun k1=>(lr 31 18 [1,1,1,0,1,0,0,1,1,0,0,1,1,0,0] 1 17 [(4,(ii v21)),(5,(ii 0))] (sl Qx 29 [] (b8 [4,5]) b7 (bl 2 3) (tt k1 a)))) (fun k1=>(sl Qx 30 [] ⟨[],[],K0,K1⟩ b7 (bl 2 1) (tt k1 a)))))) (fun k0=>(lr 31 3 [1,1,1,1,1,1,0] 1 17 [(4,(ii 0)),(5,(ii 6))] (sl Qx 12 [] (b8 [4,5]) b7 [false] (tt k0 nn)))))
theorem w2v (l0:List B4) (x1:List UInt8):Wj prog (Zy prog 18) (Nt l0 x1) (Zg prog 18 [(.dat l0.length (Zz l0)),(.str x1)] true []) (VB l0 x1):=(lo fun cM=>let a:=pp (pp (xr l0) (xw cM)) nn;(lb (fun k0=>(lr 31 18 [1,0,1,1,0,0] 1 17 [(4,(ii 0)),(5,(ii (Ui (B2 l0))))] (sl Qx 24 [] (b8 [4,5]) b7 [true] (tt k0 a)))) (fun k0=>(lo fun aG=>let b:=ww aG (tt k0 a);(lb (fun k1=>(lr 31 18 [1,1,0,1,1,0,0] 1 17 [(4,(ii 0)),(5,(ii (C4 x1)))] (sl Qx 38 [] (b8 [4,5]) b7 (bl 2 2) (tt k1 b)))) (fun k1=>(sl Qx 42 [] ⟨[],[],K0,K1⟩ b7 (bl 2 0) (tt k1 b))))))))
theorem u3w (l0:List B4) (x1:List UInt8) (n:Nat) (vs:List B1) (h:Yw (LH l0 x1) n (VB l0 x1)=.ret vs):Js prog (Zy prog 18) (Zg prog 18 [(.dat l0.length (Zz l0)),(.str x1)] true []) vs:=by have:=Ze (v0k l0 x1) n _ (w2v l0 x1);rwa [h] at this
inductive Hk where
def NJ (l0:List B4) (x1:Int):Hk->CE
 :=nofun
def w1d (l0:List B4) (x1:Int):Hk->Xu Hk
 :=nofun
def QI (l0:List B4) (x1:Int):Xu Hk:=(bif (Yk (B2 l0)) then (bif ((Ui (B2 l0)) != 0) then (.ret [(.agg [(.int .u8 0),(.int .i64 0),(.int .i64 0),(.int .i64 0)]),(.int .i64 (Ui (B2 l0)))]) else (bif (decide (x1<0)) then (.ret [(.agg [(.int .u8 0),(.int .i64 0),(.int .i64 0),(.int .i64 0)]),(.int .i64 2)]) else (bif (decide (x1>=(l0.length:Int))) then (.ret [(.agg [(.int .u8 0),(.int .i64 0),(.int .i64 0),(.int .i64 0)]),(.int .i64 2)]) else (bif (Ji (B2 l0) x1) then (.ret [(.agg [(.int .u8 (PH (B2 l0) x1).a),(.int .i64 (PH (B2 l0) x1).b),(.int .i64 (PH (B2 l0) x1).c),(.int .i64 (PH (B2 l0) x1).d)]),(.int .i64 (v5c (B2 l0) x1))]) else .stuck)))) else .stuck)
theorem w8y (l0:List B4) (x1:Int): ∀s,Wj prog (Zy prog 19) (NJ l0 x1) (NJ l0 x1 s) (w1d l0 x1 s)
 :=nofun
theorem w1e (l0:List B4) (x1:Int):Wj prog (Zy prog 19) (NJ l0 x1) (Zg prog 19 [(.dat l0.length (Zz l0)),(.int .i64 x1)] true []) (QI l0 x1):=(lo fun cM=>let e:=pp (pp (xr l0) (xw cM)) nn;let f:=Zf prog 19 [1,0,1,1,0,0] 1;let h:=Zy prog 19;(lb (fun k0=>(Yt ⟨⟨19,0,true⟩,none,f,none,h,⟨Ye [(4,(.ptr 0 0)),(5,(ii (Ui (B2 l0))))],Xt [⟨[(.int .u8 0),(ii 0),(ii 0),(ii 0)],42,none⟩] 0,1,[],true⟩,[],.leaf⟩ (sl Qx 49 [] ⟨[0],[],[some [4,5]],[]⟩ b7 (bl 2 3) (tt k0 (tt k0 e))) rfl (by kernel_rfl))) (fun k0=>(lb (fun k1=>(Yt ⟨⟨19,0,true⟩,none,f,none,h,⟨Ye [(4,(.ptr 0 0)),(5,(ii 2))],Xt [⟨[(.int .u8 0),(ii 0),(ii 0),(ii 0)],42,none⟩] 0,1,[],true⟩,[],.leaf⟩ (sl Qx 62 [] ⟨[0],[],[some [4,5]],[]⟩ b7 (bl 7 126) (tt k1 (tt k0 e))) rfl (by kernel_rfl))) (fun k1=>let i:=tt k1 (tt k0 e);(lb (fun k2=>(Yt ⟨⟨19,0,true⟩,none,f,none,h,⟨Ye [(4,(.ptr 0 0)),(5,(ii 2))],Xt [⟨[(.int .u8 0),(ii 0),(ii 0),(ii 0)],42,none⟩] 0,1,[],true⟩,[],.leaf⟩ (sl Qx 62 [] ⟨[0],[],[some [4,5]],[]⟩ b7 (bl 7 96) (tt k2 i)) rfl (by kernel_rfl))) (fun k2=>(lo fun o0=>let g:=PH (B2 l0) x1;(Yt ⟨⟨19,0,true⟩,none,(Zf prog 3 [1,1,1,1,1,1,0] 1),none,h,⟨Ye [(4,(.ptr 0 0)),(5,(ii (v5c (B2 l0) x1)))],Xt [⟨[(.int .u8 g.a),(ii g.b),(ii g.c),(ii g.d)],42,none⟩] 0,1,[],true⟩,[],.leaf⟩ (sl Qx 67 [] ⟨[0],[],[some [4,5]],[]⟩ b7 (bl 7 0) (pp (pp (xr l0) (xw o0)) (tt k2 i))) rfl (by kernel_rfl))))))))))
theorem u2b (l0:List B4) (x1:Int) (n:Nat) (vs:List B1) (h:Yw (w1d l0 x1) n (QI l0 x1)=.ret vs):Js prog (Zy prog 19) (Zg prog 19 [(.dat l0.length (Zz l0)),(.int .i64 x1)] true []) vs:=by have:=Ze (w8y l0 x1) n _ (w1e l0 x1);rwa [h] at this
theorem L4 {l:List B4} (h:(Ui l != 0)=false):l.length<=200/\EL l=0/\G9 l l.length:=by
 have h:Ui l=0:=by simpa using h
 unfold Ui at h;by_cases g:200<l.length
 .rw [Aa g] at h;cases h
 .rw [Ah g,Ab] at h;cases g2:EL l != 0 with
  | true=>rw [g2,Af] at h;rw [h] at g2;cases g2
  | false=>
   rw [g2,Ab] at h;refine ⟨by omega,by simpa using g2,fun j hj=> ?_⟩;cases g3:(List.range l.length).any (DW l) with
   | true=>rw [g3] at h;cases h
   | false=>simpa using List.any_eq_false.1 g3 j (AZ.2 hj)
theorem WU {l:List B4} (h:(Ui l != 0)=false) {i:Nat} (hi:i<l.length):FF l i:=by obtain ⟨h1,h2,h3⟩:=L4 h;have:=h3 i hi;unfold DW at this;rw [AT] at this;exact Vl (fun j hj=>h3 j (by omega)) this.1
theorem v3b {l:List B4} (ho:Yk l=true) (h:(Ui l != 0)=false) {i:Int} (h0: ¬i<0) (h1: ¬i>=(l.length:Int)):Wi l i=true:=by
 obtain ⟨j,rfl⟩: ∃j:Nat,i=(j:Int):=⟨i.toNat,by omega⟩
 have:=(L4 h).1;exact QJ ho (by omega) (by omega) (WU h (by omega))
def Fs (l:List B4) (i:Int):Int:=bif Ui l != 0 then Ui l else bif decide (i<0) then 2 else bif decide (i>=(l.length:Int)) then 2 else 0
def Em (l:List B4) (i:Int):Int:=Fs l i
def Jc (l:List B4) (i:Int):List UInt8:=bif Fs l i != 0 then [] else Xa l i
def L5 (l:List B4) (i:Int):Bool:=Yk l
theorem j1z (l:List B4) (i:Int) (h:L5 l i=true): ∃N,Yw (w1h l i) N (QF l i)=.ret [.str (Jc l i),.int .i64 (Em l i)]:=⟨0,by
 show QF l i=_;unfold QF Jc Em Fs;simp only [Yg];rw [Zp (show Yk l=true from h)];cases g:Ui l != 0 with
 | true=>(simp only [Af,g];try rfl)
 | false=>
  simp only [Ab];by_cases g1:i<0
  .rw [Aa g1];rfl
  .rw [Ah g1];by_cases g2:i>=(l.length:Int)
   .rw [Aa g2];rfl
   .rw [Ah g2,Ab,Ab,Ab,Ab,Zp (v3b h g g1 g2)];rfl⟩
def OS :List B1->Option (B1×Bool)
 | [a0,.int .i64 i]=>match C7 B4 a0 with
  | some (L,g,n)=>some (.tup [.str (Jc L i),.int .i64 (Em L i)],CQ B4 n g&&L5 L i)
  | _=>none
 | _=>none
theorem j4m {S:B3} (hS:Zv prog S):Zv prog (S.with TC OS):=CP hS (by kernel_rfl) fun args v h=>by
 unfold OS at h;split at h
 .rename_i a0 i;split at h
  .rename_i L g n e0;simp only [Ae,Ac,Ad] at h;obtain ⟨rfl,ho0,hw⟩:=h;obtain ⟨N,hN⟩:=j1z L i hw;exact ⟨_,_,(.cons (Xf e0 ho0) (.cons (.refl _) .nil)),rfl,u2e L i N _ hN,5,rfl⟩
  .cases h
 .cases h
def Qj (l:List B4) (i:Int):Int:=bif Fs l i != 0 then Fs l i else v5c l i
def Yr (l:List B4) (i:Int):R4:=bif Fs l i != 0 then z4 else PH l i
def Kf (l:List B4) (i:Int):Bool:=Yk l&&l.all fun x=>decide (0<=x.t)
theorem u9v {l:List B4} (ho:(l.all fun x=>decide (0<=x.t))=true) (h:(Ui l != 0)=false) {i:Int} (h0: ¬i<0) (h1: ¬i>=(l.length:Int)):Ji l i=true:=by
 obtain ⟨j,rfl⟩: ∃j:Nat,i=(j:Int):=⟨i.toNat,by omega⟩
 have hl:=(L4 h).1;have hk:=(WU h (show j<l.length by omega)).1;unfold Ji;rw [Zj,hk,ho,Aa (show (0:Int)<=(j:Int)/\(j:Int)<(l.length:Int) by omega),Aa (show l.length<=1000 by omega)];rfl
theorem j1x (l:List B4) (i:Int) (h:Kf l i=true): ∃N,Yw (w1d l i) N (QI l i)=.ret [IR (Yr l i),.int .i64 (Qj l i)]:=⟨0,by
 unfold Kf at h;rw [Ad] at h;show QI l i=_;unfold QI Yr Qj Fs;simp only [Yg];rw [Zp (show Yk l=true from h.1)];cases g:Ui l != 0 with
 | true=>(simp only [Af,g];try rfl)
 | false=>
  simp only [Ab];by_cases g1:i<0
  .rw [Aa g1];rfl
  .rw [Ah g1];by_cases g2:i>=(l.length:Int)
   .rw [Aa g2];rfl
   .rw [Ah g2,Ab,Ab,Ab,Ab,Zp (u9v h.2 g g1 g2)];rfl⟩
def OP :List B1->Option (B1×Bool)
 | [a0,.int .i64 i]=>match C7 B4 a0 with
  | some (L,g,n)=>some (.tup [IR (Yr L i),.int .i64 (Qj L i)],CQ B4 n g&&Kf L i)
  | _=>none
 | _=>none
theorem j4k {S:B3} (hS:Zv prog S):Zv prog (S.with TB OP):=CP hS (by kernel_rfl) fun args v h=>by
 unfold OP at h;split at h
 .rename_i a0 i;split at h
  .rename_i L g n e0;simp only [Ae,Ac,Ad] at h;obtain ⟨rfl,ho0,hw⟩:=h;obtain ⟨N,hN⟩:=j1x L i hw;exact ⟨_,_,(.cons (Xf e0 ho0) (.cons (.refl _) .nil)),rfl,u2b L i N _ hN,5,rfl⟩
  .cases h
 .cases h
def Na (l:List B4) (p:List UInt8):Nat->Nat->Int×Int
 | 0,_=>(0,6)
 | k+1,i=>bif Xa l (i:Int) == p then ((i:Int),0) else Na l p k (i+1)
def GN (l:List B4) (p:List UInt8):Int×Int:=bif Ui l != 0 then (0,Ui l) else bif C4 p != 0 then (0,C4 p) else Na l p l.length 0
def Li (l:List B4) (p:List UInt8):Int:=(GN l p).1
def Lj (l:List B4) (p:List UInt8):Int:=(GN l p).2
def PT (l:List B4) (p:List UInt8):Bool:=Yk l&&decide (p.length<=1000000)
theorem u8g {l:List B4} {p:List UInt8} (ho:Yk l=true) (h:(Ui l != 0)=false): ∀(k i:Nat),i+k=l.length-> ∃N,Yw (LH l p) N (.to (.h0 (i:Int)))=.ret [.int .i64 (Na l p k i).1,.int .i64 (Na l p k i).2]
 | 0,i,hk=>⟨1,by
  rw [Zw];unfold LH;simp only [];rw [Xz (by omega)];rfl⟩
 | k+1,i,hk=>by
  have hl:=(L4 h).1;have w2:wrap .i64 ((i:Int)+1)=((i+1:Nat):Int):=Zm (by omega);have e:LH l p (.h0 (i:Int))=bif Xa l (i:Int) == p then .ret [.int .i64 (i:Int),.int .i64 0] else .to (.h0 ((i+1:Nat):Int)):=by unfold LH;simp only [Yg,w2];rw [Yb (by omega),Af,Zp (v3b ho h (by omega) (by omega))]
  rw [Na];cases g:Xa l (i:Int) == p with
  | true=>exact ⟨1,by rw [Zw,e,g];rfl⟩
  | false=>obtain ⟨N,hN⟩:=u8g (p:=p) ho h k (i+1) (by omega);exact ⟨N+1,by rw [Zw,e,g,Ab,Ab,hN]⟩
theorem j3j (l:List B4) (p:List UInt8) (h:PT l p=true): ∃N,Yw (LH l p) N (VB l p)=.ret [.int .i64 (Li l p),.int .i64 (Lj l p)]:=by
 unfold PT at h;rw [Ad] at h;unfold VB Li Lj GN;simp only [Yg];rw [Zp h.1,Zp (show Up p=true from h.2)];cases g:Ui l != 0 with
 | true=>exact ⟨0,rfl⟩
 | false=>
  cases g2:C4 p != 0 with
  | true=>exact ⟨0,rfl⟩
  | false=>exact u8g h.1 g l.length 0 (Al _)
def O5 :List B1->Option (B1×Bool)
 | [a0,.str i]=>match C7 B4 a0 with
  | some (L,g,n)=>some (.tup [.int .i64 (Li L i),.int .i64 (Lj L i)],CQ B4 n g&&PT L i)
  | _=>none
 | _=>none
theorem j4z {S:B3} (hS:Zv prog S):Zv prog (S.with T0 O5):=CP hS (by kernel_rfl) fun args v h=>by
 unfold O5 at h;split at h
 .rename_i a0 i;split at h
  .rename_i L g n e0;simp only [Ae,Ac,Ad] at h;obtain ⟨rfl,ho0,hw⟩:=h;obtain ⟨N,hN⟩:=j3j L i hw;exact ⟨_,_,(.cons (Xf e0 ho0) (.cons (.refl _) .nil)),rfl,u3w L i N _ hN,5,rfl⟩
  .cases h
 .cases h
theorem Ki (sep x:List UInt8) (r:List (List UInt8)):joinTail sep (x::r)=sep++x++joinTail sep r:=by simp [joinTail]
def H7 (L:List (List UInt8)):List UInt8:=Nc L [47]
def SX0 :B3:=((Oz.with TR OZ).with SW OH).with Tl Od
def SX :B3:=fun g=>bif Nat.beq g Tj then some (.eff Oa) else SX0 g
theorem Zb :Zv prog SX:=v2b (PS (PS (PS RD (by kernel_rfl) Nk) (by kernel_rfl) MP) (by kernel_rfl) Oo) (by kernel_rfl) j5t
section
attribute [local irreducible] Ui Yk
inductive Ey where
 | h0 (v17:Int) (aC:List By)
 | h1 (v17:Int) (v45:List R6) (v46:Int) (v47:Int) (aC:List By)
 | h2 (bP:Int) (bO:List R6) (bQ:Int) (bR:Int) (aC:List By) (aI:Int) (bL:Int) (bA:Int) (aM:Int) (aT:Int) (aY:Int)
 | h3 (bP:Int) (bO:List R6) (bQ:Int) (bR:Int) (aC:List By) (aI:Int) (bL:Int) (bA:Int) (aM:Int) (aT:Int) (aY:Int)
 | h4 (bP:Int) (bO:List R6) (bQ:Int) (bR:Int) (aC:List By) (aI:Int) (bL:Int) (bA:Int) (aM:Int) (aT:Int) (aY:Int)
 | h5 (bP:Int) (bO:List R6) (bQ:Int) (bR:Int) (aC:List By) (aI:Int) (bL:Int) (bA:Int) (aM:Int) (aT:Int) (aY:Int)
 | h6 (bP:Int) (bO:List R6) (bQ:Int) (bR:Int) (aC:List By) (aI:Int) (bL:Int) (bA:Int) (aM:Int) (aT:Int) (aY:Int)
 | h7 (bP:Int) (bO:List R6) (bQ:Int) (bR:Int) (aC:List By) (aI:Int) (bL:Int) (bA:Int) (aM:Int) (aT:Int) (aY:Int)
 | h8 (bP:Int) (bO:List R6) (bQ:Int) (bR:Int) (aC:List By) (aI:Int) (bL:Int) (bA:Int) (aM:Int) (aT:Int) (aY:Int)
def Lr (l0:List B4) (bP:Int) (bO:List R6) (bQ:Int) (bR:Int):CX:=⟨⟨76,0,true⟩,(CU prog 10 [1,1,1,0,1,0,0,1,1,0,0,1,1,1,0,0,1,1,0,0,1] 19),(Zf prog 10 [1,1,1,0,1,0,0,1,1,0,0,1,1,1,0,0,1,1,0,0,1] 1),none,(Zy prog 10),Ye [(0,(.dat l0.length (Zz l0))),(5,(.ptr 0 0)),(15,(.dat l0.length (Zz l0))),(16,(ii (l0.length:Int))),(17,(ii bP)),(45,(.dat bO.length (Zz bO))),(46,(ii bQ)),(47,(ii bR)),(69,(.sl 2 0 6 (.un 1)))]⟩
def Gl (aC:List By):B6:=⟨[(.obj .bld),(.sla 1 1 0 aC.length (.un 1))],75,none⟩
abbrev Un (l0:List B4) (v17:Int):=(Xq (wr (rd l0 (tn v17)).t))
abbrev Jf (l0:List B4) (v17:Int):=(Xq (rd l0 (tn v17)).x)
def Ls :=(Zf prog 35 [1,0,1,0,0] 0)
abbrev Qr (l0:List B4) (v17:Int):=(Xq (rd l0 (tn v17)).y)
def Lt (aI:Int) (bL:Int) (bA:Int) (aM:Int) (aT:Int) (aY:Int):B6:=⟨[(ii aI),(ii bL),(ii bA),(ii aM),(ii aT),(ii aY)],3,none⟩
abbrev Gv (l0:List B4) (v17:Int):=(Xq (rd l0 (tn v17)).z)
abbrev x0s (aC:List By) (aI:Int):=((aC++[(yB 32)])++(CF (Xq aI)))
abbrev x0r (aC:List By) (bL:Int):=((aC++[(yB 32)])++(CF (Xq bL)))
abbrev Zl (aC:List By) (bA:Int):=((aC++[(yB 32)])++(CF (Xq bA)))
abbrev y1o (aC:List By) (aM:Int):=((aC++[(yB 32)])++(CF (Xq aM)))
abbrev y1n (aC:List By) (aT:Int):=((aC++[(yB 32)])++(CF (Xq aT)))
abbrev y1m (aC:List By) (aY:Int):=((aC++[(yB 32)])++(CF (Xq aY)))
def ML (l0:List B4):Ey->CE
 | .h0 v17 aC=>⟨⟨76,0,true⟩,none,(Zf prog 10 [1,1,1,0,1,0,0] 0),none,(Zy prog 10),⟨Ye [(0,(.dat l0.length (Zz l0))),(5,(.ptr 0 0)),(15,(.dat l0.length (Zz l0))),(16,(ii (l0.length:Int))),(17,(ii v17))],Xt [(Gl aC),⟨rows aC.length (Zz aC),5,some ⟨1,aC.length,(Zz aC)⟩⟩] 0,2,[],true⟩,[],.leaf⟩
 | .h1 v17 v45 v46 v47 aC=>⟨⟨76,0,true⟩,none,(Zf prog 10 [1,1,1,0,1,0,0,1,1,0,0,1,1,1,0,0] 0),none,(Zy prog 10),⟨Ye [(0,(.dat l0.length (Zz l0))),(5,(.ptr 0 0)),(15,(.dat l0.length (Zz l0))),(16,(ii (l0.length:Int))),(17,(ii v17)),(45,(.dat v45.length (Zz v45))),(46,(ii v46)),(47,(ii v47))],Xt [(Gl aC),⟨rows aC.length (Zz aC),5,some ⟨1,aC.length,(Zz aC)⟩⟩] 0,2,[],true⟩,[],.leaf⟩
 | .h2 bP bO bQ bR aC aI bL bA aM aT aY=>⟨⟨26,0,true⟩,none,Ls,none,[],⟨Ye [(0,(.ptr 0 0)),(11,(.sl 2 0 6 (.un 1))),(12,(ii 6)),(13,(ii 0))],Xt [(Gl aC),⟨rows aC.length (Zz aC),5,some ⟨1,aC.length,(Zz aC)⟩⟩,(Lt aI bL bA aM aT aY)] 0,3,[],true⟩,[(Lr l0 bP bO bQ bR)],.leaf⟩
 | .h3 bP bO bQ bR aC aI bL bA aM aT aY=>⟨⟨26,0,true⟩,none,Ls,none,[],⟨Ye [(0,(.ptr 0 0)),(11,(.sl 2 0 6 (.un 1))),(12,(ii 6)),(13,(ii 1))],Xt [(Gl aC),⟨rows aC.length (Zz aC),5,some ⟨1,aC.length,(Zz aC)⟩⟩,(Lt aI bL bA aM aT aY)] 0,3,[],true⟩,[(Lr l0 bP bO bQ bR)],.leaf⟩
 | .h4 bP bO bQ bR aC aI bL bA aM aT aY=>⟨⟨26,0,true⟩,none,Ls,none,[],⟨Ye [(0,(.ptr 0 0)),(11,(.sl 2 0 6 (.un 1))),(12,(ii 6)),(13,(ii 2))],Xt [(Gl aC),⟨rows aC.length (Zz aC),5,some ⟨1,aC.length,(Zz aC)⟩⟩,(Lt aI bL bA aM aT aY)] 0,3,[],true⟩,[(Lr l0 bP bO bQ bR)],.leaf⟩
 | .h5 bP bO bQ bR aC aI bL bA aM aT aY=>⟨⟨26,0,true⟩,none,Ls,none,[],⟨Ye [(0,(.ptr 0 0)),(11,(.sl 2 0 6 (.un 1))),(12,(ii 6)),(13,(ii 3))],Xt [(Gl aC),⟨rows aC.length (Zz aC),5,some ⟨1,aC.length,(Zz aC)⟩⟩,(Lt aI bL bA aM aT aY)] 0,3,[],true⟩,[(Lr l0 bP bO bQ bR)],.leaf⟩
 | .h6 bP bO bQ bR aC aI bL bA aM aT aY=>⟨⟨26,0,true⟩,none,Ls,none,[],⟨Ye [(0,(.ptr 0 0)),(11,(.sl 2 0 6 (.un 1))),(12,(ii 6)),(13,(ii 4))],Xt [(Gl aC),⟨rows aC.length (Zz aC),5,some ⟨1,aC.length,(Zz aC)⟩⟩,(Lt aI bL bA aM aT aY)] 0,3,[],true⟩,[(Lr l0 bP bO bQ bR)],.leaf⟩
 | .h7 bP bO bQ bR aC aI bL bA aM aT aY=>⟨⟨26,0,true⟩,none,Ls,none,[],⟨Ye [(0,(.ptr 0 0)),(11,(.sl 2 0 6 (.un 1))),(12,(ii 6)),(13,(ii 5))],Xt [(Gl aC),⟨rows aC.length (Zz aC),5,some ⟨1,aC.length,(Zz aC)⟩⟩,(Lt aI bL bA aM aT aY)] 0,3,[],true⟩,[(Lr l0 bP bO bQ bR)],.leaf⟩
 | .h8 bP bO bQ bR aC aI bL bA aM aT aY=>⟨⟨26,0,true⟩,none,Ls,none,[],⟨Ye [(0,(.ptr 0 0)),(11,(.sl 2 0 6 (.un 1))),(12,(ii 6)),(13,(ii 6))],Xt [(Gl aC),⟨rows aC.length (Zz aC),5,some ⟨1,aC.length,(Zz aC)⟩⟩,(Lt aI bL bA aM aT aY)] 0,3,[],true⟩,[(Lr l0 bP bO bQ bR)],.leaf⟩
def Ip :List (Option (List Nat)):=[some [0,5,15,16,17]]
def Ir :List (Option (List Nat)):=[]
def Io :List (Option (List Nat)):=[some [0,5,15,16,17,45,46,47]]
def Iq :List (Option (List Nat)):=[]
def SL :List (Option (List Nat)):=[some [0,11,12,13],some [0,5,15,16,17,45,46,47,69]]
def ST :List (Option (List Nat)):=[]
def SK :List (Option (List Nat)):=[some [0,11,12,13],some [0,5,15,16,17,45,46,47,69]]
def SS :List (Option (List Nat)):=[]
def SJ :List (Option (List Nat)):=[some [0,11,12,13],some [0,5,15,16,17,45,46,47,69]]
def SR :List (Option (List Nat)):=[]
def SI :List (Option (List Nat)):=[some [0,11,12,13],some [0,5,15,16,17,45,46,47,69]]
def SQ :List (Option (List Nat)):=[]
def SH :List (Option (List Nat)):=[some [0,11,12,13],some [0,5,15,16,17,45,46,47,69]]
def SP :List (Option (List Nat)):=[]
def SG :List (Option (List Nat)):=[some [0,11,12,13],some [0,5,15,16,17,45,46,47,69]]
def SO :List (Option (List Nat)):=[]
def SF :List (Option (List Nat)):=[some [0,11,12,13],some [0,5,15,16,17,45,46,47,69]]
def SN :List (Option (List Nat)):=[]
def Wm (l0:List B4):Ey->Xu Ey
 | .h0 v17 aC=>(bif (decide (v17<(l0.length:Int))) then (bif ((decide (0<=v17/\v17<(l0.length:Int)))&&true) then (bif (Wi (B2 l0) v17) then (bif (JF ([110,111,100,101,32]:List UInt8) (Xa (B2 l0) v17)) then (bif (decide ((aC.length+(([110,111,100,101,32]:List UInt8)++(Xa (B2 l0) v17)).length +1)*(1+1)<=Vd)) then (bif (Nat.beq 1 1&&(Nat.beq 1 1&&decide (0+aC.length<=aC.length))) then (bif (Nat.beq 1 1&&((decide (0+(aC.length+(([110,111,100,101,32]:List UInt8)++(Xa (B2 l0) v17)).length)=(aC.length+(([110,111,100,101,32]:List UInt8)++(Xa (B2 l0) v17)).length)))&&decide (((aC.length+(([110,111,100,101,32]:List UInt8)++(Xa (B2 l0) v17)).length)+1+1)*(1+1)<=Vd))) then (bif (Yd (wrap .i64 (rd l0 v17.toNat).t)) then (bif (decide ((((aC.length+(([110,111,100,101,32]:List UInt8)++(Xa (B2 l0) v17)).length)+1)+(Xq (wrap .i64 (rd l0 v17.toNat).t)).length +1)*(1+1)<=Vd)) then (bif (Nat.beq 1 1&&(Nat.beq 1 1&&decide (0+((aC.length+(([110,111,100,101,32]:List UInt8)++(Xa (B2 l0) v17)).length)+1)<=((aC.length+(([110,111,100,101,32]:List UInt8)++(Xa (B2 l0) v17)).length)+1)))) then (bif (Nat.beq 1 1&&((decide (0+(((aC.length+(([110,111,100,101,32]:List UInt8)++(Xa (B2 l0) v17)).length)+1)+(Xq (wrap .i64 (rd l0 v17.toNat).t)).length)=(((aC.length+(([110,111,100,101,32]:List UInt8)++(Xa (B2 l0) v17)).length)+1)+(Xq (wrap .i64 (rd l0 v17.toNat).t)).length)))&&decide (((((aC.length+(([110,111,100,101,32]:List UInt8)++(Xa (B2 l0) v17)).length)+1)+(Xq (wrap .i64 (rd l0 v17.toNat).t)).length)+1+1)*(1+1)<=Vd))) then (bif (Yd (rd l0 v17.toNat).x) then (bif (decide ((((((aC.length+(([110,111,100,101,32]:List UInt8)++(Xa (B2 l0) v17)).length)+1)+(Xq (wrap .i64 (rd l0 v17.toNat).t)).length)+1)+(Xq (rd l0 v17.toNat).x).length +1)*(1+1)<=Vd)) then (bif (Nat.beq 1 1&&(Nat.beq 1 1&&decide (0+((((aC.length+(([110,111,100,101,32]:List UInt8)++(Xa (B2 l0) v17)).length)+1)+(Xq (wrap .i64 (rd l0 v17.toNat).t)).length)+1)<=((((aC.length+(([110,111,100,101,32]:List UInt8)++(Xa (B2 l0) v17)).length)+1)+(Xq (wrap .i64 (rd l0 v17.toNat).t)).length)+1)))) then (bif (Nat.beq 1 1&&((decide (0+(((((aC.length+(([110,111,100,101,32]:List UInt8)++(Xa (B2 l0) v17)).length)+1)+(Xq (wrap .i64 (rd l0 v17.toNat).t)).length)+1)+(Xq (rd l0 v17.toNat).x).length)=(((((aC.length+(([110,111,100,101,32]:List UInt8)++(Xa (B2 l0) v17)).length)+1)+(Xq (wrap .i64 (rd l0 v17.toNat).t)).length)+1)+(Xq (rd l0 v17.toNat).x).length)))&&decide (((((((aC.length+(([110,111,100,101,32]:List UInt8)++(Xa (B2 l0) v17)).length)+1)+(Xq (wrap .i64 (rd l0 v17.toNat).t)).length)+1)+(Xq (rd l0 v17.toNat).x).length)+1+1)*(1+1)<=Vd))) then (bif (Yd (rd l0 v17.toNat).y) then (bif (decide ((((((((aC.length+(([110,111,100,101,32]:List UInt8)++(Xa (B2 l0) v17)).length)+1)+(Xq (wrap .i64 (rd l0 v17.toNat).t)).length)+1)+(Xq (rd l0 v17.toNat).x).length)+1)+(Xq (rd l0 v17.toNat).y).length +1)*(1+1)<=Vd)) then (bif (Nat.beq 1 1&&(Nat.beq 1 1&&decide (0+((((((aC.length+(([110,111,100,101,32]:List UInt8)++(Xa (B2 l0) v17)).length)+1)+(Xq (wrap .i64 (rd l0 v17.toNat).t)).length)+1)+(Xq (rd l0 v17.toNat).x).length)+1)<=((((((aC.length+(([110,111,100,101,32]:List UInt8)++(Xa (B2 l0) v17)).length)+1)+(Xq (wrap .i64 (rd l0 v17.toNat).t)).length)+1)+(Xq (rd l0 v17.toNat).x).length)+1)))) then (bif (Nat.beq 1 1&&((decide (0+(((((((aC.length+(([110,111,100,101,32]:List UInt8)++(Xa (B2 l0) v17)).length)+1)+(Xq (wrap .i64 (rd l0 v17.toNat).t)).length)+1)+(Xq (rd l0 v17.toNat).x).length)+1)+(Xq (rd l0 v17.toNat).y).length)=(((((((aC.length+(([110,111,100,101,32]:List UInt8)++(Xa (B2 l0) v17)).length)+1)+(Xq (wrap .i64 (rd l0 v17.toNat).t)).length)+1)+(Xq (rd l0 v17.toNat).x).length)+1)+(Xq (rd l0 v17.toNat).y).length)))&&decide (((((((((aC.length+(([110,111,100,101,32]:List UInt8)++(Xa (B2 l0) v17)).length)+1)+(Xq (wrap .i64 (rd l0 v17.toNat).t)).length)+1)+(Xq (rd l0 v17.toNat).x).length)+1)+(Xq (rd l0 v17.toNat).y).length)+1+1)*(1+1)<=Vd))) then (bif (Yd (rd l0 v17.toNat).z) then (bif (decide ((((((((((aC.length+(([110,111,100,101,32]:List UInt8)++(Xa (B2 l0) v17)).length)+1)+(Xq (wrap .i64 (rd l0 v17.toNat).t)).length)+1)+(Xq (rd l0 v17.toNat).x).length)+1)+(Xq (rd l0 v17.toNat).y).length)+1)+(Xq (rd l0 v17.toNat).z).length +1)*(1+1)<=Vd)) then (bif (Nat.beq 1 1&&(Nat.beq 1 1&&decide (0+((((((((aC.length+(([110,111,100,101,32]:List UInt8)++(Xa (B2 l0) v17)).length)+1)+(Xq (wrap .i64 (rd l0 v17.toNat).t)).length)+1)+(Xq (rd l0 v17.toNat).x).length)+1)+(Xq (rd l0 v17.toNat).y).length)+1)<=((((((((aC.length+(([110,111,100,101,32]:List UInt8)++(Xa (B2 l0) v17)).length)+1)+(Xq (wrap .i64 (rd l0 v17.toNat).t)).length)+1)+(Xq (rd l0 v17.toNat).x).length)+1)+(Xq (rd l0 v17.toNat).y).length)+1)))) then (bif (Nat.beq 1 1&&((decide (0+(((((((((aC.length+(([110,111,100,101,32]:List UInt8)++(Xa (B2 l0) v17)).length)+1)+(Xq (wrap .i64 (rd l0 v17.toNat).t)).length)+1)+(Xq (rd l0 v17.toNat).x).length)+1)+(Xq (rd l0 v17.toNat).y).length)+1)+(Xq (rd l0 v17.toNat).z).length)=(((((((((aC.length+(([110,111,100,101,32]:List UInt8)++(Xa (B2 l0) v17)).length)+1)+(Xq (wrap .i64 (rd l0 v17.toNat).t)).length)+1)+(Xq (rd l0 v17.toNat).x).length)+1)+(Xq (rd l0 v17.toNat).y).length)+1)+(Xq (rd l0 v17.toNat).z).length)))&&decide (((((((((((aC.length+(([110,111,100,101,32]:List UInt8)++(Xa (B2 l0) v17)).length)+1)+(Xq (wrap .i64 (rd l0 v17.toNat).t)).length)+1)+(Xq (rd l0 v17.toNat).x).length)+1)+(Xq (rd l0 v17.toNat).y).length)+1)+(Xq (rd l0 v17.toNat).z).length)+1+1)*(1+1)<=Vd))) then (.to (.h1 v17 (rd l0 v17.toNat).s (((rd l0 v17.toNat).s.length :Nat):Int) 0 ((((((((((aC++(CF (([110,111,100,101,32]:List UInt8)++(Xa (B2 l0) v17))))++[(yB 32)])++(CF (Xq (wrap .i64 (rd l0 v17.toNat).t))))++[(yB 32)])++(CF (Xq (rd l0 v17.toNat).x)))++[(yB 32)])++(CF (Xq (rd l0 v17.toNat).y)))++[(yB 32)])++(CF (Xq (rd l0 v17.toNat).z)))++[(yB 10)]))) else .stuck) else .stuck) else .stuck) else .stuck) else .stuck) else .stuck) else .stuck) else .stuck) else .stuck) else .stuck) else .stuck) else .stuck) else .stuck) else .stuck) else .stuck) else .stuck) else .stuck) else .stuck) else .stuck) else .stuck) else .stuck) else .stuck) else (bif (decide ((aC.length:Int)>60000)) then (.ret [(.str []),(.int .i64 4)]) else (bif (decide (0+aC.length<=aC.length)) then (bif (sLe (F2 (aC.length) (fun k=>(Zz aC) (0+k)))) then (.ret [(.str (F2 (aC.length) (fun k=>(Zz aC) (0+k)))),(.int .i64 0)]) else .stuck) else .stuck)))
 | .h1 v17 v45 v46 v47 aC=>(bif (decide (v47<v46)) then (bif ((decide (0<=v47/\v47<(v45.length:Int)))&&true) then (bif (decide ((aC.length+3+1)*(1+1)<=Vd)) then (bif (Nat.beq 1 1&&(Nat.beq 1 1&&decide (0+aC.length<=aC.length))) then (.to (.h2 v17 v45 v46 v47 (aC++(CF ([98,111,120]:List UInt8))) (rd v45 v47.toNat).a (rd v45 v47.toNat).b (rd v45 v47.toNat).c (rd v45 v47.toNat).d (rd v45 v47.toNat).e (rd v45 v47.toNat).f)) else .stuck) else .stuck) else .stuck) else (.to (.h0 (wrap .i64 (v17+1)) aC)))
 | .h2 bP bO bQ bR aC aI bL bA aM aT aY=>(bif (Nat.beq 1 1&&((decide (0+aC.length=aC.length))&&decide ((aC.length+1+1)*(1+1)<=Vd))) then (bif (Yd aI) then (bif (decide (((aC.length+1)+(Xq aI).length +1)*(1+1)<=Vd)) then (bif (Nat.beq 1 1&&(Nat.beq 1 1&&decide (0+(aC.length+1)<=(aC.length+1)))) then (.to (.h3 bP bO bQ bR ((aC++[(yB 32)])++(CF (Xq aI))) aI bL bA aM aT aY)) else .stuck) else .stuck) else .stuck) else .stuck)
 | .h3 bP bO bQ bR aC aI bL bA aM aT aY=>(bif (Nat.beq 1 1&&((decide (0+aC.length=aC.length))&&decide ((aC.length+1+1)*(1+1)<=Vd))) then (bif (Yd bL) then (bif (decide (((aC.length+1)+(Xq bL).length +1)*(1+1)<=Vd)) then (bif (Nat.beq 1 1&&(Nat.beq 1 1&&decide (0+(aC.length+1)<=(aC.length+1)))) then (.to (.h4 bP bO bQ bR ((aC++[(yB 32)])++(CF (Xq bL))) aI bL bA aM aT aY)) else .stuck) else .stuck) else .stuck) else .stuck)
 | .h4 bP bO bQ bR aC aI bL bA aM aT aY=>(bif (Nat.beq 1 1&&((decide (0+aC.length=aC.length))&&decide ((aC.length+1+1)*(1+1)<=Vd))) then (bif (Yd bA) then (bif (decide (((aC.length+1)+(Xq bA).length +1)*(1+1)<=Vd)) then (bif (Nat.beq 1 1&&(Nat.beq 1 1&&decide (0+(aC.length+1)<=(aC.length+1)))) then (.to (.h5 bP bO bQ bR ((aC++[(yB 32)])++(CF (Xq bA))) aI bL bA aM aT aY)) else .stuck) else .stuck) else .stuck) else .stuck)
 | .h5 bP bO bQ bR aC aI bL bA aM aT aY=>(bif (Nat.beq 1 1&&((decide (0+aC.length=aC.length))&&decide ((aC.length+1+1)*(1+1)<=Vd))) then (bif (Yd aM) then (bif (decide (((aC.length+1)+(Xq aM).length +1)*(1+1)<=Vd)) then (bif (Nat.beq 1 1&&(Nat.beq 1 1&&decide (0+(aC.length+1)<=(aC.length+1)))) then (.to (.h6 bP bO bQ bR ((aC++[(yB 32)])++(CF (Xq aM))) aI bL bA aM aT aY)) else .stuck) else .stuck) else .stuck) else .stuck)
 | .h6 bP bO bQ bR aC aI bL bA aM aT aY=>(bif (Nat.beq 1 1&&((decide (0+aC.length=aC.length))&&decide ((aC.length+1+1)*(1+1)<=Vd))) then (bif (Yd aT) then (bif (decide (((aC.length+1)+(Xq aT).length +1)*(1+1)<=Vd)) then (bif (Nat.beq 1 1&&(Nat.beq 1 1&&decide (0+(aC.length+1)<=(aC.length+1)))) then (.to (.h7 bP bO bQ bR ((aC++[(yB 32)])++(CF (Xq aT))) aI bL bA aM aT aY)) else .stuck) else .stuck) else .stuck) else .stuck)
 | .h7 bP bO bQ bR aC aI bL bA aM aT aY=>(bif (Nat.beq 1 1&&((decide (0+aC.length=aC.length))&&decide ((aC.length+1+1)*(1+1)<=Vd))) then (bif (Yd aY) then (bif (decide (((aC.length+1)+(Xq aY).length +1)*(1+1)<=Vd)) then (bif (Nat.beq 1 1&&(Nat.beq 1 1&&decide (0+(aC.length+1)<=(aC.length+1)))) then (.to (.h8 bP bO bQ bR ((aC++[(yB 32)])++(CF (Xq aY))) aI bL bA aM aT aY)) else .stuck) else .stuck) else .stuck) else .stuck)
 | .h8 bP bO bQ bR aC aI bL bA aM aT aY=>(bif (Nat.beq 1 1&&((decide (0+aC.length=aC.length))&&decide ((aC.length+1+1)*(1+1)<=Vd))) then (.to (.h1 bP bO bQ (wrap .i64 (bR+1)) (aC++[(yB 10)]))) else .stuck)
def QR (l0:List B4):Xu Ey:=(bif (Yk (B2 l0)) then (bif ((Ui (B2 l0)) != 0) then (.ret [(.str []),(.int .i64 (Ui (B2 l0)))]) else (.to (.h0 0 ([]:List By)))) else .stuck)
theorem w7g (l0:List B4): ∀s,Wj prog (Zy prog 10) (ML l0) (ML l0 s) (Wm l0 s)
 | .h0 v17 aC=>(lb (fun k0=>(lo fun o0=>(lo fun o1=>(lo fun o2=>(lo fun o3=>(lo fun o4=>(lo fun o5=>(lo fun o6=>(lo fun o7=>(lo fun o8=>(lo fun o9=>(lo fun o10=>(lo fun o11=>(lo fun o12=>(lo fun o13=>(lo fun o14=>(lo fun o15=>(lo fun o16=>(lo fun o17=>(lo fun o18=>(lo fun o19=>(lo fun o20=>(lo fun o21=>let a:=xL ((((((((((aC.length+(([110,111,100,101,32]:List UInt8)++(Xa (B2 l0) v17)).length)+1)+(Un l0 v17).length)+1)+(Jf l0 v17).length)+1)+(Qr l0 v17).length)+1)+(Gv l0 v17).length)+1) ((((((((((aC++(CF (([110,111,100,101,32]:List UInt8)++(Xa (B2 l0) v17))))++[(yB 32)])++(CF (Un l0 v17)))++[(yB 32)])++(CF (Jf l0 v17)))++[(yB 32)])++(CF (Qr l0 v17)))++[(yB 32)])++(CF (Gv l0 v17)))++[(yB 10)]).length (by first | exact Yc rfl | exact Yc (by simp only [Ys,As,Au,AI,Yj] <;> omega) | assumption);let b:=aC++(CF (([110,111,100,101,32]:List UInt8)++(Xa (B2 l0) v17)));let c:=CF (Gv l0 v17);let d:=CF (Un l0 v17);let e:=CF (Jf l0 v17);let f:=CF (Qr l0 v17);let g:=b++[(yB 32)];(sl Zb 29 [] ⟨[0,17],[],Io,Iq⟩ ⟨[],[.cells [.keep,.len ((((((((g++d)++[(yB 32)])++e)++[(yB 32)])++f)++[(yB 32)])++c)++[(yB 10)]).length],.rowed 1 ((((((((g++d)++[(yB 32)])++e)++[(yB 32)])++f)++[(yB 32)])++c)++[(yB 10)]).length (Zz ((((((((g++d)++[(yB 32)])++e)++[(yB 32)])++f)++[(yB 32)])++c)++[(yB 10)]))],[]⟩ (CA 5 [false]) (pp a (pp a (pp (xS ((((((((((aC.length+(([110,111,100,101,32]:List UInt8)++(Xa (B2 l0) v17)).length)+1)+(Un l0 v17).length)+1)+(Jf l0 v17).length)+1)+(Qr l0 v17).length)+1)+(Gv l0 v17).length)+1) (Zo (Yx (fun k=>(Zo (Yx (fun k=>(Zo (Yx (fun k=>(Zo (Yx (fun k=>(Zo (Yx (fun k=>(Zz aC) (0+k)) aC.length (Vt (([110,111,100,101,32]:List UInt8)++(Xa (B2 l0) v17)))) 0 (aC.length+(([110,111,100,101,32]:List UInt8)++(Xa (B2 l0) v17)).length) 1 [(.int .u8 32)]) (0+k)) ((aC.length+(([110,111,100,101,32]:List UInt8)++(Xa (B2 l0) v17)).length)+1) (Vt (Un l0 v17))) 0 (((aC.length+(([110,111,100,101,32]:List UInt8)++(Xa (B2 l0) v17)).length)+1)+(Un l0 v17).length) 1 [(.int .u8 32)]) (0+k)) ((((aC.length+(([110,111,100,101,32]:List UInt8)++(Xa (B2 l0) v17)).length)+1)+(Un l0 v17).length)+1) (Vt (Jf l0 v17))) 0 (((((aC.length+(([110,111,100,101,32]:List UInt8)++(Xa (B2 l0) v17)).length)+1)+(Un l0 v17).length)+1)+(Jf l0 v17).length) 1 [(.int .u8 32)]) (0+k)) ((((((aC.length+(([110,111,100,101,32]:List UInt8)++(Xa (B2 l0) v17)).length)+1)+(Un l0 v17).length)+1)+(Jf l0 v17).length)+1) (Vt (Qr l0 v17))) 0 (((((((aC.length+(([110,111,100,101,32]:List UInt8)++(Xa (B2 l0) v17)).length)+1)+(Un l0 v17).length)+1)+(Jf l0 v17).length)+1)+(Qr l0 v17).length) 1 [(.int .u8 32)]) (0+k)) ((((((((aC.length+(([110,111,100,101,32]:List UInt8)++(Xa (B2 l0) v17)).length)+1)+(Un l0 v17).length)+1)+(Jf l0 v17).length)+1)+(Qr l0 v17).length)+1) (Vt (Gv l0 v17))) 0 (((((((((aC.length+(([110,111,100,101,32]:List UInt8)++(Xa (B2 l0) v17)).length)+1)+(Un l0 v17).length)+1)+(Jf l0 v17).length)+1)+(Qr l0 v17).length)+1)+(Gv l0 v17).length) 1 [(.int .u8 10)]) (Zz ((((((((((aC++(CF (([110,111,100,101,32]:List UInt8)++(Xa (B2 l0) v17))))++[(yB 32)])++(CF (Un l0 v17)))++[(yB 32)])++(CF (Jf l0 v17)))++[(yB 32)])++(CF (Qr l0 v17)))++[(yB 32)])++(CF (Gv l0 v17)))++[(yB 10)])) (by repeat' (first | exact Vm _ _ | assumption | exact Kj | exact Ja | rfl | (refine Qn ?_ ?_ rfl rfl rfl) | (refine Ka ?_ ?_ ?_ rfl) | exact Kc (Vm _ _) rfl | apply Uc | exact I5 _ | exact Al _ | (simp only [Ys,As,Au,AI,Yj] <;> omega)))) (pp (pp (xF (Zo (Yx (fun k=>(Zo (Yx (fun k=>(Zo (Yx (fun k=>(Zo (Yx (fun k=>(Zo (Yx (fun k=>(Zz aC) (0+k)) aC.length (Vt (([110,111,100,101,32]:List UInt8)++(Xa (B2 l0) v17)))) 0 (aC.length+(([110,111,100,101,32]:List UInt8)++(Xa (B2 l0) v17)).length) 1 [(.int .u8 32)]) (0+k)) ((aC.length+(([110,111,100,101,32]:List UInt8)++(Xa (B2 l0) v17)).length)+1) (Vt (Un l0 v17))) 0 (((aC.length+(([110,111,100,101,32]:List UInt8)++(Xa (B2 l0) v17)).length)+1)+(Un l0 v17).length) 1 [(.int .u8 32)]) (0+k)) ((((aC.length+(([110,111,100,101,32]:List UInt8)++(Xa (B2 l0) v17)).length)+1)+(Un l0 v17).length)+1) (Vt (Jf l0 v17))) 0 (((((aC.length+(([110,111,100,101,32]:List UInt8)++(Xa (B2 l0) v17)).length)+1)+(Un l0 v17).length)+1)+(Jf l0 v17).length) 1 [(.int .u8 32)]) (0+k)) ((((((aC.length+(([110,111,100,101,32]:List UInt8)++(Xa (B2 l0) v17)).length)+1)+(Un l0 v17).length)+1)+(Jf l0 v17).length)+1) (Vt (Qr l0 v17))) 0 (((((((aC.length+(([110,111,100,101,32]:List UInt8)++(Xa (B2 l0) v17)).length)+1)+(Un l0 v17).length)+1)+(Jf l0 v17).length)+1)+(Qr l0 v17).length) 1 [(.int .u8 32)]) (0+k)) ((((((((aC.length+(([110,111,100,101,32]:List UInt8)++(Xa (B2 l0) v17)).length)+1)+(Un l0 v17).length)+1)+(Jf l0 v17).length)+1)+(Qr l0 v17).length)+1) (Vt (Gv l0 v17))) 0 (((((((((aC.length+(([110,111,100,101,32]:List UInt8)++(Xa (B2 l0) v17)).length)+1)+(Un l0 v17).length)+1)+(Jf l0 v17).length)+1)+(Qr l0 v17).length)+1)+(Gv l0 v17).length) 1 [(.int .u8 10)])) nn) (ww o21 (pp (pp (xw o20) (pp nn (xw o19))) (ww o18 (ww o17 (pp (pp (xw o16) (pp nn (xw o15))) (ww o14 (ww o13 (pp (pp (xw o12) (pp nn (xw o11))) (ww o10 (ww o9 (pp (pp (xw o8) (pp nn (xw o7))) (ww o6 (ww o5 (pp (pp (xw o4) (pp nn (xw o3))) (ww o2 (pp (pp (xr l0) (xw o1)) (ww o0 (tt k0 nn)))))))))))))))))))))))))))))))))))))))))))))) (fun k0=>(lb (fun k1=>(lr 76 3 [1,1,1,1,1,1,0] 1 10 [(2,(.str [])),(3,(ii 4))] (sl Zb 48 [] (b8 [2,3]) b7 (bl 2 2) (tt k1 (tt k0 nn))))) (fun k1=>(lo fun o0=>(lo fun o1=>let h:=xG (Nat.beq 1 1);(lr 76 3 [1,1,1,1,1,1,0] 1 10 [(2,(.str (F2 (aC.length) (fun k=>(Zz aC) (0+k))))),(3,(ii 0))] (sl Zb 51 [] (b8 [2,3]) b7 (bl 2 0) (pp (pp (xw o1) (pp h (pp h (pp (xw o0) (xY (aC.length) (fun k=>(Zz aC) (0+k))))))) (tt k1 (tt k0 nn)))))))))))
 | .h1 v17 v45 v46 v47 aC=>(lb (fun k0=>(lo fun o0=>(lo fun o1=>(lo fun o2=>let a:=xL (aC.length+3) (aC++(CF ([98,111,120]:List UInt8))).length (by first | exact Yc rfl | exact Yc (by simp only [Ys,As,Au,AI,Yj] <;> omega) | assumption);let b:=aC++(CF ([98,111,120]:List UInt8));(sl Zb 83 [] ⟨[0,4,3],[],SL,ST⟩ ⟨[],[.cells [.keep,.len b.length],.rowed 1 b.length (Zz b),.keep],[]⟩ [true] (pp a (pp a (pp (xS (aC.length+3) (Yx (fun k=>(Zz aC) (0+k)) aC.length (Vt ([98,111,120]:List UInt8))) (Zz (aC++(CF ([98,111,120]:List UInt8)))) (by repeat' (first | exact Vm _ _ | assumption | exact Kj | exact Ja | rfl | (refine Qn ?_ ?_ rfl rfl rfl) | (refine Ka ?_ ?_ ?_ rfl) | exact Kc (Vm _ _) rfl | apply Uc | exact I5 _ | exact Al _ | (simp only [Ys,As,Au,AI,Yj] <;> omega)))) (pp (pp (xF (Yx (fun k=>(Zz aC) (0+k)) aC.length (Vt ([98,111,120]:List UInt8)))) nn) (pp (pp (xw o2) (pp nn (xw o1))) (ww o0 (tt k0 nn)))))))))))) (fun k0=>(sl Zb 13 [] ⟨[0,1],[],Ip,Ir⟩ b7 [false] (pp (fl aC nn) (tt k0 nn)))))
 | .h2 bP bO bQ bR aC aI bL bA aM aT aY=>(lo fun o0=>(lo fun o1=>(lo fun o2=>(lo fun o3=>let a:=xL ((aC.length+1)+(Xq aI).length) (x0s aC aI).length (by first | exact Yc rfl | exact Yc (by simp only [Ys,As,Au,AI,Yj] <;> omega) | assumption);let b:=x0s aC aI;(sl Zb 91 [] ⟨[0,5,2],[],SK,SS⟩ ⟨[],[.cells [.keep,.len b.length],.rowed 1 b.length (Zz b),.keep],[]⟩ [true] (pp a (pp a (pp (xS ((aC.length+1)+(Xq aI).length) (Yx (fun k=>(Zo (Zz aC) 0 aC.length 1 [(.int .u8 32)]) (0+k)) (aC.length+1) (Vt (Xq aI))) (Zz (x0s aC aI)) (by repeat' (first | exact Vm _ _ | assumption | exact Kj | exact Ja | rfl | (refine Qn ?_ ?_ rfl rfl rfl) | (refine Ka ?_ ?_ ?_ rfl) | exact Kc (Vm _ _) rfl | apply Uc | exact I5 _ | exact Al _ | (simp only [Ys,As,Au,AI,Yj] <;> omega)))) (pp (pp (xF (Yx (fun k=>(Zo (Zz aC) 0 aC.length 1 [(.int .u8 32)]) (0+k)) (aC.length+1) (Vt (Xq aI)))) nn) (pp (pp (xw o3) (pp nn (xw o2))) (ww o1 (ww o0 nn))))))))))))
 | .h3 bP bO bQ bR aC aI bL bA aM aT aY=>(lo fun o0=>(lo fun o1=>(lo fun o2=>(lo fun o3=>let a:=xL ((aC.length+1)+(Xq bL).length) (x0r aC bL).length (by first | exact Yc rfl | exact Yc (by simp only [Ys,As,Au,AI,Yj] <;> omega) | assumption);let b:=x0r aC bL;(sl Zb 91 [] ⟨[0,5,2],[],SJ,SR⟩ ⟨[],[.cells [.keep,.len b.length],.rowed 1 b.length (Zz b),.keep],[]⟩ [true] (pp a (pp a (pp (xS ((aC.length+1)+(Xq bL).length) (Yx (fun k=>(Zo (Zz aC) 0 aC.length 1 [(.int .u8 32)]) (0+k)) (aC.length+1) (Vt (Xq bL))) (Zz (x0r aC bL)) (by repeat' (first | exact Vm _ _ | assumption | exact Kj | exact Ja | rfl | (refine Qn ?_ ?_ rfl rfl rfl) | (refine Ka ?_ ?_ ?_ rfl) | exact Kc (Vm _ _) rfl | apply Uc | exact I5 _ | exact Al _ | (simp only [Ys,As,Au,AI,Yj] <;> omega)))) (pp (pp (xF (Yx (fun k=>(Zo (Zz aC) 0 aC.length 1 [(.int .u8 32)]) (0+k)) (aC.length+1) (Vt (Xq bL)))) nn) (pp (pp (xw o3) (pp nn (xw o2))) (ww o1 (ww o0 nn))))))))))))
 | .h4 bP bO bQ bR aC aI bL bA aM aT aY=>(lo fun o0=>(lo fun o1=>(lo fun o2=>(lo fun o3=>let a:=xL ((aC.length+1)+(Xq bA).length) (Zl aC bA).length (by first | exact Yc rfl | exact Yc (by simp only [Ys,As,Au,AI,Yj] <;> omega) | assumption);let b:=Zl aC bA;(sl Zb 91 [] ⟨[0,5,2],[],SI,SQ⟩ ⟨[],[.cells [.keep,.len b.length],.rowed 1 b.length (Zz b),.keep],[]⟩ [true] (pp a (pp a (pp (xS ((aC.length+1)+(Xq bA).length) (Yx (fun k=>(Zo (Zz aC) 0 aC.length 1 [(.int .u8 32)]) (0+k)) (aC.length+1) (Vt (Xq bA))) (Zz (Zl aC bA)) (by repeat' (first | exact Vm _ _ | assumption | exact Kj | exact Ja | rfl | (refine Qn ?_ ?_ rfl rfl rfl) | (refine Ka ?_ ?_ ?_ rfl) | exact Kc (Vm _ _) rfl | apply Uc | exact I5 _ | exact Al _ | (simp only [Ys,As,Au,AI,Yj] <;> omega)))) (pp (pp (xF (Yx (fun k=>(Zo (Zz aC) 0 aC.length 1 [(.int .u8 32)]) (0+k)) (aC.length+1) (Vt (Xq bA)))) nn) (pp (pp (xw o3) (pp nn (xw o2))) (ww o1 (ww o0 nn))))))))))))
 | .h5 bP bO bQ bR aC aI bL bA aM aT aY=>(lo fun o0=>(lo fun o1=>(lo fun o2=>(lo fun o3=>let a:=xL ((aC.length+1)+(Xq aM).length) (y1o aC aM).length (by first | exact Yc rfl | exact Yc (by simp only [Ys,As,Au,AI,Yj] <;> omega) | assumption);let b:=y1o aC aM;(sl Zb 91 [] ⟨[0,5,2],[],SH,SP⟩ ⟨[],[.cells [.keep,.len b.length],.rowed 1 b.length (Zz b),.keep],[]⟩ [true] (pp a (pp a (pp (xS ((aC.length+1)+(Xq aM).length) (Yx (fun k=>(Zo (Zz aC) 0 aC.length 1 [(.int .u8 32)]) (0+k)) (aC.length+1) (Vt (Xq aM))) (Zz (y1o aC aM)) (by repeat' (first | exact Vm _ _ | assumption | exact Kj | exact Ja | rfl | (refine Qn ?_ ?_ rfl rfl rfl) | (refine Ka ?_ ?_ ?_ rfl) | exact Kc (Vm _ _) rfl | apply Uc | exact I5 _ | exact Al _ | (simp only [Ys,As,Au,AI,Yj] <;> omega)))) (pp (pp (xF (Yx (fun k=>(Zo (Zz aC) 0 aC.length 1 [(.int .u8 32)]) (0+k)) (aC.length+1) (Vt (Xq aM)))) nn) (pp (pp (xw o3) (pp nn (xw o2))) (ww o1 (ww o0 nn))))))))))))
 | .h6 bP bO bQ bR aC aI bL bA aM aT aY=>(lo fun o0=>(lo fun o1=>(lo fun o2=>(lo fun o3=>let a:=xL ((aC.length+1)+(Xq aT).length) (y1n aC aT).length (by first | exact Yc rfl | exact Yc (by simp only [Ys,As,Au,AI,Yj] <;> omega) | assumption);let b:=y1n aC aT;(sl Zb 91 [] ⟨[0,5,2],[],SG,SO⟩ ⟨[],[.cells [.keep,.len b.length],.rowed 1 b.length (Zz b),.keep],[]⟩ [true] (pp a (pp a (pp (xS ((aC.length+1)+(Xq aT).length) (Yx (fun k=>(Zo (Zz aC) 0 aC.length 1 [(.int .u8 32)]) (0+k)) (aC.length+1) (Vt (Xq aT))) (Zz (y1n aC aT)) (by repeat' (first | exact Vm _ _ | assumption | exact Kj | exact Ja | rfl | (refine Qn ?_ ?_ rfl rfl rfl) | (refine Ka ?_ ?_ ?_ rfl) | exact Kc (Vm _ _) rfl | apply Uc | exact I5 _ | exact Al _ | (simp only [Ys,As,Au,AI,Yj] <;> omega)))) (pp (pp (xF (Yx (fun k=>(Zo (Zz aC) 0 aC.length 1 [(.int .u8 32)]) (0+k)) (aC.length+1) (Vt (Xq aT)))) nn) (pp (pp (xw o3) (pp nn (xw o2))) (ww o1 (ww o0 nn))))))))))))
 | .h7 bP bO bQ bR aC aI bL bA aM aT aY=>(lo fun o0=>(lo fun o1=>(lo fun o2=>(lo fun o3=>let a:=xL ((aC.length+1)+(Xq aY).length) (y1m aC aY).length (by first | exact Yc rfl | exact Yc (by simp only [Ys,As,Au,AI,Yj] <;> omega) | assumption);let b:=y1m aC aY;(sl Zb 91 [] ⟨[0,5,2],[],SF,SN⟩ ⟨[],[.cells [.keep,.len b.length],.rowed 1 b.length (Zz b),.keep],[]⟩ [true] (pp a (pp a (pp (xS ((aC.length+1)+(Xq aY).length) (Yx (fun k=>(Zo (Zz aC) 0 aC.length 1 [(.int .u8 32)]) (0+k)) (aC.length+1) (Vt (Xq aY))) (Zz (y1m aC aY)) (by repeat' (first | exact Vm _ _ | assumption | exact Kj | exact Ja | rfl | (refine Qn ?_ ?_ rfl rfl rfl) | (refine Ka ?_ ?_ ?_ rfl) | exact Kc (Vm _ _) rfl | apply Uc | exact I5 _ | exact Al _ | (simp only [Ys,As,Au,AI,Yj] <;> omega)))) (pp (pp (xF (Yx (fun k=>(Zo (Zz aC) 0 aC.length 1 [(.int .u8 32)]) (0+k)) (aC.length+1) (Vt (Xq aY)))) nn) (pp (pp (xw o3) (pp nn (xw o2))) (ww o1 (ww o0 nn))))))))))))
 | .h8 bP bO bQ bR aC aI bL bA aM aT aY=>(lo fun o0=>let a:=xL (aC.length+1) (aC++[(yB 10)]).length;let b:=aC++[(yB 10)];(sl Zb 47 [] ⟨[0,4],[],Io,Iq⟩ ⟨[],[.cells [.keep,.len b.length],.rowed 1 b.length (Zz b)],[]⟩ [false] (pp a (pp a (pp (xS (aC.length+1) (Zo (Zz aC) 0 aC.length 1 [(.int .u8 10)]) (Zz (aC++[(yB 10)]))) (pp (pp (xF (Zo (Zz aC) 0 aC.length 1 [(.int .u8 10)])) nn) (ww o0 nn)))))))
theorem x9c (l0:List B4):Wj prog (Zy prog 10) (ML l0) (Zg prog 10 [(.dat l0.length (Zz l0))] true []) (QR l0):=(lo fun cM=>let a:=pp (pp (xr l0) (xw cM)) nn;(lb (fun k0=>(lr 76 10 [1,0,1,1,0,0] 1 10 [(2,(.str [])),(3,(ii (Ui (B2 l0))))] (sl Zb 24 [] (b8 [2,3]) b7 [true] (tt k0 a)))) (fun k0=>(sl Zb 32 [(5,1,Zz ([]:List By))] ⟨[0,1],[],Ip,Ir⟩ ⟨[],[.cells [.keep,.grow 1 1],.keep],[]⟩ [false] (pp (fl ([]:List By) nn) (tt k0 a))))))
theorem v9c (l0:List B4) (n:Nat) (vs:List B1) (h:Yw (Wm l0) n (QR l0)=.ret vs):Js prog (Zy prog 10) (Zg prog 10 [(.dat l0.length (Zz l0))] true []) vs:=by have:=Ze (w7g l0) n _ (x9c l0);rwa [h] at this
end
open Go.Shelf Go.RowKit
def Er :List UInt8:=[110,111,100,101,32]
def Fa (p:List UInt8) (x:B4):List UInt8:=Er++p++(GA [x.t,x.x,x.y,x.z]++[10])
def C3 :List UInt8:=[98,111,120]
def Fr (r:R6):List UInt8:=C3++(GA [r.a,r.b,r.c,r.d,r.e,r.f]++[10])
def FT :List R6->List UInt8
 | []=>[]
 | r::l=>Fr r++FT l
def Fx (l:List B4) (i:Nat):List UInt8:=Fa (Xa l (i:Int)) (rd l i)++FT (rd l i).s
def Dh (l:List B4):Nat->Nat->List UInt8
 | 0,_=>[]
 | k+1,i=>Fx l i++Dh l k (i+1)
def EM (l:List B4):List UInt8:=bif Ui l != 0 then [] else bif decide (60000<(Dh l l.length 0).length) then [] else Dh l l.length 0
def EY (l:List B4):Int:=bif Ui l != 0 then Ui l else bif decide (60000<(Dh l l.length 0).length) then 4 else 0
def L7 (l:List B4):Bool:=Yk l&&l.all fun x=>decide (0<=x.t)
structure EZ (q:B4):Prop where
 t:0<=q.t/\q.t<24
 x: -1000000<=q.x/\q.x<=1000000
 y: -1000000<=q.y/\q.y<=1000000
 z: -1000000<=q.z/\q.z<=1000000
 len:q.s.length<=400
 box: ∀r∈q.s,(-1000000<=r.a/\r.a<=1000000)/\(-1000000<=r.b/\r.b<=1000000)/\(-1000000<=r.c/\r.c<=1000000)/\(-1000000<=r.d/\r.d<=1000000)/\(-1000000<=r.e/\r.e<=1000000)/\(-1000000<=r.f/\r.f<=1000000)
theorem v9o {L:List R6} (h:Vv L=0):L.length<=400/\ ∀r∈L,DT r=true:=by
 unfold Vv at h;by_cases g:400<L.length
 .rw [Aa g] at h;cases h
 .rw [Ah g,Ab] at h;cases hq:L.all DT with
  | false=>rw [hq] at h;cases h
  | true=>exact ⟨by omega,fun r hr=>Ay.1 hq r hr⟩
theorem u9a {r:R6} (h:DT r=true):(-1000000<=r.a/\r.a<=1000000)/\(-1000000<=r.b/\r.b<=1000000)/\(-1000000<=r.c/\r.c<=1000000)/\(-1000000<=r.d/\r.d<=1000000)/\(-1000000<=r.e/\r.e<=1000000)/\(-1000000<=r.f/\r.f<=1000000):=by
 simp only [DT,Ad,An] at h;obtain ⟨h1,h2,h3,h4,h5,h6,h7⟩:=h;have mn: ∀x y:Int,Cw x y<=x/\Cw x y<=y:=fun x y=>by unfold Cw;split <;> omega
 have mx: ∀x y:Int,x<=Cv x y/\y<=Cv x y:=fun x y=>by unfold Cv;split <;> omega
 have a1:=mn (Cw r.a r.b) r.c;have a2:=mn r.a r.b;have a3:=mx (Cv r.a r.b) r.c;have a4:=mx r.a r.b;have a5:=mn (Cw r.d r.e) r.f;have a6:=mn r.d r.e;have a7:=mx (Cv r.d r.e) r.f;have a8:=mx r.d r.e;omega
theorem v9k {l:List B4} (h:EL l=0) {x:B4} (hx:x∈l):Vv x.s=0:=by
 unfold EL at h;cases hf:l.find? fun x=>Vv x.s != 0 with
 | none=>
  have:=List.find?_eq_none.1 hf x hx
  simpa using this
 | some y=>rw [hf] at h;have:=List.find?_some hf;rw [show Vv y.s=0 from h] at this;cases this
theorem v3c {l:List B4} (ht:(l.all fun x=>decide (0<=x.t))=true) (h:Ui l=0) {i:Nat} (hi:i<l.length):EZ (rd l i):=by
 obtain ⟨h1,h2,h3⟩:=L4 (l:=l) (by rw [h];rfl);have hb:=h3 i hi;unfold DW at hb;rw [AT] at hb;obtain ⟨_,_,_,hk⟩:=RF hb.1;have hs:=v9o (v9k h2 (x:=rd l i) (by rw [Wf hi];exact A0 hi));unfold Ce at hk;cases g:decide (24<=(rd l i).t) with
 | true=>rw [g] at hk;cases hk
 | false=>
  have h0:0<=(rd l i).t :=RR ht i;have h24:(rd l i).t <24:=by have:=of_decide_eq_false g;omega
  rw [g,Ab] at hk;cases g2:QC (rd l i).x (rd l i).y (rd l i).z with
  | false=>rw [g2] at hk;cases hk
  | true=>obtain ⟨k1,k2,k3⟩:=(WH _ _ _).1 g2;refine ⟨⟨h0,h24⟩,k1,k2,k3,hs.1,fun r hr=> ?_⟩;exact u9a (hs.2 r hr)
theorem w6v {x:B4} (h:EZ x) {r:R6} (hr:r∈x.s):(Fr r).length <=200:=by obtain ⟨h1,h2,h3,h4,h5,h6⟩:=h.box r hr;have a1:=Qm h1;have a2:=Qm h2;have a3:=Qm h3;have a4:=Qm h4;have a5:=Qm h5;have a6:=Qm h6;simp only [Fr,C3,GA,As,Au,AI];omega
theorem x1y {x:B4} (h:EZ x): ∀l:List R6,(∀r∈l,r∈x.s)->(FT l).length <=200*l.length
 | [],_=>AG _
 | r::l,hl=>by have:=w6v h (hl r AS);have:=x1y h l fun q hq=>hl q (AO _ hq);simp only [FT,As,Au];omega
theorem w5k {p:List UInt8} {x:B4} (h:EZ x) (hp:p.length<=1000000):(Fa p x).length <=1001000:=by have a1:=Qm (n:=x.t) (by have:=h.t;omega);have a2:=Qm h.x;have a3:=Qm h.y;have a4:=Qm h.z;simp only [Fa,Er,GA,As,Au,AI];omega
theorem u0p {l:List B4} {i:Nat} (h:EZ (rd l i)) (hp:(Xa l (i:Int)).length <=1000000):(Fx l i).length <=1100000:=by have h1:=w5k h hp;have h2:=x1y h (rd l i).s fun _ hr=>hr;have h3:=h.len;simp only [Fx,As];omega
def HV (t:List UInt8):List B1:=[.str (bif decide (60000<t.length) then [] else t),.int .i64 (bif decide (60000<t.length) then 4 else 0)]
theorem u9w {l:List B4} (ho:L7 l=true) (h:Ui l=0):l.length<=200/\ ∀i,i<l.length->EZ (rd l i)/\Wi l (i:Int)=true:=by
 have hf:(Ui l != 0)=false:=by rw [h];rfl
 have h1:=(L4 hf).1;unfold L7 at ho;rw [Ad] at ho;exact ⟨h1,fun i hi=>⟨v3c ho.2 h hi,QJ ho.1 (by omega) hi (WU hf hi)⟩⟩
theorem u9e {l:List B4} (h:Ui l=0):HV (Dh l l.length 0)=[.str (EM l),.int .i64 (EY l)]:=by unfold HV EM EY;rw [Ut h,Ab,Ab]
theorem u9d {l:List B4} {i m:Int} {bs:List R6} {j:Nat} {s:List UInt8} {x:B4} (h:EZ x) (hb:rd bs j∈x.s) (hj:j<bs.length) (hm:m=(bs.length:Int)) (hl:bs.length<=400) (ha:s.length<=1000000000) (N:Nat):
  Yw (Wm l) (N+8) (.to (.h1 i bs m (j:Int) (CF s)))=Yw (Wm l) N (.to (.h1 i bs m ((j+1:Nat):Int) (CF (s++Fr (rd bs j))))):=by
 obtain ⟨h1,h2,h3,h4,h5,h6⟩:=h.box _ hb;have w1:wrap .i64 ((j:Int)+1)=((j+1:Nat):Int):=Zm (by omega);have p0: ∀t:List By,Ve t 0 t.length=t:=fun t=>by rw [u2f (show 0+t.length<=t.length by omega),AQ];exact List.take_length
 have ex: ∀(n:Int),(-1000000<=n/\n<=1000000)-> ∀(t:List By),t.length<=1000100000->(Nat.beq 1 1&&((decide (0+t.length=t.length))&&decide ((t.length+1+1)*(1+1)<=Vd)))=true/\Yd n=true/\decide (((t.length+1)+(Xq n).length +1)*(1+1)<=Vd)=true/\(Nat.beq 1 1&&(Nat.beq 1 1&&decide (0+(t.length+1)<=(t.length+1))))=true:=fun n hn t ht=>by have hl:(Xq n).length <=21:=Qm hn;exact ⟨P9 (by omega),Aa (by omega),Id (by omega),by simp⟩
 have e1: ∀(t:List By),t.length<=1000100000->Wm l (.h1 i bs m (j:Int) t)=.to (.h2 i bs m (j:Int) (t++CF [98,111,120]) (rd bs j).a (rd bs j).b (rd bs j).c (rd bs j).d (rd bs j).e (rd bs j).f):=fun t ht=>by unfold Wm;simp only [Zj,p0];rw [Zp (Yb (by omega)),Zp (Bool.and_eq_true_iff.2 ⟨Ym (by omega),rfl⟩),Zp (Id (by omega)),Zp (by simp)]
 have e2: ∀(t:List By) (a b c d e f:Int),t.length<=1000100000->(-1000000<=a/\a<=1000000)->Wm l (.h2 i bs m (j:Int) t a b c d e f)=.to (.h3 i bs m (j:Int) ((t++[yB 32])++CF (Xq a)) a b c d e f):=fun t a b c d e f ht ha=>by obtain ⟨c1,c2,c3,c4⟩:=ex a ha t ht;unfold Wm;simp only [];rw [Zp c1,Zp c2,Zp c3,Zp c4]
 have e3: ∀(t:List By) (a b c d e f:Int),t.length<=1000100000->(-1000000<=b/\b<=1000000)->Wm l (.h3 i bs m (j:Int) t a b c d e f)=.to (.h4 i bs m (j:Int) ((t++[yB 32])++CF (Xq b)) a b c d e f):=fun t a b c d e f ht ha=>by obtain ⟨c1,c2,c3,c4⟩:=ex b ha t ht;unfold Wm;simp only [];rw [Zp c1,Zp c2,Zp c3,Zp c4]
 have e4: ∀(t:List By) (a b c d e f:Int),t.length<=1000100000->(-1000000<=c/\c<=1000000)->Wm l (.h4 i bs m (j:Int) t a b c d e f)=.to (.h5 i bs m (j:Int) ((t++[yB 32])++CF (Xq c)) a b c d e f):=fun t a b c d e f ht ha=>by obtain ⟨c1,c2,c3,c4⟩:=ex c ha t ht;unfold Wm;simp only [];rw [Zp c1,Zp c2,Zp c3,Zp c4]
 have e5: ∀(t:List By) (a b c d e f:Int),t.length<=1000100000->(-1000000<=d/\d<=1000000)->Wm l (.h5 i bs m (j:Int) t a b c d e f)=.to (.h6 i bs m (j:Int) ((t++[yB 32])++CF (Xq d)) a b c d e f):=fun t a b c d e f ht ha=>by obtain ⟨c1,c2,c3,c4⟩:=ex d ha t ht;unfold Wm;simp only [];rw [Zp c1,Zp c2,Zp c3,Zp c4]
 have e6: ∀(t:List By) (a b c d e f:Int),t.length<=1000100000->(-1000000<=e/\e<=1000000)->Wm l (.h6 i bs m (j:Int) t a b c d e f)=.to (.h7 i bs m (j:Int) ((t++[yB 32])++CF (Xq e)) a b c d e f):=fun t a b c d e f ht ha=>by obtain ⟨c1,c2,c3,c4⟩:=ex e ha t ht;unfold Wm;simp only [];rw [Zp c1,Zp c2,Zp c3,Zp c4]
 have e7: ∀(t:List By) (a b c d e f:Int),t.length<=1000100000->(-1000000<=f/\f<=1000000)->Wm l (.h7 i bs m (j:Int) t a b c d e f)=.to (.h8 i bs m (j:Int) ((t++[yB 32])++CF (Xq f)) a b c d e f):=fun t a b c d e f ht ha=>by obtain ⟨c1,c2,c3,c4⟩:=ex f ha t ht;unfold Wm;simp only [];rw [Zp c1,Zp c2,Zp c3,Zp c4]
 have e8: ∀(t:List By) (a b c d e f:Int),t.length<=1000100000->Wm l (.h8 i bs m (j:Int) t a b c d e f)=.to (.h1 i bs m ((j+1:Nat):Int) (t++[yB 10])):=fun t a b c d e f ht=>by obtain ⟨c1,_⟩:=ex 0 (by omega) t ht;unfold Wm;simp only [w1];rw [Zp c1]
 have len: ∀(t:List By) (n:Int),(-1000000<=n/\n<=1000000)->((t++[yB 32])++CF (Xq n)).length <=t.length+22:=fun t n hn=>by have hl:(Xq n).length <=21:=Qm hn;rw [As,As,j5v,AJ];omega
 have fin:((((((((((((((CF s++CF [98,111,120])++[yB 32])++CF (Xq (rd bs j).a))++[yB 32])++CF (Xq (rd bs j).b))++[yB 32])++CF (Xq (rd bs j).c))++[yB 32])++CF (Xq (rd bs j).d))++[yB 32])++CF (Xq (rd bs j).e))++[yB 32])++CF (Xq (rd bs j).f))++[yB 10])=CF (s++Fr (rd bs j)):=by show ((((((((((((((s++[98,111,120])++[32])++itoa (rd bs j).a)++[32])++itoa (rd bs j).b)++[32])++itoa (rd bs j).c)++[32])++itoa (rd bs j).d)++[32])++itoa (rd bs j).e)++[32])++itoa (rd bs j).f)++[10]:List UInt8)=s++Fr (rd bs j);simp [Fr,C3,GA]
 have hs:(CF s).length <=1000000000:=ha;generalize hq:CF (s++Fr (rd bs j))=q at fin ⊢;generalize CF s=t0 at fin hs ⊢;rw [Zw,e1 t0 (by omega)];have b0:(t0++CF [98,111,120]).length <=1000000003:=by rw [As];show _+3<=_;omega
 generalize t0++CF [98,111,120]=t1 at fin b0 ⊢;rw [Zw,e2 t1 _ _ _ _ _ _ (by omega) h1];have b1:=len t1 (rd bs j).a h1;generalize ((t1++[yB 32])++CF (Xq (rd bs j).a))=t2 at fin b1 ⊢;rw [Zw,e3 t2 _ _ _ _ _ _ (by omega) h2];have b2:=len t2 (rd bs j).b h2;generalize ((t2++[yB 32])++CF (Xq (rd bs j).b))=t3 at fin b2 ⊢;rw [Zw,e4 t3 _ _ _ _ _ _ (by omega) h3];have b3:=len t3 (rd bs j).c h3;generalize ((t3++[yB 32])++CF (Xq (rd bs j).c))=t4 at fin b3 ⊢;rw [Zw,e5 t4 _ _ _ _ _ _ (by omega) h4];have b4:=len t4 (rd bs j).d h4;generalize ((t4++[yB 32])++CF (Xq (rd bs j).d))=t5 at fin b4 ⊢;rw [Zw,e6 t5 _ _ _ _ _ _ (by omega) h5];have b5:=len t5 (rd bs j).e h5;generalize ((t5++[yB 32])++CF (Xq (rd bs j).e))=t6 at fin b5 ⊢;rw [Zw,e7 t6 _ _ _ _ _ _ (by omega) h6];have b6:=len t6 (rd bs j).f h6;generalize ((t6++[yB 32])++CF (Xq (rd bs j).f))=t7 at fin b6 ⊢;rw [Zw,e8 t7 _ _ _ _ _ _ (by omega),fin]
theorem x5h {l:List B4} {i:Nat} (hi:i<l.length) (hl:l.length<=1000) {x:B4} (h:EZ x): ∀(k j:Nat) (acc:List UInt8),j+k=x.s.length->acc.length+200*k<=1000000000-> ∀N,
  Yw (Wm l) (N+(8*k+1)) (.to (.h1 (i:Int) x.s ((x.s.length:Nat):Int) (j:Int) (CF acc)))=Yw (Wm l) N (.to (.h0 ((i+1:Nat):Int) (CF (acc++FT (x.s.drop j)))))
 | 0,j,acc,hk,ha,N=>by
  have w1:wrap .i64 ((i:Int)+1)=((i+1:Nat):Int):=Zm (by omega);have e:Wm l (.h1 (i:Int) x.s ((x.s.length:Nat):Int) (j:Int) (CF acc))=.to (.h0 ((i+1:Nat):Int) (CF acc)):=by unfold Wm;simp only [w1];rw [Xz (by omega),Ab]
  rw [Zw,e,Aw (by omega)];simp only [FT,AL]
 | k+1,j,acc,hk,ha,N=>by
  have hj:j<x.s.length:=by omega
  have hm:rd x.s j∈x.s:=by rw [Wf hj];exact A0 hj
  have hb:=w6v h hm;have hl4:=h.len;rw [show N+(8*(k+1)+1)=(N+(8*k+1))+8 by omega,u9d h hm hj rfl hl4 (by omega),x5h hi hl h k (j+1) _ (by omega) (by rw [As];omega) N,Xj hj];simp only [FT,AH]
theorem u9c {l:List B4} {i:Nat} {s:List UInt8} (hi:i<l.length) (h:EZ (rd l i)) (ho:Wi l (i:Int)=true) (ha:s.length<=1000000000):
  Wm l (.h0 (i:Int) (CF s))=.to (.h1 (i:Int) (rd l i).s (((rd l i).s.length :Nat):Int) 0 (CF (s++Fa (Xa l (i:Int)) (rd l i)))):=by
 have hp:=PN ho;have ht:=h.t;have wt:wrap .i64 (rd l i).t =(rd l i).t :=Zm (by omega);obtain ⟨o1,d1,e1,q1,l1⟩:=W2 (n:=(rd l i).t) (by omega);obtain ⟨o2,d2,e2,q2,l2⟩:=W2 h.x;obtain ⟨o3,d3,e3,q3,l3⟩:=W2 h.y;obtain ⟨o4,d4,e4,q4,l4⟩:=W2 h.z;have fin:((((((((((CF s++(CF (([110,111,100,101,32]:List UInt8)++Xa l (i:Int))))++([yB 32]:List By))++CF d1)++([yB 32]:List By))++CF d2)++([yB 32]:List By))++CF d3)++([yB 32]:List By))++CF d4)++([yB 10]:List By))=CF (s++Fa (Xa l (i:Int)) (rd l i)):=by show ((((((((((s++(([110,111,100,101,32]:List UInt8)++Xa l (i:Int)))++([32]:List UInt8))++d1)++([32]:List UInt8))++d2)++([32]:List UInt8))++d3)++([32]:List UInt8))++d4)++([10]:List UInt8))=s++Fa (Xa l (i:Int)) (rd l i);simp [Fa,Er,GA,q1,q2,q3,q4]
 have hs:(CF s).length <=1000000000:=ha;have hq:(([110,111,100,101,32]:List UInt8)++Xa l (i:Int)).length <=1000005:=by rw [As];show 5+_<=_;omega
 have ok:JF ([110,111,100,101,32]:List UInt8) (Xa l (i:Int))=true:=SA (by show 5+_<=_;omega);rw [<-fin];generalize CF s=t0 at hs ⊢;unfold Wm;simp only [Zj,Yg,wt,o1,o2,o3,o4,e1,e2,e3,e4,ho,ok,Ap,Af];generalize (([110,111,100,101,32]:List UInt8)++Xa l (i:Int))=q at hq ⊢;rw [Zp (Yb (by omega)),Zp (Ym (by omega))];repeat (first | rw [Zp (P9 (by omega))] | rw [Zp (Id (by omega))] | rw [Zp (by simp)])
theorem u5i {l:List B4} (hl:l.length<=200) (h: ∀i,i<l.length->EZ (rd l i)/\Wi l (i:Int)=true): ∀(k i:Nat) (acc:List UInt8),i+k=l.length->acc.length<=1100000*i->
  ∃N,Yw (Wm l) N (.to (.h0 (i:Int) (CF acc)))=.ret (HV (acc++Dh l k i))
 | 0,i,acc,hk,ha=>by
  refine ⟨1,?_⟩;have e:Wm l (.h0 (i:Int) (CF acc))=bif decide ((acc.length:Int)>60000) then .ret [.str [],.int .i64 4] else .ret [.str acc,.int .i64 0]:=by
   unfold Wm;simp (disch:=omega) only [Xz,Ab];have es:F2 (CF acc).length (fun k=>Zz (CF acc) (0+k))=acc:=x9f (CF acc) acc.length rfl;have hb:(CF acc).length =acc.length:=rfl;rw [es,hb];by_cases g:60000<acc.length
   .rw [Aa (show (acc.length:Int)>60000 by omega)];rfl
   .rw [Ah (show ¬(acc.length:Int)>60000 by omega),Ab,Ab,Zp (Aa (by omega)),Zp (S3 (by omega))]
  rw [Zw,e];simp only [Dh,AL,HV];by_cases g:60000<acc.length
  .rw [Aa g,Aa (show (acc.length:Int)>60000 by omega)];rfl
  .rw [Ah g,Ah (show ¬(acc.length:Int)>60000 by omega)];rfl
 | k+1,i,acc,hk,ha=>by
  have hi:i<l.length:=by omega
  obtain ⟨h1,h2⟩:=h i hi;have hp:=PN h2;have hr:=u0p h1 hp;have hn:=w5k h1 hp;have hs:=h1.len;obtain ⟨N,hN⟩:=u5i hl h k (i+1) (acc++Fx l i) (by omega) (by rw [As];omega);refine ⟨N+(8*(rd l i).s.length +1)+1,?_⟩;rw [Zw,u9c hi h1 h2 (by omega)];show Yw _ _ (.to (Ey.h1 (i:Int) _ _ ((0:Nat):Int) _))=_;rw [x5h hi (by omega) h1 (rd l i).s.length 0 _ (Al _) (by rw [As];omega) N,AQ,AH];show Yw _ N (.to (Ey.h0 _ (CF (acc++Fx l i))))=_;rw [hN,Dh,AH]
theorem u9b (l:List B4) (ho:L7 l=true): ∃N,Yw (Wm l) N (QR l)=.ret [.str (EM l),.int .i64 (EY l)]:=by
 have e:QR l=bif (Ui l != 0) then .ret [.str [],.int .i64 (Ui l)] else .to (.h0 0 (CF [])):=by unfold QR;rw [Yg,Zp (show Yk l=true by unfold L7 at ho;rw [Ad] at ho;exact ho.1)];rfl
 rw [e];by_cases h:Ui l=0
 .obtain ⟨h1,h2⟩:=u9w ho h;obtain ⟨N,hN⟩:=u5i h1 h2 l.length 0 [] (Al _) (AG _);refine ⟨N,?_⟩;rw [Ut h,Ab,<-u9e h];exact hN
 .unfold EM EY;rw [Qv h,Af,Af,Af];exact ⟨0,rfl⟩
def OE :List B1->Option (B1×Bool)
 | [a0]=>match C7 B4 a0 with
  | some (L,g,n)=>some (.tup [.str (EM L),.int .i64 (EY L)],CQ B4 n g&&L7 L)
  | _=>none
 | _=>none
theorem j3t {S:B3} (hS:Zv prog S):Zv prog (S.with SM OE):=CP hS (by kernel_rfl) fun args v h=>by
 unfold OE at h;split at h
 .rename_i a0;split at h
  .rename_i L g n e0;simp only [Ae,Ac,Ad] at h;obtain ⟨rfl,ho0,hw⟩:=h;obtain ⟨N,hN⟩:=u9b L hw;exact ⟨_,_,(.cons (Xf e0 ho0) .nil),rfl,v9c L N _ hN,5,rfl⟩
  .cases h
 .cases h
def SY :B3:=SX.with SM OE
theorem UA :Zv prog SY:=j3t Zb
def CS :List UInt8:=[110,111,100,101]
inductive DK where
 | nod (p:List UInt8) (t x y z:Int)
 | box (r:R6)
def Dw (p:List UInt8):List Int->Option DK
 | [t,x,y,z]=>bif decide (0<=t)&&decide (t<=23) then some (.nod p t x y z) else none
 | _=>none
def EP :List Int->Option DK
 | [a,b,c,d,e,f]=>some (.box ⟨a,b,c,d,e,f⟩)
 | _=>none
def TF :List (List UInt8)->Option DK
 | p::q=>bif decide (q.length=4)&&(!decide (p=[])&&decide (C4 p=0)) then (Qu q).bind (Dw p) else none
 | []=>none
def u5g :List (List UInt8)->Option DK
 | w::r=>bif decide (w=CS) then TF r else bif decide (w=C3)&&decide (r.length=6) then (Qu r).bind EP else none
 | []=>none
theorem Ql (w:List UInt8) (r:List (List UInt8)):u5g (w::r)=bif decide (w=CS) then TF r else bif decide (w=C3)&&decide (r.length=6) then (Qu r).bind EP else none:=rfl
def E5 (x:List UInt8):Option DK:=u5g (Wy 32 [] x)
def EK :List (List UInt8)->List B4->B4->List (List UInt8)->Option (List B4×List (List UInt8))
 | [],pre,q,ps=>some (pre++[q],ps)
 | x::l,pre,q,ps=>match E5 x with
  | none=>none
  | some (.nod p t x y z)=>EK l (pre++[q]) ⟨[],0,t,x,y,z,[]⟩ (ps++[p])
  | some (.box r)=>EK l pre {q with s:=q.s++[r]} ps
def Fm :List (List UInt8)->Option (List B4×List (List UInt8))
 | []=>some ([],[])
 | x::l=>match E5 x with
  | some (.nod p t x y z)=>EK l [] ⟨[],0,t,x,y,z,[]⟩ [p]
  | _=>none
def EF (ps:List (List UInt8)) (p:List UInt8):Nat->Nat->Option Nat
 | 0,_=>none
 | k+1,j=>bif rd ps j == p then some j else EF ps p k (j+1)
def HD (ps:List (List UInt8)) (i:Nat):Option (Int×List UInt8):=
 let c:=Kd (rd ps i)
 bif decide (c.length=1) then some (-1,rd c 0) else match EF ps (H7 c.dropLast) i 0 with
  | none=>none
  | some k=>some ((k:Int),rd c (c.length - 1))
def Ub (ps:List (List UInt8)):Nat->Nat->List B4->Option (List B4)
 | 0,_,l=>some l
 | k+1,i,l=>match HD ps i with
  | none=>none
  | some (a,n)=>Ub ps k (i+1) (l.set i {rd l i with n:=n,a:=a})
def DF (ls:List (List UInt8)):Nat:=(ls.filter fun x=>x.take 5 == Er).length
def HU :Option (List B4)->List B4×Int
 | none=>([],6)
 | some m=>bif Ui m != 0 then ([],Ui m) else (m,0)
theorem W7 {m:List B4} (g:Ui m=0):HU (some m)=(m,0):=by show (bif Ui m != 0 then _ else _)=_;rw [Ut g];rfl
theorem u7d {m:List B4} (g:Ui m≠0):HU (some m)=([],Ui m):=by show (bif Ui m != 0 then _ else _)=_;rw [Qv g];rfl
def FE :Option (List B4×List (List UInt8))->List B4×Int
 | none=>([],12)
 | some (l,ps)=>HU (Ub ps l.length 0 l)
def Dx (s:List UInt8):List B4×Int:=bif decide (60000<s.length)||decide (200<DF (Wy 10 [] s)) then ([],4) else FE ((Fk s).bind Fm)
def Jp (s:List UInt8):List B4:=(Dx s).1
def Ff (s:List UInt8):Int:=(Dx s).2
def UB (s:List UInt8):Bool:=decide (s.length<=100000)
def GG (ok:Bool) (L:List B4) (e:Int):List B1:=bif ok then [.dat L.length (Zz L),.int .i64 e] else [.nils,.int .i64 e]
def Dd (s:List UInt8):List B1:=GG (decide ((Dx s).2=0)) (Dx s).1 (Dx s).2
def Ng (o:Option (List B4×List (List UInt8))):List B1:=GG (decide ((FE o).2=0)) (FE o).1 (FE o).2
def GF (o:Option (List B4)):List B1:=match o with
 | none=>[.nils,.int .i64 6]
 | some m=>bif Ui m != 0 then [.nils,.int .i64 (Ui m)] else [.dat m.length (Zz m),.int .i64 0]
theorem j1w (l:List B4) (ps:List (List UInt8)):GF (Ub ps l.length 0 l)=Ng (some (l,ps)):=by
 show GF (Ub ps l.length 0 l)=GG (decide ((HU (Ub ps l.length 0 l)).2=0)) (HU (Ub ps l.length 0 l)).1 (HU (Ub ps l.length 0 l)).2;cases Ub ps l.length 0 l with
 | none=>rfl
 | some m=>
  show (bif Ui m != 0 then _ else _)=_;by_cases g:Ui m=0
  .rw [W7 g,Ut g];rfl
  .rw [u7d g,Qv g];show _=GG (decide (Ui m=0)) [] (Ui m);rw [Ah g];rfl
theorem u1x (s:List UInt8):Ff s≠0->Jp s=[]:=by
 unfold Ff Jp Dx;cases decide (60000<s.length)||decide (200<DF (Wy 10 [] s)) with
 | true=>exact fun _=>rfl
 | false=>
  rw [Ab];cases (Fk s).bind Fm with
  | none=>exact fun _=>rfl
  | some q=>
   obtain ⟨l,ps⟩:=q;show (HU (Ub ps l.length 0 l)).2≠0->(HU (Ub ps l.length 0 l)).1=[];cases Ub ps l.length 0 l with
   | none=>exact fun _=>rfl
   | some m=>
    by_cases g:Ui m=0
    .rw [W7 g];exact fun h=>absurd rfl h
    .rw [u7d g];exact fun _=>rfl
theorem j1t (s:List UInt8) (ρ:B5) (u:Value) (h:Zr ρ (Jn (Dd s)) u):Zr ρ (.tup [.dat (Jp s).length (Zz (Jp s)),.int .i64 (Ff s)]) u:=by
 unfold Dd at h;by_cases g:(Dx s).2=0
 .rw [Aa g] at h;exact h
 .rw [Ah g] at h;rw [u1x s g];exact Gk (.cons (Gr B4) (Ch.refl _)) ρ u h
theorem j1s (s:List UInt8):pf 5 (Jn (Dd s))=true:=by unfold Dd GG;cases decide ((Dx s).2=0) <;> rfl
theorem j1u {s:List UInt8} (h: ¬60000<s.length) (h2: ¬200<DF (Wy 10 [] s)):Dd s=Ng ((Fk s).bind Fm):=by unfold Dd Ng Dx;rw [Ah h,Ah h2];rfl
section
attribute [local irreducible] Ui Yk
-- h2: append to (.dat (rd bY (0 + (Int.toNat (wrap .i64 ((((bY.length + 1) : Nat) : Int) - 1))))).s.length (Zz (rd bY (0 + (Int.toNat (wrap .i64 ((((bY.length + 1) : Nat) : Int) - 1))))).s)) (choices [true, true, true, true, false, false, false, false, false])
-- h2: append to (.dat (rd bY (0 + (Int.toNat (wrap .i64 ((((bY.length + 1) : Nat) : Int) - 1))))).s.length (Zz (rd bY (0 + (Int.toNat (wrap .i64 ((((bY.length + 1) : Nat) : Int) - 1))))).s)) (choices [true, true, true, false, false, false, false, false])
-- h2: append to (.dat (rd bY (0 + (Int.toNat (wrap .i64 ((((bY.length + 1) : Nat) : Int) - 1))))).s.length (Zz (rd bY (0 + (Int.toNat (wrap .i64 ((((bY.length + 1) : Nat) : Int) - 1))))).s)) (choices [true, true, false, false, false, false, false])
-- h2: append to (.dat (rd bY (0 + (Int.toNat (wrap .i64 ((((bY.length + 1) : Nat) : Int) - 1))))).s.length (Zz (rd bY (0 + (Int.toNat (wrap .i64 ((((bY.length + 1) : Nat) : Int) - 1))))).s)) (choices [true, false, false, false, false, false])
end
abbrev eF (σ:Type):Xu σ:=.ret [.nils,.int .i64 12]
theorem Gi (a b:List UInt8):(a == b)=decide (a=b):=by rw [AR,AU,An]
abbrev Fu (t a b c:Int) (sol:List R6):B4:=B4.mk ([]:List UInt8) 0 t a b c sol
def Dn {σ:Type} (Kn:List UInt8->Int->Int->Int->Int->Xu σ) (Kb:R6->Xu σ):Option DK->Xu σ
 | none=>eF σ
 | some (.nod p t x y z)=>Kn p t x y z
 | some (.box r)=>Kb r
theorem y8a (ps:List (List UInt8)) (p:List UInt8): ∀k j,EF ps p (k+1) j=match EF ps p k j with
  | some x=>some x
  | none=>bif rd ps (j+k) == p then some (j+k) else none
 | 0,j=>rfl
 | k+1,j=>by have e1:EF ps p (k+1+1) j=bif rd ps j == p then some j else EF ps p (k+1) (j+1):=rfl;have e2:EF ps p (k+1) j=bif rd ps j == p then some j else EF ps p k (j+1):=rfl;rw [e1,e2,y8a ps p k (j+1),show j+1+k=j+(k+1) by omega];cases rd ps j == p <;> rfl
theorem j5q {d:List UInt8} (h:G8 d=true):d.length<=400:=by unfold G8 EI at h;simp only [Ad,An] at h;omega
theorem j2m {s:List UInt8} (h:Vx s=true):s.length<=500:=by
 unfold Vx at h;rw [Ad] at h;obtain ⟨h1,h2⟩:=h;have hn:(Xi s [91]).length <=40:=by unfold Cb at h1;rw [Ad,Ad,An,An] at h1;exact h1.2.1
 unfold Xi at hn;unfold Jd C5 Zu Wo at h2;by_cases g:0<=C6 s [91]
 .rw [Aa g,Af,Af] at h2;rw [Aa g,Af,Bk] at hn;rw [Ad] at h2;obtain ⟨k1,k2⟩:=h2;rw [k1,Af] at k2;have hd:((s.drop ((C6 s [91]).toNat +1)).take ((s.drop ((C6 s [91]).toNat +1)).length - ([93]:List UInt8).length)).length <=400:=by generalize (s.drop ((C6 s [91]).toNat +1)).take ((s.drop ((C6 s [91]).toNat +1)).length - ([93]:List UInt8).length)=d at k2;exact j5q k2
  rw [Bk,Bj,AJ] at hd;omega
 .rw [Ah g,Ab] at hn;omega
def Iu (l:List B4):Prop:= ∀x∈l,x.n.length<=500/\0<=x.t
theorem v2v {l:List B4} (h:Iu l) {i:Nat} {x:B4} (hx:x.n.length<=500/\0<=x.t):Iu (l.set i x):=fun y hy=>by
 rcases List.mem_or_eq_of_mem_set hy with h1 | h1
 .exact h y h1
 .rw [h1];exact hx
theorem v9l {l:List B4} (h:Iu l) (hl:l.length<=1000000):Yk l=true:=by unfold Yk;rw [Aa hl,Aq];exact Ay.2 fun x hx=>Aa (h x hx).1
def NO (p:List UInt8):Prop:=p≠ []/\C4 p=0/\p.length<=1000000
theorem Ma {p:List UInt8} (h:NO p):1<=(Kd p).length /\(Kd p).length <=40/\ ∀q∈Kd p,q.length<=500:=by
 obtain ⟨h0,h1,h2⟩:=h;have hc:Kd p=Wy 47 [] p:=by unfold Kd;rw [Gi p [],Ah h0];rfl
 have hne:=LD 47 p [];have fR:1<=(Kd p).length :=by
  rw [hc];cases hq:Wy 47 [] p with
  | nil=>exact absurd hq hne
  | cons a l=>rw [Au];omega
 unfold C4 at h1;by_cases g1:4000<p.length
 .rw [Aa g1] at h1;cases h1
 .rw [Ah g1,Ab] at h1;by_cases g2:40<(Kd p).length
  .rw [Aa g2] at h1;cases h1
  .rw [Ah g2,Ab] at h1;cases g3:(Kd p).all Vx with
   | false=>rw [g3] at h1;cases h1
   | true=>exact ⟨fR,by omega,fun q hq=>j2m (Ay.1 g3 q hq)⟩
theorem IW {α:Type} [Xk α] {l:List α} {i:Nat} (h:i<l.length):rd l i∈l:=by rw [Wf h];exact A0 h
theorem w6y {ps:List (List UInt8)} {i:Nat} (h:(Kd (rd ps i)).length =1):HD ps i=some (-1,rd (Kd (rd ps i)) ((Kd (rd ps i)).length - 1)):=by unfold HD;simp only [h];rfl
theorem w6x {ps:List (List UInt8)} {i:Nat} (h:(Kd (rd ps i)).length ≠1):HD ps i=match EF ps (H7 (Kd (rd ps i)).dropLast) i 0 with
  | none=>none
  | some k=>some ((k:Int),rd (Kd (rd ps i)) ((Kd (rd ps i)).length - 1)):=by
 unfold HD;simp only [];rw [Ah h];rfl
theorem x7e {x p:List UInt8} {t a b c:Int} (h:E5 x=some (.nod p t a b c)):(x.length<=1000000->NO p)/\0<=t:=by
 unfold E5 at h;have hpc: ∀p,p∈Wy 32 [] x->p.length<=x.length:=fun p hp=>by have:=Qb 32 x [] p hp;simpa using this
 cases hw:Wy 32 [] x with
 | nil=>rw [hw] at h;cases h
 | cons w r=>
  rw [hw,Ql] at h;cases g:decide (w=CS) with
  | false=>
   rw [g,Ab] at h;exfalso;cases g2:decide (w=C3)&&decide (r.length=6) with
   | false=>rw [g2] at h;cases h
   | true=>
    rw [g2,Af] at h;cases hn:Qu r with
    | none=>rw [hn] at h;cases h
    | some L=>
     rw [hn] at h;have h:EP L=some (.nod p t a b c):=h;unfold EP at h;split at h
     .injection h with h;cases h
     .cases h
  | true=>
   rw [g,Af] at h
   match r,hw with
   | [],_=>cases h
   | u ::q,hw=>
    have h:(bif decide (q.length=4)&&(!decide (u=[])&&decide (C4 u=0)) then (Qu q).bind (Dw u) else none)=some (.nod p t a b c):=h;cases g2:decide (q.length=4)&&(!decide (u=[])&&decide (C4 u=0)) with
    | false=>rw [g2] at h;cases h
    | true=>
     rw [g2,Af] at h;cases hn:Qu q with
     | none=>rw [hn] at h;cases h
     | some L=>
      rw [hn] at h;have h:Dw u L=some (.nod p t a b c):=h;unfold Dw at h;split at h
      .rename_i t' x' y' z' _;cases g3:decide (0<=t')&&decide (t'<=23) with
       | false=>rw [g3] at h;cases h
       | true=>rw [g3,Af] at h;injection h with h;injection h with e1 e2;subst e1;subst e2;simp only [Ad,An,Be,AX] at g2 g3;exact ⟨fun hx=>⟨g2.2.1,g2.2.2,by have:=hpc u (by rw [hw];simp);omega⟩,g3.1⟩
      .cases h
theorem w9j (x:List UInt8) (l:List (List UInt8)):DF (x::l)=(bif x.take 5 == Er then 1 else 0)+DF l:=by
 unfold DF;rw [List.filter_cons];cases x.take 5 == Er with
 | true=>rw [AF rfl,Au,Af];omega
 | false=>rw [Az (by simp),Ab];omega
theorem u2s : ∀l:List (List UInt8),DF l<=l.length:=fun l=>List.length_filter_le _ _
theorem v3d :Ui ([]:List B4)=0:=rfl
def OO :List B1->Option (B1×Bool)
 | [.str s]=>some (.tup [.dat (Jp s).length (Zz (Jp s)),.int .i64 (Ff s)],UB s)
 | _=>none
theorem Mf {s:List UInt8} {vs:List B1} (h:vs=Dd s\/(vs=[.nils,.int .i64 0]/\Dx s=([],0))) (ρ:B5) (u:Value) (hu:Zr ρ (Jn vs) u):Zr ρ (.tup [.dat (Jp s).length (Zz (Jp s)),.int .i64 (Ff s)]) u:=by
 rcases h with rfl | ⟨rfl,h2⟩
 .exact j1t s ρ u hu
 .unfold Jp Ff;rw [h2];exact Gk (.cons (Gr B4) (Ch.refl _)) ρ u hu
theorem Me {s:List UInt8} {vs:List B1} (h:vs=Dd s\/(vs=[.nils,.int .i64 0]/\Dx s=([],0))):pf 5 (Jn vs)=true:=by
 rcases h with rfl | ⟨rfl,_⟩
 .exact j1s s
 .rfl
end Go.Am
end
