/- A part of a proof: several texts in one. -/
import Derived.Test.YthnnmgkacjjpeaaGreatDoorNe4
set_option maxRecDepth 1000000
set_option maxHeartbeats 8000000
set_option linter.unusedVariables false
set_option linter.unusedSimpArgs false
noncomputable section
namespace Go.Am
open IntKind (wrap)
open Go.Proofs.Tryz
open Go.Proofs Go.Lib Go.Sort
def C6 (l:zr):Nat->Int->List zw
 | 0,_=>[]
 | k+1,i=>bif decide (0<=i) then (rd l i.toNat).n ::C6 l k (rd l i.toNat).a else []
def Ej (l:zr) (i:Nat):Bool:=(List.range (i+1)).all fun j=>decide (-1<=(rd l j).a)&&decide ((rd l j).a <(j:Int))
def Ce (l:zr) (i:Int):zw:=Lib.join (C6 l (i.toNat+1) i).reverse [47]
def Ja (l:zr) (i:Int):Bool:=decide (0<=i/\i<(l.length:Int))&&(decide (l.length<=1000)&&(Ej l i.toNat&&l.all fun x=>decide (x.n.length<=500)))
theorem Ke {l:zr} {i j:Nat} (h:Ej l i=true) (hj:j<=i): -1<=(rd l j).a /\(rd l j).a <(j:Int):=by have:=As.1 h j (AL.2 (by omega));rwa [Ac,Ao,Ao] at this
theorem u3s {l:zr} {i j:Nat} (h:Ej l i=true) (hj:j<=i):Ej l j=true:=As.2 fun k hk=>by have:=Ke h (show k<=i by have:=AL.1 hk;omega);rw [Ac,Ao,Ao];exact this
theorem M7 (l:zr) (k:Nat) {i:Int} (h: ¬0<=i):C6 l k i=[]:=by
 cases k with
 | zero=>rfl
 | succ k=>unfold C6;rw [An h];rfl
theorem w4s {l:zr} {t:Nat} (ht:Ej l t=true): ∀(k m:Nat) (i:Int),i<=(t:Int)->i<(k:Int)->i<(m:Int)->C6 l k i=C6 l m i
 | 0,m,i,h0,h1,h2=>by rw [M7 l 0 (by omega),M7 l m (by omega)]
 | k+1,0,i,h0,h1,h2=>by rw [M7 l (k+1) (by omega),M7 l 0 (by omega)]
 | k+1,m+1,i,h0,h1,h2=>by
  unfold C6;by_cases h:0<=i
  .obtain ⟨j,rfl⟩: ∃j:Nat,i=(j:Int):=⟨i.toNat,by omega⟩
   have hb:=Ke ht (show j<=t by omega);rw [Af h,Ab,Ab,Zj,w4s ht k m (rd l j).a (by omega) (by omega) (by omega)]
  .rw [An h];rfl
theorem x8p (l:zr): ∀(k:Nat) (i:Int),(C6 l k i).length <=k
 | 0,i=>Aq _
 | k+1,i=>by
  unfold C6;cases decide (0<=i) with
  | true=>rw [Ab,Ba];have:=x8p l k (rd l i.toNat).a;omega
  | false=>exact AA _
theorem Sn {l:zr} (h:(l.all fun x=>decide (x.n.length<=500))=true) (j:Nat):(rd l j).n.length <=500:=by
 by_cases hj:j<l.length
 .rw [Xm hj];exact Ay (As.1 h _ (AU hj))
 .have:rd l j=Xp.d:=by simp [rd,List.getD,List.getElem?_eq_none (show l.length<=j by omega)]
  rw [this];exact AA _
theorem x5c {l:zr} (h:(l.all fun x=>decide (x.n.length<=500))=true): ∀(k:Nat) (i:Int) (p:zw),p∈C6 l k i->p.length<=500
 | 0,i,p,hp=>by cases hp
 | k+1,i,p,hp=>by
  unfold C6 at hp;cases g:decide (0<=i) with
  | true=>
   rw [g,Ab] at hp;cases hp with
   | head=>exact Sn h _
   | tail _ hp=>exact x5c h k _ p hp
  | false=>rw [g] at hp;cases hp
theorem v7c (m:Nat): ∀(L:List zw),(∀p∈L,p.length<=m)->Lib.lens L<=m*L.length
 | [],h=>by simp [Lib.lens]
 | x::r,h=>by
  have h1:=h x Bc;have h2:=v7c m r fun p hp=>h p (Bb _ hp);have e:Lib.lens (x::r)=x.length+Lib.lens r:=by simp [Lib.lens]
  rw [e,Ba,Nat.mul_add];omega
theorem j6l (L:List zw) (h: ∀p∈L,p.length<=500):(Lib.join L [47]).length <=501*L.length:=by
 cases L with
 | nil=>simp [Lib.join_nil]
 | cons x r=>have:=v7c 500 (x::r) h;rw [Lib.join_length];have e:(x::r).length =r.length+1:=rfl;rw [e] at this ⊢;show 1*r.length+_<=_;omega
theorem XM {l:zr} {i:Int} (h:Ja l i=true):(Ce l i).length <=1000000:=by unfold Ja at h;simp only [Ac,Ao] at h;obtain ⟨h1,h2,h3,h4⟩:=h;have:=j6l (C6 l (i.toNat+1) i).reverse fun p hp=>x5c h4 _ _ p (List.mem_reverse.1 hp);have hl:=x8p l (i.toNat+1) i;rw [List.length_reverse] at this;unfold Ce;omega
theorem u9v {l:zr} {x:Int} {t:Nat} (ht:Ej l t=true) (hl:l.length<=1000) {R:Xk G4}: ∀(m:Nat) (i:Int) (out:List zw),i<(m:Int)->i<=(t:Int)->i<(l.length:Int)->out.length+m<=2000->
  (∃N,Yj (Fj l x) N (.to (.h1 (out++C6 l m i) 0 (wrap .i64 (((out++C6 l m i).length :Int) - 1))))=R)-> ∃N,Yj (Fj l x) N (.to (.h0 out i))=R
 | m,i,out,hm,hit,hil,ho,⟨N,hR⟩=>by
  by_cases h:0<=i
  .match m with
   | 0=>omega
   | m+1=>
    obtain ⟨j,rfl⟩: ∃j:Nat,i=(j:Int):=⟨i.toNat,by omega⟩
    have hb:=Ke ht (show j<=t by omega);have e:Fj l x (.h0 out (j:Int))=.to (.h0 (out++[(rd l j).n]) (rd l j).a):=by unfold Fj;simp only [Zj];rw [En h,Ab,Yk (Y0 (by omega)),Aj,Yk (Zn (by omega))]
    have hu:C6 l (m+1) (j:Int)=(rd l j).n ::C6 l m (rd l j).a :=(by rw [C6,Af h,Ab,Zj]);rw [hu,show out++(rd l j).n ::C6 l m (rd l j).a =(out++[(rd l j).n])++C6 l m (rd l j).a by rw [AH];rfl] at hR;obtain ⟨M,hM⟩:=u9v ht hl m (rd l j).a (out++[(rd l j).n]) (by omega) (by omega) (by omega) (by rw [AO,List.length_singleton];omega) ⟨N,hR⟩;exact ⟨M+1,by rw [Zx,e,hM]⟩
  .refine ⟨N+1,?_⟩;rw [M7 l m h,AG] at hR;rw [Zx,<-hR]
   congr 1
   unfold Fj;simp only [];rw [Fk h];rfl
theorem v5m {α:Type} [Xp α] {L:List α} {i:Nat} {v:α} (hi:i<L.length) (k:Nat):rd (L.set i v) k=bif Nat.beq i k then v else rd L k:=by
 unfold rd;rw [Bk,Bk,List.getElem?_set];cases g:Nat.beq i k with
 | true=>obtain rfl:=Ai g;rw [AF rfl,AF hi];rfl
 | false=>
  have:i≠k:=fun e=>by rw [e,BR] at g;cases g
  rw [Az this];rfl
theorem j5a {L M:List zw} (hl:M.length=L.length) (h: ∀k,k<L.length->rd M k=rd L (L.length - 1 - k)):M=L.reverse:=by apply BO (by rw [List.length_reverse,hl]);intro k h1 h2;have:=h k (by omega);rw [Xm h1,Xm (show L.length - 1 - k<L.length by omega)] at this;rw [this,List.getElem_reverse]
theorem u9u {l:zr} {x:Int} {L:List zw} (hL:L.length<=2000) (hj:Me L.reverse [47]=true): ∀(d i j:Nat) (M:List zw),M.length=L.length->i+j+1=L.length+0\/(L.length=0/\i=0/\j=0)->j - i<=d->
  (∀k,k<L.length->rd M k=bif decide (k<i)||decide (j<k) then rd L (L.length - 1 - k) else rd L k)->
  ∃N,Yj (Fj l x) N (.to (.h1 M (i:Int) (wrap .i64 ((L.length:Int) - 1 - (i:Int)))))=.ret [.str (Lt L.reverse [47])]
 | d, i,j,M,hM,hij,hd,hk=>by
  have wj:L.length≠0->wrap .i64 ((L.length:Int) - 1 - (i:Int))=(j:Int):=fun h0=>by rw [Zq (by omega)];omega
  by_cases h:i<j
  .have h0:L.length≠0:=by omega
   match d with
   | 0=>omega
   | d +1=>
    have w2:wrap .i64 ((i:Int)+1)=((i+1:Nat):Int):=Zq (by omega);have w3:wrap .i64 ((j:Int) - 1)=wrap .i64 ((L.length:Int) - 1 - ((i+1:Nat):Int)):=by congr 1;omega
    have e:Fj l x (.h1 M (i:Int) (wrap .i64 ((L.length:Int) - 1 - (i:Int))))=.to (.h1 ((M.set i (rd M j)).set j (rd M i)) ((i+1:Nat):Int) (wrap .i64 ((L.length:Int) - 1 - ((i+1:Nat):Int)))):=by rw [wj h0];unfold Fj;simp only [Zj,w2,w3,Ah];rw [Zt (by omega),Ab,Aj,Aj,Yk (Zn (by omega)),Yk (Yp (by omega)),Yk (Zn (by omega)),Yk (Yp (by omega))]
    obtain ⟨N,hN⟩:=u9u (l:=l) (x:=x) hL hj d (i+1) (j - 1) ((M.set i (rd M j)).set j (rd M i)) (by rw [BT,BT,hM]) (by omega) (by omega) fun k hkl=>by
     rw [v5m (by rw [BT];omega),v5m (by omega)];by_cases g1:j=k
     .subst g1;rw [BR,Ab,hk i (by omega),An (show ¬i<i by omega),An (show ¬j<i by omega),Af (show j - 1<j by omega),Bool.or_true];show rd L i=rd L (L.length - 1 - j)
      congr 1;omega
     .rw [show Nat.beq j k=false from by cases g:Nat.beq j k with
       | false=>rfl
       | true=>exact absurd (Ai g) g1,Aa]
      by_cases g2:i=k
      .subst g2;rw [BR,Ab,hk j (by omega),An (show ¬j<i by omega),An (show ¬j<j by omega),Af (show i<i+1 by omega)];show rd L j=rd L (L.length - 1 - i)
       congr 1;omega
      .rw [show Nat.beq i k=false from by cases g:Nat.beq i k with
        | false=>rfl
        | true=>exact absurd (Ai g) g2,Aa,hk k hkl,show decide (k<i+1)=decide (k<i) by rw [AV,Ao,Ao];omega,show decide (j - 1<k)=decide (j<k) by rw [AV,Ao,Ao];omega]
    exact ⟨N+1,by rw [Zx,e,hN]⟩
  .have hrev:M=L.reverse:=j5a hM fun k hkl=>by
    rw [hk k hkl];cases g:decide (k<i)||decide (j<k) with
    | true=>rfl
    | false=>
     rw [AP,Be,Be] at g;show rd L k=_
     congr 1;omega
   subst hrev;refine ⟨1,?_⟩;rw [Zx];have hlt: ¬(i:Int)<wrap .i64 ((L.length:Int) - 1 - (i:Int)):=by rw [Zq (by omega)];omega
   unfold Fj;simp only [];rw [Yc hlt,Aa,Yk (by rw [Ac,Ac];exact ⟨rfl,Af (by omega),Xc _⟩),Uj,Yk hj];rfl
theorem j5i (l:zr) (i:Int) (h:Ja l i=true): ∃N,Yj (Fj l i) N (XN l i)=.ret [.str (Ce l i)]:=by
 have hp:=XM h;unfold Ja at h;simp only [Ac,Ao] at h;obtain ⟨h1,h2,h3,h4⟩:=h;have eK:=x8p l (i.toNat+1) i;have hjo:Me (C6 l (i.toNat+1) i).reverse [47]=true:=by unfold Me;rw [Ac,Ao,Ao,List.length_reverse];exact ⟨by omega,hp⟩
 unfold XN;refine u9v h3 h2 (i.toNat+1) i [] (by omega) (by omega) (by omega) (by rw [List.length_nil];omega) ?_;rw [A0];have:=u9u (l:=l) (x:=i) (L:=C6 l (i.toNat+1) i) (by omega) hjo ((C6 l (i.toNat+1) i).length) 0 ((C6 l (i.toNat+1) i).length - 1) (C6 l (i.toNat+1) i) rfl (by omega) (by omega) fun k hk=>by rw [An (show ¬k<0 by omega),An (show ¬(C6 l (i.toNat+1) i).length - 1<k by omega)];rfl
 rw [show ((C6 l (i.toNat+1) i).length :Int) - 1 - ((0:Nat):Int)=((C6 l (i.toNat+1) i).length :Int) - 1 by omega] at this;exact this
def Fa :zy->Option (CA×Bool)
 | [a0,.int .i64 i]=>match C4 CD a0 with
  | some (L,g,n)=>some (.str (Ce L i),CU CD n g&&Ja L i)
  | _=>none
 | _=>none
theorem j8c {S:CC} (hS:Zu prog S):Zu prog (S.with UJ Fa):=C3 hS (by kernel_rfl) fun args v h=>by
 unfold Fa at h;split at h
 .rename_i a0 i;split at h
  .rename_i L g n e0;simp only [Ae,Ad,Ac] at h;obtain ⟨rfl,ho0,hw⟩:=h;obtain ⟨N,hN⟩:=j5i L i hw;exact ⟨_,_,(.cons (Xy e0 ho0) (.cons (.refl _) .nil)),rfl,u3n L i N _ hN,3,rfl⟩
  .cases h
 .cases h
theorem u4r (sep x p:zw): ∀R:List zw,Lib.join (R++[x,p]) sep=Lib.join (R++[x++sep++p]) sep
 | []=>by show Lib.join [x,p] sep=Lib.join [x++sep++p] sep;rw [Lib.join_one,Lib.join_cons];simp [Lib.joinTail]
 | y::R=>by rw [BD,BD,Lib.join_cons,Lib.join_cons];simp [Lib.joinTail]
theorem u8v {l:zr} {x:Int} {t:Nat} (ht:Ej l t=true) (hl:l.length<=1000) (hn:(l.all fun x=>decide (x.n.length<=500))=true): ∀(m:Nat) (i:Int) (p:zw),i<(m:Int)->i<=(t:Int)->i<(l.length:Int)->m<=1000->p.length+501*m<=600000->
  ∃N,Yj (M3 l x) N (.to (.h0 p i))=.ret [.str (Lib.join ((C6 l m i).reverse ++[p]) [47])]
 | m,i,p,hm,hit,hil,hm2,hp=>by
  by_cases h:0<=i
  .match m with
   | 0=>omega
   | m+1=>
    obtain ⟨j,rfl⟩: ∃j:Nat,i=(j:Int):=⟨i.toNat,by omega⟩
    have hb:=Ke ht (show j<=t by omega);have hnl:=Sn hn j;have e:M3 l x (.h0 p (j:Int))=.to (.h0 (((rd l j).n ++[47])++p) (rd l j).a):=by unfold M3;simp only [Zj];rw [En h,Ab,Yk (KU (by show _+1<=_;omega)),Yk (KU (by rw [AO];show _+1+_<=_;omega)),Aj,Yk (Zn (by omega))]
    have hu:C6 l (m+1) (j:Int)=(rd l j).n ::C6 l m (rd l j).a :=(by rw [C6,Af h,Ab,Zj]);obtain ⟨N,hN⟩:=u8v (x:=x) ht hl hn m (rd l j).a (((rd l j).n ++[47])++p) (by omega) (by omega) (by omega) (by omega) (by rw [AO,AO];show _+1+_+_<=_;omega);refine ⟨N+1,?_⟩;rw [Zx,e,hN,hu,List.reverse_cons,show (C6 l m (rd l j).a).reverse ++[(rd l j).n]++[p]=(C6 l m (rd l j).a).reverse ++[(rd l j).n,p] from AH _ _ _,u4r]
  .refine ⟨1,?_⟩;rw [Zx,M7 l m h,List.reverse_nil,A0,Lib.join_one];unfold M3;simp only [];rw [Fk h];rfl
theorem j4e (l:zr) (i:Int) (h:Ja l i=true): ∃N,Yj (M3 l i) N (XW l i)=.ret [.str (Ce l i)]:=by
 unfold Ja at h;simp only [Ac,Ao] at h;obtain ⟨h1,h2,h3,h4⟩:=h;obtain ⟨j,rfl⟩: ∃j:Nat,i=(j:Int):=⟨i.toNat,by omega⟩
 rw [Zj] at h3;have hb:=Ke h3 (Aq j);have hnl:=Sn h4 j;unfold XW Ce;rw [Aj,Yk (Zn h1),Zj];have hu:C6 l (j+1) (j:Int)=(rd l j).n ::C6 l j (rd l j).a :=by rw [C6,Af (show (0:Int)<=(j:Int) by omega),Ab,Zj]
 rw [hu,List.reverse_cons];exact u8v h3 h2 h4 j (rd l j).a (rd l j).n (by omega) (by omega) (by omega) (by omega) (by omega)
theorem j7u {S:CC} (hS:Zu prog S):Zu prog (S.with Tx Fa):=C3 hS (by kernel_rfl) fun args v h=>by
 unfold Fa at h;split at h
 .rename_i a0 i;split at h
  .rename_i L g n e0;simp only [Ae,Ad,Ac] at h;obtain ⟨rfl,ho0,hw⟩:=h;obtain ⟨N,hN⟩:=j4e L i hw;exact ⟨_,_,(.cons (Xy e0 ho0) (.cons (.refl _) .nil)),rfl,u2d L i N _ hN,3,rfl⟩
  .cases h
 .cases h
def F8 (x:CD):Bool:=decide (12<x.s.length)||decide (500<x.n.length)
def greZ (n:Nat):Bool:=decide (12<n)&&decide (n<=200)||decide (220<n)
def Oa (l:zr):Bool:=(l.take 300).any F8||greZ l.length
theorem j6t (l:zr):(bif decide ((l.length:Int)>12) then (bif decide ((l.length:Int)<=200) then (.ret [.bool true]) else (.ret [.bool (decide ((l.length:Int)>220))])) else (.ret [.bool (decide ((l.length:Int)>220))]):Xk G8)=.ret [.bool (greZ l.length)]:=by
 unfold greZ;have e:decide ((l.length:Int)>220)=decide (220<l.length):=by rw [AV,Ao,Ao];omega
 rw [e];by_cases h:12<l.length
 .rw [Yo (by omega),Af h];by_cases h2:l.length<=200
  .rw [Xs (by omega),Af h2];rfl
  .rw [EZ (by omega),An h2];rfl
 .rw [Xb (by omega),An h];rfl
theorem j0z (l:zr): ∀(k i:Nat),i+k=min l.length 300-> ∃N,Yj (MT l) N (.to (.h0 (i:Int)))=.ret [.bool (((l.take 300).drop i).any F8||greZ l.length)]
 | 0,i,h=>⟨1,by
  rw [Zx,Aw (by rw [Bt];omega)];unfold MT;simp only [];rw [j6t];by_cases g:i<l.length
  .rw [Zt (by omega),Ab,Yc (by omega)];rfl
  .rw [Yc (by omega)];rfl⟩
 | k+1,i,h=>by
  have hi:i<l.length:=by omega
  have w2:wrap .i64 ((i:Int)+1)=((i+1:Nat):Int):=Zq (by omega);have e:MT l (.h0 (i:Int))=bif F8 (rd l i) then .ret [.bool true] else .to (.h0 ((i+1:Nat):Int)):=by
   unfold MT F8;simp only [Zj,w2];rw [Zt (by omega),Ab,Zt (by omega),Ab,Aj,Yk (Zn (by omega))];have e1:decide (((rd l i).s.length :Int)>12)=decide (12<(rd l i).s.length):=by rw [AV,Ao,Ao];omega
   have e2:decide (((rd l i).n.length :Int)>500)=decide (500<(rd l i).n.length):=by rw [AV,Ao,Ao];omega
   rw [e1,e2];cases decide (12<(rd l i).s.length) <;> rfl
  have hd:(l.take 300).drop i=rd l i::(l.take 300).drop (i+1):=by rw [AW (show i<(l.take 300).length by rw [Bt];omega),BM,Xm hi]
  rw [hd,List.any_cons];cases g:F8 (rd l i) with
  | true=>exact ⟨1,by rw [Zx,e,g];rfl⟩
  | false=>obtain ⟨N,hN⟩:=j0z l k (i+1) (by omega);exact ⟨N+1,by rw [Zx,e,g,Aa,hN,Bj]⟩
theorem j6s (l:zr): ∃N,Yj (MT l) N (x3y l)=.ret [.bool (Oa l)]:=j0z l (min l.length 300) 0 (Ah _)
def Pc :zy->Option (CA×Bool)
 | [a0]=>match C4 CD a0 with
  | some (L,g,n)=>some (.bool (Oa L),CU CD n g)
  | _=>none
 | _=>none
theorem j8m {S:CC} (hS:Zu prog S):Zu prog (S.with U7 Pc):=C3 hS (by kernel_rfl) fun args v h=>by
 unfold Pc at h;split at h
 .rename_i a0;split at h
  .rename_i L g n e0;simp only [Ae,Ad] at h;obtain ⟨rfl,ho0⟩:=h;obtain ⟨N,hN⟩:=j6s L;exact ⟨_,_,(.cons (Xy e0 ho0) .nil),rfl,u4z L N _ hN,3,rfl⟩
  .cases h
 .cases h
def V0 :CC:=((V1.with UJ Fa).with Tx Fa).with U7 Pc
theorem Qe :Zu prog V0:=j8m (j7u (j8c Uf))
inductive I8 where
def PD (aM:Int) (aR:Int) (aS:Int) (aQ:Int):I8->CJ
 :=nofun
def w3c (aM:Int) (aR:Int) (aS:Int) (aQ:Int):I8->Xk I8
 :=nofun
def Sy (aM:Int) (aR:Int) (aS:Int) (aQ:Int):Xk I8:=(bif (decide (aM>=24)) then (.ret [(.int .i64 8)]) else (bif (decide ((Kz (Kz aR aS) aQ)>=(-1000000))) then (bif (!(decide ((Ky (Ky aR aS) aQ)<=1000000))) then (.ret [(.int .i64 8)]) else (.ret [(.int .i64 0)])) else (.ret [(.int .i64 8)])))
theorem v1j (aM:Int) (aR:Int) (aS:Int) (aQ:Int): ∀s,Xh prog (Zy prog 56) (PD aM aR aS aQ) (PD aM aR aS aQ s) (w3c aM aR aS aQ s)
 :=nofun
theorem w3d (aM:Int) (aR:Int) (aS:Int) (aQ:Int):Xh prog (Zy prog 56) (PD aM aR aS aQ) (Zb prog 56 [(.agg [(.int .u8 aM),(.int .i64 aR),(.int .i64 aS),(.int .i64 aQ)])] true []) (Sy aM aR aS aQ):=(lb (fun k0=>(lr 12 56 (pn 37) 1 9 [(2,(ii 8))] (sl Qe 23 [] (b8 [2]) b7 (CL 5 []) (tt k0 nn)))) (fun k0=>(lb (fun k1=>let a:=tt k1 (tt k0 nn);(lb (fun k2=>(lr 12 56 (pn 37) 1 9 [(2,(ii 8))] (sl Qe 52 [] (b8 [2]) b7 (bl 13 6136) (tt k2 a)))) (fun k2=>(lr 12 3 (pn 191) 1 9 [(2,(ii 0))] (sl Qe 53 [] (b8 [2]) b7 (bl 13 2040) (tt k2 a)))))) (fun k1=>(lr 12 56 (pn 37) 1 9 [(2,(ii 8))] (sl Qe 52 [] (b8 [2]) b7 (bl 13 4096) (tt k1 (tt k0 nn))))))))
theorem u5j (aM:Int) (aR:Int) (aS:Int) (aQ:Int) (n:Nat) (vs:zy) (h:Yj (w3c aM aR aS aQ) n (Sy aM aR aS aQ)=.ret vs):Ji prog (Zy prog 56) (Zb prog 56 [(.agg [(.int .u8 aM),(.int .i64 aR),(.int .i64 aS),(.int .i64 aQ)])] true []) vs:=by have:=Zf (v1j aM aR aS aQ) n _ (w3d aM aR aS aQ);rwa [h] at this
inductive IA where
def Nr (aM:Int) (aR:Int) (aS:Int) (aQ:Int):IA->CJ
 :=nofun
def w0l (aM:Int) (aR:Int) (aS:Int) (aQ:Int):IA->Xk IA
 :=nofun
def SD (aM:Int) (aR:Int) (aS:Int) (aQ:Int):Xk IA:=(bif (decide (aM>=24)) then (.ret [(.int .i64 8)]) else (bif (decide (aR>=(-1000000))) then (bif (decide (aS>=(-1000000))) then (bif (decide (aQ>=(-1000000))) then (bif (decide (aR<=1000000)) then (bif (decide (aS<=1000000)) then (bif (!(decide (aQ<=1000000))) then (.ret [(.int .i64 8)]) else (.ret [(.int .i64 0)])) else (.ret [(.int .i64 8)])) else (.ret [(.int .i64 8)])) else (.ret [(.int .i64 8)])) else (.ret [(.int .i64 8)])) else (.ret [(.int .i64 8)])))
theorem w9p (aM:Int) (aR:Int) (aS:Int) (aQ:Int): ∀s,Xh prog (Zy prog 25) (Nr aM aR aS aQ) (Nr aM aR aS aQ s) (w0l aM aR aS aQ s)
 :=nofun
theorem w0m (aM:Int) (aR:Int) (aS:Int) (aQ:Int):Xh prog (Zy prog 25) (Nr aM aR aS aQ) (Zb prog 25 [(.agg [(.int .u8 aM),(.int .i64 aR),(.int .i64 aS),(.int .i64 aQ)])] true []) (SD aM aR aS aQ):=(lb (fun k0=>(lr 12 25 (pn 37) 1 9 [(2,(ii 8))] (sl Qe 23 [] (b8 [2]) b7 (CL 5 []) (tt k0 nn)))) (fun k0=>(lb (fun k1=>let c:=tt k1 (tt k0 nn);(lb (fun k2=>let a:=tt k2 c;(lb (fun k3=>(lb (fun k4=>let b:=tt k4 (tt k3 a);(lb (fun k5=>(lb (fun k6=>(lr 12 25 (pn 37) 1 9 [(2,(ii 8))] (sl Qe 64 [] (b8 [2]) b7 (bl 22 3145720) (tt k6 (tt k5 b))))) (fun k6=>(lr 12 3 (pn 191) 1 9 [(2,(ii 0))] (sl Qe 65 [] (b8 [2]) b7 (bl 22 1048568) (tt k6 (tt k5 b))))))) (fun k5=>(lr 12 25 (pn 37) 1 9 [(2,(ii 8))] (sl Qe 64 [] (b8 [2]) b7 (bl 22 2228216) (tt k5 b)))))) (fun k4=>(lr 12 25 (pn 37) 1 9 [(2,(ii 8))] (sl Qe 64 [] (b8 [2]) b7 (bl 22 2113528) (tt k4 (tt k3 a))))))) (fun k3=>(lr 12 25 (pn 37) 1 9 [(2,(ii 8))] (sl Qe 64 [] (b8 [2]) b7 (bl 22 2099192) (tt k3 a)))))) (fun k2=>(lr 12 25 (pn 37) 1 9 [(2,(ii 8))] (sl Qe 64 [] (b8 [2]) b7 (bl 22 2097272) (tt k2 c)))))) (fun k1=>(lr 12 25 (pn 37) 1 9 [(2,(ii 8))] (sl Qe 64 [] (b8 [2]) b7 (bl 22 2097152) (tt k1 (tt k0 nn))))))))
theorem u2y (aM:Int) (aR:Int) (aS:Int) (aQ:Int) (n:Nat) (vs:zy) (h:Yj (w0l aM aR aS aQ) n (SD aM aR aS aQ)=.ret vs):Ji prog (Zy prog 25) (Zb prog 25 [(.agg [(.int .u8 aM),(.int .i64 aR),(.int .i64 aS),(.int .i64 aQ)])] true []) vs:=by have:=Zf (w9p aM aR aS aQ) n _ (w0m aM aR aS aQ);rwa [h] at this
def inB (x:Int):Bool:=decide (-1000000<=x)&&decide (x<=1000000)
def Fy (x y z:Int):Bool:=inB x&&(inB y&&inB z)
def CT (t x y z:Int):Int:=bif decide (24<=t) then 8 else bif Fy x y z then 0 else 8
theorem RG (x y z:Int):Fy x y z=true↔(-1000000<=x/\x<=1000000)/\(-1000000<=y/\y<=1000000)/\(-1000000<=z/\z<=1000000):=by unfold Fy inB;simp only [Ac,Ao]
theorem j7e (t x y z:Int): ∃N,Yj (w3c t x y z) N (Sy t x y z)=.ret [.int .i64 (CT t x y z)]:=⟨0,by
 show Sy t x y z=_;unfold Sy CT;by_cases h:24<=t
 .rw [En h];rfl
 .rw [Fk h,Aa,Aa];cases g:Fy x y z with
  | true=>have:=(RG x y z).1 g;rw [HI,HI,HG,HG,En (by omega),Xs (by omega)];rfl
  | false=>
   have: ¬((-1000000<=x/\x<=1000000)/\(-1000000<=y/\y<=1000000)/\(-1000000<=z/\z<=1000000)):=fun h=>A7.1 g ((RG x y z).2 h);rw [HI,HI,HG,HG];by_cases h1:min (min x y) z>= -1000000
   .rw [En h1,Ab,EZ (by omega)];rfl
   .rw [Fk h1];rfl⟩
theorem j4z (t x y z:Int): ∃N,Yj (w0l t x y z) N (SD t x y z)=.ret [.int .i64 (CT t x y z)]:=⟨0,by
 show SD t x y z=_;unfold SD CT Fy inB;by_cases h:24<=t
 .rw [En h];rfl
 .rw [Fk h,Aa,Aa];show (bif decide (-1000000<=x) then _ else _)=_;have e: ∀(a b:Int),decide (a>=b)=decide (b<=a):=fun a b=>rfl;rw [e y,e z];cases decide (-1000000<=x) <;> cases decide (-1000000<=y) <;> cases decide (-1000000<=z) <;> cases decide (x<=1000000) <;> cases decide (y<=1000000) <;> cases decide (z<=1000000) <;> rfl⟩
def Rr :zy->Option (CA×Bool)
 | [.agg [.int .u8 t,.int .i64 x,.int .i64 y,.int .i64 z]]=>some (.int .i64 (CT t x y z),true)
 | _=>none
theorem j8r {S:CC} (hS:Zu prog S):Zu prog (S.with VF Rr):=C3 hS (by kernel_rfl) fun args v h=>by
 unfold Rr at h;split at h
 .rename_i t x y z;simp only [Ae,Ad] at h;obtain ⟨rfl,_⟩:=h;obtain ⟨N,hN⟩:=j7e t x y z;exact ⟨_,_,.cons (.refl _) .nil,rfl,u5j t x y z N _ hN,3,rfl⟩
 .cases h
theorem j7z {S:CC} (hS:Zu prog S):Zu prog (S.with UC Rr):=C3 hS (by kernel_rfl) fun args v h=>by
 unfold Rr at h;split at h
 .rename_i t x y z;simp only [Ae,Ad] at h;obtain ⟨rfl,_⟩:=h;obtain ⟨N,hN⟩:=j4z t x y z;exact ⟨_,_,.cons (.refl _) .nil,rfl,u2y t x y z N _ hN,3,rfl⟩
 .cases h
def VZ :CC:=(V0.with VF Rr).with UC Rr
theorem Wg :Zu prog VZ:=j7z (j8r Qe)
inductive Hk where
 | h0 (v15:Int)
 | h1 (v29:Int) (aC:List (zw×Bool))
def N8 (l0:zr):Hk->CJ
 | .h0 v15=>⟨⟨69,0,true⟩,none,(Zk prog 33 (pn 75) 0),none,(Zy prog 9),⟨Yy [(0,(dt l0)),(13,(dt l0)),(14,(ii (l0.length:Int))),(15,(ii v15))],Wf [] 0,0,[],true⟩,[],.leaf⟩
 | .h1 v29 aC=>⟨⟨69,0,true⟩,none,(Zk prog 33 (pn 303) 0),none,(Zy prog 9),⟨Yy [(0,(dt l0)),(6,(.mapr 0)),(27,(dt l0)),(28,(ii (l0.length:Int))),(29,(ii v29))],Wf [⟨[(.obj (.mb aC))],121,none⟩] 0,1,[],true⟩,[],.leaf⟩
def KR :List (Option zt):=[some [0,13,14,15]]
def KT :List (Option zt):=[]
def KQ :List (Option zt):=[some [0,6,27,28,29]]
def KS :List (Option zt):=[]
def Qk (l0:zr):Hk->Xk Hk
 | .h0 v15=>let a:=CB (rd l0 v15.toNat).s;(bif (decide (v15<(l0.length:Int))) then (bif ((decide (0<=v15/\v15<(l0.length:Int)))&&true) then (bif (Jg a) then (bif ((Yv a) != 0) then (.ret [(.int .i64 (Yv a))]) else (.to (.h0 (wrap .i64 (v15+1))))) else .stuck) else .stuck) else (.to (.h1 0 ([]:List (zw×Bool)))))
 | .h1 v29 aC=>let b:=rd l0 v29.toNat;let c:=Ce (CB l0) v29;(bif (decide (v29<(l0.length:Int))) then (bif ((decide (0<=v29/\v29<(l0.length:Int)))&&true) then (bif (Uu b.n) then (bif (!(Co b.n)) then (.ret [(.int .i64 8)]) else (bif (decide (b.a <(-1))) then (.ret [(.int .i64 8)]) else (bif (decide (b.a >=v29)) then (.ret [(.int .i64 8)]) else (bif ((CT b.t b.x b.y b.z) != 0) then (.ret [(.int .i64 8)]) else (bif (Ja (CB l0) v29) then (bif (getK false aC c) then (.ret [(.int .i64 8)]) else (bif (Kn c) then (bif ((EF c) != 0) then (.ret [(.int .i64 8)]) else (.to (.h1 (wrap .i64 (v29+1)) (ER aC c true)))) else .stuck)) else .stuck))))) else .stuck) else .stuck) else (.ret [(.int .i64 0)]))
def X2 (l0:zr):Xk Hk:=(bif (decide ((l0.length:Int)>200)) then (.ret [(.int .i64 4)]) else (.to (.h0 0)))
theorem w8s (l0:zr): ∀s,Xh prog (Zy prog 33) (N8 l0) (N8 l0 s) (Qk l0 s)
 | .h0 v15=>(lb (fun k0=>(lo fun aK=>(lo fun bH=>let a:=ww aK (tt k0 nn);let b:=rd l0 (tn v15);(lb (fun k1=>(lr 69 33 (pn 40139) 1 9 [(2,(ii (Yv (CB b.s))))] (sl Wg 34 [] (b8 [2]) b7 (bl 2 3) (tt k1 (pp (pp (xI R6 b.s.length (Zz b.s)) (xw bH)) a))))) (fun k1=>(sl Wg 36 [] ⟨[],[],KR,KT⟩ b7 (bl 2 1) (tt k1 (pp (pp (xI R6 b.s.length (Zz b.s)) (xw bH)) a)))))))) (fun k0=>(sl Wg 21 [] ⟨[0],[],KQ,KS⟩ b7 [false] (tt k0 nn))))
 | .h1 v29 aC=>(lb (fun k0=>(lo fun aK=>(lo fun bH=>let b:=ww bH (ww aK (tt k0 nn));let e:=pn 152367;(lb (fun k1=>(lr 69 33 e 1 9 [(2,(ii 8))] (sl Wg 48 [] (b8 [2]) b7 (CL 13 []) (tt k1 b)))) (fun k1=>(lb (fun k2=>(lr 69 33 e 1 9 [(2,(ii 8))] (sl Wg 48 [] (b8 [2]) b7 (bl 13 8177) (tt k2 (tt k1 b))))) (fun k2=>let c:=tt k2 (tt k1 b);(lb (fun k3=>(lr 69 33 e 1 9 [(2,(ii 8))] (sl Wg 48 [] (b8 [2]) b7 (bl 13 7937) (tt k3 c)))) (fun k3=>(lb (fun k4=>(lr 69 33 e 1 9 [(2,(ii 8))] (sl Wg 48 [] (b8 [2]) b7 (bl 13 4097) (tt k4 (tt k3 c))))) (fun k4=>(lo fun dC=>let a:=pp (pp (xr l0) (xw dC)) (tt k4 (tt k3 c));(lb (fun k5=>(lr 69 33 (pn 619311) 1 9 [(2,(ii 8))] (sl Wg 69 [] (b8 [2]) b7 (bl 17 122881) (tt k5 a)))) (fun k5=>(lo fun dU=>let d:=ww dU (tt k5 a);(lb (fun k6=>(lr 69 33 (pn 619311) 1 9 [(2,(ii 8))] (sl Wg 69 [] (b8 [2]) b7 (bl 17 65537) (tt k6 d)))) (fun k6=>(sl Wg 77 [] ⟨[0],[],KQ,KS⟩ b7 (bl 17 1) (tt k6 d))))))))))))))))))) (fun k0=>(lr 69 3 (pn 191) 1 9 [(2,(ii 0))] (sl Wg 11 [] (b8 [2]) b7 [false] (tt k0 nn)))))
theorem x9l (l0:zr):Xh prog (Zy prog 33) (N8 l0) (Zb prog 33 [(dt l0)] true []) (X2 l0):=(lb (fun k0=>(lr 69 33 (pn 37) 1 9 [(2,(ii 4))] (sl Wg 16 [] (b8 [2]) b7 [true] (tt k0 nn)))) (fun k0=>(sl Wg 22 [] ⟨[],[],KR,KT⟩ b7 [false] (tt k0 nn))))
theorem u1q (l0:zr) (n:Nat) (vs:zy) (h:Yj (Qk l0) n (X2 l0)=.ret vs):Ji prog (Zy prog 33) (Zb prog 33 [(dt l0)] true []) vs:=by have:=Zf (w8s l0) n _ (x9l l0);rwa [h] at this
inductive Hp where
 | h0 (v3:Int)
 | h1 (v4:Int)
 | h2 (v4:Int) (v6:Int) (aC:zw) (bI:Int) (bG:Int) (bY:Int) (dI:Int) (dJ:Int) (dE:zx)
def Nf (l0:zr):Hp->CJ
 | .h0 v3=>⟨⟨90,0,true⟩,none,(Zk prog 38 (pn 75) 0),none,(Zy prog 9),⟨Yy [(0,(dt l0)),(3,(ii v3))],Wf [] 0,0,[],true⟩,[],.leaf⟩
 | .h1 v4=>⟨⟨90,0,true⟩,none,(Zk prog 38 (pn 151) 0),none,(Zy prog 9),⟨Yy [(0,(dt l0)),(4,(ii v4))],Wf [] 0,0,[],true⟩,[],.leaf⟩
 | .h2 v4 v6 aC bI bG bY dI dJ dE=>⟨⟨90,0,true⟩,none,(Zk prog 38 (pn 40087) 0),none,(Zy prog 9),⟨Yy [(0,(dt l0)),(4,(ii v4)),(5,(.ptr 0 0)),(6,(ii v6))],Wf [⟨[(.str aC),(ii bI),(.int .u8 bG),(ii bY),(ii dI),(ii dJ),(dt dE)],48,none⟩] 0,1,[],true⟩,[],.leaf⟩
def Kl :List (Option zt):=[some [0,3]]
def LB :List (Option zt):=[]
def K9 :List (Option zt):=[some [0,4]]
def LA :List (Option zt):=[]
def j4b :List (Option zt):=[some [0,4,5,6]]
def j4c :List (Option zt):=[]
def Vh (l0:zr):Hp->Xk Hp
 | .h0 v3=>let a:=CB (rd l0 v3.toNat).s;(bif (decide (v3<(l0.length:Int))) then (bif ((decide (0<=v3/\v3<(l0.length:Int)))&&true) then (bif (w0r a) then (bif ((JM a) != 0) then (.ret [(.int .i64 (JM a))]) else (.to (.h0 (wrap .i64 (v3+1))))) else .stuck) else .stuck) else (.to (.h1 0)))
 | .h1 v4=>let b:=rd l0 v4.toNat;let c:=Ce (CB l0) v4;(bif (decide (v4<(l0.length:Int))) then (bif ((decide (0<=v4/\v4<(l0.length:Int)))&&true) then (bif (Uu b.n) then (bif (!(Co b.n)) then (.ret [(.int .i64 8)]) else (bif (decide (b.a <(-1))) then (.ret [(.int .i64 8)]) else (bif (decide (b.a >=v4)) then (.ret [(.int .i64 8)]) else (bif ((CT b.t b.x b.y b.z) != 0) then (.ret [(.int .i64 8)]) else (bif (Ja (CB l0) v4) then (bif (Kn c) then (bif ((EF c) != 0) then (.ret [(.int .i64 8)]) else (.to (.h2 v4 0 b.n b.a b.t b.x b.y b.z b.s))) else .stuck) else .stuck))))) else .stuck) else .stuck) else (.ret [(.int .i64 0)]))
 | .h2 v4 v6 aC bI bG bY dI dJ dE=>let b:=rd l0 v6.toNat;(bif (decide (v6<v4)) then (bif ((decide (0<=v6/\v6<(l0.length:Int)))&&true) then (bif (b.a == bI) then (bif (b.n == aC) then (.ret [(.int .i64 8)]) else (.to (.h2 v4 (wrap .i64 (v6+1)) aC bI bG bY dI dJ dE))) else (.to (.h2 v4 (wrap .i64 (v6+1)) aC bI bG bY dI dJ dE))) else .stuck) else (.to (.h1 (wrap .i64 (v4+1)))))
def XX (l0:zr):Xk Hp:=(bif (decide ((l0.length:Int)>200)) then (.ret [(.int .i64 4)]) else (.to (.h0 0)))
theorem w9c (l0:zr): ∀s,Xh prog (Zy prog 38) (Nf l0) (Nf l0 s) (Vh l0 s)
 | .h0 v3=>(lb (fun k0=>(lo fun aK=>(lo fun bH=>let b:=ww aK (tt k0 nn);let c:=rd l0 (tn v3);(lb (fun k1=>let a:=pp (xI R6 c.s.length (Zz c.s)) (xw bH);(lr 90 38 (pn 4683) 1 9 [(2,(ii (JM (CB c.s))))] (sl Wg 33 [] (b8 [2]) b7 (bl 2 3) (pp a (ww aK (tt k1 (pp a b))))))) (fun k1=>(sl Wg 31 [] ⟨[],[],Kl,LB⟩ b7 (bl 2 1) (tt k1 (pp (pp (xI R6 c.s.length (Zz c.s)) (xw bH)) b)))))))) (fun k0=>(sl Wg 17 [] ⟨[],[],K9,LA⟩ b7 [false] (tt k0 nn))))
 | .h1 v4=>(lb (fun k0=>(lo fun aK=>(lo fun bH=>let c:=ww bH (ww aK (tt k0 nn));(lb (fun k1=>(lr 90 38 (pn 38039) 1 9 [(2,(ii 8))] (sl Wg 58 [] (b8 [2]) b7 (CL 18 []) (tt k1 c)))) (fun k1=>let a:=tt k1 c;(lb (fun k2=>(lr 90 38 (pn 38039) 1 9 [(2,(ii 8))] (sl Wg 58 [] (b8 [2]) b7 (bl 18 262129) (tt k2 a)))) (fun k2=>(lb (fun k3=>(lr 90 38 (pn 38039) 1 9 [(2,(ii 8))] (sl Wg 58 [] (b8 [2]) b7 (bl 18 261889) (tt k3 (tt k2 a))))) (fun k3=>let d:=tt k3 (tt k2 a);(lb (fun k4=>(lr 90 38 (pn 38039) 1 9 [(2,(ii 8))] (sl Wg 58 [] (b8 [2]) b7 (bl 18 258049) (tt k4 d)))) (fun k4=>(lo fun dC=>(lo fun eH=>let b:=ww eH (pp (pp (xr l0) (xw dC)) (tt k4 d));(lb (fun k5=>(lr 90 38 (pn 38039) 1 9 [(2,(ii 8))] (sl Wg 58 [] (b8 [2]) b7 (bl 18 131073) (tt k5 b)))) (fun k5=>(sl Wg 61 [] ⟨[0],[],j4b,j4c⟩ b7 (bl 18 1) (tt k5 b))))))))))))))))) (fun k0=>(lr 90 3 (pn 191) 1 9 [(2,(ii 0))] (sl Wg 14 [] (b8 [2]) b7 [false] (tt k0 nn)))))
 | .h2 v4 v6 aC bI bG bY dI dJ dE=>(lb (fun k0=>(lo fun aK=>let a:=ww aK (tt k0 nn);(lb (fun k1=>let b:=ww aK (tt k1 a);(lb (fun k2=>(lr 90 38 (pn 2399383) 1 9 [(2,(ii 8))] (sl Wg 18 [] (b8 [2]) b7 (CL 10 []) (tt k2 b)))) (fun k2=>(sl Wg 22 [] ⟨[0],[],j4b,j4c⟩ b7 (CL 9 [false]) (tt k2 b))))) (fun k1=>(sl Wg 22 [] ⟨[0],[],j4b,j4c⟩ b7 (bl 10 1) (tt k1 a)))))) (fun k0=>(sl Wg 16 [] ⟨[],[],K9,LA⟩ b7 [false] (tt k0 nn))))
theorem x9v (l0:zr):Xh prog (Zy prog 38) (Nf l0) (Zb prog 38 [(dt l0)] true []) (XX l0):=(lb (fun k0=>(lr 90 38 (pn 37) 1 9 [(2,(ii 4))] (sl Wg 16 [] (b8 [2]) b7 [true] (tt k0 nn)))) (fun k0=>(sl Wg 20 [] ⟨[],[],Kl,LB⟩ b7 [false] (tt k0 nn))))
theorem u2b (l0:zr) (n:Nat) (vs:zy) (h:Yj (Vh l0) n (XX l0)=.ret vs):Ji prog (Zy prog 38) (Zb prog 38 [(dt l0)] true []) vs:=by have:=Zf (w9c l0) n _ (x9v l0);rwa [h] at this
open Go.Shelf Go.RowKit
def pt (L:zp) (y:Int):Prop:= ∃s∈L,s.a<=y/\y<s.b
structure DD (L:zp):Prop where
 pos: ∀s∈L,s.a<s.b
 sep:L.Pairwise fun s t=>s.b<t.a
theorem DD.nil :DD []:=⟨by simp,.nil⟩
theorem DD.tail {s:R2} {L:zp} (h:DD (s::L)):DD L:=⟨fun t ht=>h.pos t (Bb _ ht),(A5.1 h.sep).2⟩
theorem DD.head {s:R2} {L:zp} (h:DD (s::L)): ∀t∈L,s.b<t.a:=(A5.1 h.sep).1
theorem j1k {s:R2} {L:zp} (h:DD (s::L)) {y:Int} (hy:pt (s::L) y):s.a<=y:=by
 obtain ⟨t,ht,h1,h2⟩:=hy;rcases AN.1 ht with rfl | ht
 .exact h1
 .have:=h.head t ht;have:=h.pos s (by simp);omega
theorem v9j : ∀(L M:zp),DD L->DD M->(∀y,pt L y↔pt M y)->L=M
 | [],[],_,_,_=>rfl
 | [],t::M,_,hM,h=>by have:=(h t.a).2 ⟨t,by simp,A3 _,hM.pos t (by simp)⟩;obtain ⟨s,hs,_⟩:=this;cases hs
 | s::L,[],hL,_,h=>by have:=(h s.a).1 ⟨s,by simp,A3 _,hL.pos s (by simp)⟩;obtain ⟨s,hs,_⟩:=this;cases hs
 | s::L,t::M,hL,hM,h=>by
  have p1:=hL.pos s (by simp);have p2:=hM.pos t (by simp);have a1:t.a<=s.a:=j1k hM ((h s.a).1 ⟨s,by simp,A3 _,p1⟩);have a2:s.a<=t.a:=j1k hL ((h t.a).2 ⟨t,by simp,A3 _,p2⟩);have b1: ¬s.b<t.b:=fun hb=>by
   obtain ⟨u,hu,h1,h2⟩:=(h s.b).2 ⟨t,by simp,by omega,hb⟩;rcases AN.1 hu with rfl | hu
   .omega
   .have:=hL.head u hu;omega
  have b2: ¬t.b<s.b:=fun hb=>by
   obtain ⟨u,hu,h1,h2⟩:=(h t.b).1 ⟨s,by simp,by omega,hb⟩;rcases AN.1 hu with rfl | hu
   .omega
   .have:=hM.head u hu;omega
  have e:s=t:=by
   obtain ⟨sa,sb⟩:=s;obtain ⟨ta,tb⟩:=t;simp only at a1 a2 b1 b2;have:sa=ta:=by omega
   have:sb=tb:=by omega
   subst_vars;rfl
  subst e
  congr 1
  refine v9j L M hL.tail hM.tail fun y=>⟨fun hy=> ?_,fun hy=> ?_⟩
  .obtain ⟨u,hu,h1,h2⟩:=hy;have g:=hL.head u hu;obtain ⟨v,hv,h3,h4⟩:=(h y).1 ⟨u,by simp [hu],h1,h2⟩;rcases AN.1 hv with rfl | hv
   .omega
   .exact ⟨v,hv,h3,h4⟩
  .obtain ⟨u,hu,h1,h2⟩:=hy;have g:=hM.head u hu;obtain ⟨v,hv,h3,h4⟩:=(h y).2 ⟨u,by simp [hu],h1,h2⟩;rcases AN.1 hv with rfl | hv
   .omega
   .exact ⟨v,hv,h3,h4⟩
def push (out:zp) (x x':Int):zp:=
 bif decide (0<out.length)&&((rd out (out.length - 1)).b == x) then out.set (out.length - 1) ⟨(rd out (out.length - 1)).a,x'⟩ else out++[⟨x,x'⟩]
theorem v5y (out:zp) (s:R2) (x x':Int):push (out++[s]) x x'=bif s.b == x then out++[⟨s.a,x'⟩] else out++[s]++[⟨x,x'⟩]:=by
 grind [rd,push]
theorem w5s {out:zp} {x x':Int} (hc:DD out) (hb: ∀s∈out,s.b<=x) (hx:x<x'):
  DD (push out x x')/\(∀s∈push out x x',s.b<=x')/\ ∀y,pt (push out x x') y↔pt out y\/(x<=y/\y<x'):=by
 rcases List.eq_nil_or_concat out with rfl | ⟨L,s,rfl⟩
 .refine ⟨⟨?_,?_⟩,?_,fun y=> ?_⟩;all_goals simp_all [push,pt]
 .rw [List.concat_eq_append] at*;rw [v5y];have hs:=hb s (by simp);have hp:=hc.pos s (by simp);have sep:=BV.1 hc.sep;rcases Xw (s.b == x) with q | q
  .rw [q,Ab];have q:s.b=x:=by simpa using q
   refine ⟨⟨?_,?_⟩,?_,fun y=> ?_⟩
   .intro t ht;rcases AJ.1 ht with ht | ht
    .exact hc.pos t (by simp [ht])
    grind
   .grind
   .grind
   .constructor
    .rintro ⟨t,ht,h1,h2⟩;rcases AJ.1 ht with ht | ht
     .exact .inl ⟨t,by simp [ht],h1,h2⟩
     .rw [BG.1 ht] at h1 h2;by_cases hy:y<s.b
      .exact .inl ⟨s,by simp,h1,hy⟩
      grind
    .rintro (⟨t,ht,h1,h2⟩ | ⟨h1,h2⟩)
     .rcases AJ.1 ht with ht | ht
      .exact ⟨t,by simp [ht],h1,h2⟩
      .rw [BG.1 ht] at h1 h2;exact ⟨⟨s.a,x'⟩,by simp,h1,by grind⟩
     .exact ⟨⟨s.a,x'⟩,by simp,by grind,h2⟩
  .rw [q,Aa];have q:s.b≠x:=by simpa using q
   refine ⟨⟨?_,?_⟩,?_,fun y=> ?_⟩
   .intro t ht;rcases AJ.1 ht with ht | ht
    .exact hc.pos t ht
    grind
   .grind
   .grind
   .constructor
    .rintro ⟨t,ht,h1,h2⟩;rcases AJ.1 ht with ht | ht
     .exact .inl ⟨t,ht,h1,h2⟩
     grind
    .rintro (⟨t,ht,h1,h2⟩ | ⟨h1,h2⟩)
     .exact ⟨t,AJ.2 (.inl ht),h1,h2⟩
     .exact ⟨⟨x,x'⟩,by simp,h1,h2⟩
theorem H1 {l:zq} (h:l.Pairwise (· < ·)) {i j:Nat} (hij:i<j) (hj:j<l.length):rd l i<rd l j:=by rw [Xm (by omega),Xm hj];exact Br.1 h i j (by omega) hj hij
theorem x4i (cuts:zq) (ins:List Bool) (hc:cuts.Pairwise (· < ·)): ∀(k i:Nat) (out:zp),i+k<cuts.length\/k=0->DD out->(∀s∈out,s.b<=rd cuts i)->
  DD (Fs cuts ins k i out)/\ ∀y,pt (Fs cuts ins k i out) y↔pt out y\/ ∃j,i<=j/\j<i+k/\rd ins j=true/\rd cuts j<=y/\y<rd cuts (j+1)
 | 0,i,out,h,ho,hb=>⟨ho,fun y=>⟨.inl,fun hy=>hy.elim id fun ⟨j,h1,h2,_⟩=>by omega⟩⟩
 | k +1,i,out,h,ho,hb=>by
  have hlt:rd cuts i<rd cuts (i+1):=H1 hc (Bg _) (by omega);obtain ⟨p1,p2,p3⟩:=w5s ho hb hlt;have e:Fs cuts ins (k+1) i out=Fs cuts ins k (i+1) (bif rd ins i then push out (rd cuts i) (rd cuts (i+1)) else out):=rfl;rw [e];rcases Xw (rd ins i) with q | q
  .rw [q,Ab];obtain ⟨r1,r2⟩:=x4i cuts ins hc k (i+1) (push out (rd cuts i) (rd cuts (i+1))) (by omega) p1 p2;refine ⟨r1,fun y=> ?_⟩;rw [r2,p3];constructor
   .rintro ((h | h) | ⟨j,h1,h2,h3⟩)
    .exact .inl h
    .exact .inr ⟨i,Aq _,by omega,q,h⟩
    .exact .inr ⟨j,by omega,by omega,h3⟩
   .rintro (h | ⟨j,h1,h2,h3⟩)
    .exact .inl (.inl h)
    .rcases Bm h1 with rfl | h1
     .exact .inl (.inr h3.2)
     .exact .inr ⟨j,h1,by omega,h3⟩
  .rw [q,Aa];obtain ⟨r1,r2⟩:=x4i cuts ins hc k (i+1) out (by omega) ho (fun s hs=>by have:=hb s hs;omega);refine ⟨r1,fun y=> ?_⟩;rw [r2];constructor
   .rintro (h | ⟨j,h1,h2,h3⟩)
    .exact .inl h
    .exact .inr ⟨j,by omega,by omega,h3⟩
   .rintro (h | ⟨j,h1,h2,h3⟩)
    .exact .inl h
    .rcases Bm h1 with rfl | h1
     .rw [q] at h3;cases h3.1
     .exact .inr ⟨j,h1,by omega,h3⟩
theorem w3u {cuts:zq}: ∀(k:Nat),k<cuts.length-> ∀y,rd cuts 0<=y->y<rd cuts k-> ∃j,j<k/\rd cuts j<=y/\y<rd cuts (j+1)
 | 0,_,y,h1,h2=>by omega
 | k+1,hk,y,h1,h2=>by
  by_cases h:rd cuts k<=y
  .exact ⟨k,Bg _,h,h2⟩
  .obtain ⟨j,h3,h4⟩:=w3u k (by omega) y h1 (by omega);exact ⟨j,by omega,h4⟩
theorem u6e (cuts:zq) (hc:cuts.Pairwise (· < ·)) (P:Int->Bool) (S:zp) (hS: ∀s∈S,s.a∈cuts/\s.b∈cuts) (hP: ∀y,P y=true↔pt S y):
  DD (DT cuts (cuts.map P))/\ ∀y,pt (DT cuts (cuts.map P)) y↔pt S y:=by
 obtain ⟨r1,r2⟩:=x4i cuts (cuts.map P) hc (cuts.length - 1) 0 [] (by omega) .nil (by simp);refine ⟨r1,fun y=> ?_⟩;unfold DT;rw [r2];have hin: ∀x,x∈cuts-> ∃i,i<cuts.length/\rd cuts i=x:=fun x hx=>by obtain ⟨i,hi,h⟩:=AQ hx;exact ⟨i,hi,by rw [Xm hi];exact h⟩
 have hmap: ∀j,j<cuts.length->rd (cuts.map P) j=P (rd cuts j):=fun j hj=>by
  grind [Xm]
 have le_of: ∀i j,i<cuts.length->j<cuts.length->i<=j->rd cuts i<=rd cuts j:=fun i j hi hj hij=>by
  rcases Bm hij with rfl | h
  .grind
  .exact Int.le_of_lt (H1 hc h hj)
 constructor
 .rintro (⟨s,hs,_⟩ | ⟨j,h1,h2,h3,h4,h5⟩)
  .cases hs
  .have hj:j+1<cuts.length:=by omega
   rw [hmap j (by omega)] at h3;obtain ⟨s,hs,a1,a2⟩:=(hP _).1 h3;obtain ⟨ca,cb⟩:=hS s hs;obtain ⟨m,hm,em⟩:=hin s.b cb;refine ⟨s,hs,by omega,?_⟩
   grind
 .rintro ⟨s,hs,a1,a2⟩;right;obtain ⟨ca,cb⟩:=hS s hs;obtain ⟨n,hn,en⟩:=hin s.a ca;obtain ⟨m,hm,em⟩:=hin s.b cb;have h0:=le_of 0 n (by omega) hn (AA _);obtain ⟨j,h1,h2,h3⟩:=w3u m hm y (by omega) (by omega);refine ⟨j,AA _,by omega,?_,h2,h3⟩;rw [hmap j (by omega),hP];refine ⟨s,hs,?_,?_⟩;all_goals grind
def FF (E:zo) (y:Int):Int:=(E.map fun e=>if e.a<=y then e.c else 0).sum
theorem JD (e:R3) (E:zo) (y:Int):FF (e::E) y=(if e.a<=y then e.c else 0)+FF E y:=by simp [FF]
theorem u3w {E F:zo} (h:E.Perm F) (y:Int):FF E y=FF F y:=by
 induction h with
 | nil=>rfl
 | cons e _ ih=>rw [JD,JD,ih]
 | swap a b l=>simp only [JD];omega
 | trans _ _ i1 i2=>rw [i1,i2]
theorem w6a (E:zo) (y:Int) (h: ∀e∈E,y<e.a):FF E y=0:=by
 induction E with
 | nil=>rfl
 | cons e E ih=>
  grind [JD]
theorem v9g (out:zp) (last:Int) (inn:Bool) (x:Int):Us out last inn x=bif inn&& !(last == x) then push out last x else out:=by
 grind [Us,push]
theorem x1v {out:zp} {last x:Int} (inn:Bool) (hc:DD out) (hb: ∀s∈out,s.b<=last) (hx:last<=x):
  DD (Us out last inn x)/\(∀s∈Us out last inn x,s.b<=x)/\ ∀y,pt (Us out last inn x) y↔pt out y\/(inn=true/\last<=y/\y<x):=by
 rw [v9g];rcases Xw (inn&& !(last == x)) with q | q;all_goals grind [w5s]
def Asc (E:zo):Prop:=E.Pairwise fun e f=>e.a<=f.a
theorem v3g : ∀(E:zo) (o last:Int) (out:zp),Asc E->(∀e∈E,last<=e.a)->DD out->(∀s∈out,s.b<=last)->
  DD (Gz E o last (decide (o>0)) out)/\ ∀y,pt (Gz E o last (decide (o>0)) out) y↔pt out y\/(last<=y/\0<o+FF E y/\ ∃e∈E,y<e.a)
 | [],o,last,out,_,_,hc,_=>⟨hc,fun y=>⟨.inl,fun h=>h.elim id fun ⟨_,_,e,he,_⟩=>by cases he⟩⟩
 | e ::r,o,last,out,hE,hl,hc,hb=>by
  have he:=hl e (by simp);have hr:=A5.1 hE;obtain ⟨p1,p2,p3⟩:=x1v (decide (o>0)) hc hb he;obtain ⟨q1,q2⟩:=v3g r (o+e.c) e.a (Us out last (decide (o>0)) e.a) hr.2 hr.1 p1 p2;rw [Xl];refine ⟨q1,fun y=> ?_⟩;rw [q2,p3,JD];constructor
  .rintro ((h | ⟨h1,h2,h3⟩) | ⟨h1,h2,f,hf,h3⟩)
   .exact .inl h
   .right;have h1:=Ay h1;refine ⟨h2,?_,e,by simp,h3⟩;rw [Az (by omega),w6a r y fun f hf=>by have:=hr.1 f hf;omega];omega
   .right;refine ⟨by omega,?_,f,by simp [hf],h3⟩;rw [AF h1];omega
  .rintro (h | ⟨h1,h2,f,hf,h3⟩)
   .exact .inl (.inl h)
   .by_cases hy:e.a<=y
    .right;rw [AF hy] at h2;refine ⟨hy,by omega,f,?_,h3⟩;rcases AN.1 hf with rfl | hf
     .omega
     .exact hf
    .left;right;rw [Az hy,w6a r y fun f hf=>by have:=hr.1 f hf;omega] at h2;exact ⟨Af (by omega),h1,by omega⟩
theorem u3x (l:zp) (hv: ∀s∈l,s.a<s.b) (y:Int):0<=FF (DO l) y/\(0<FF (DO l) y↔pt l y):=by
 induction l with
 | nil=>grind [FF,DO,pt]
 | cons s l ih=>
  obtain ⟨i1,i2⟩:=ih fun t ht=>hv t (by simp [ht]);have hs:=hv s (by simp);have e:FF (DO (s::l)) y=(if s.a<=y/\y<s.b then 1 else 0)+FF (DO l) y:=by
   grind [DO,JD]
  rw [e];by_cases h:s.a<=y/\y<s.b
  .rw [AF h];exact ⟨by omega,⟨fun _=>⟨s,by simp,h⟩,fun _=>by omega⟩⟩
  .rw [Az h];refine ⟨by omega,?_⟩;rw [Int.zero_add,i2];constructor
   .rintro ⟨t,ht,h2⟩;exact ⟨t,by simp [ht],h2⟩
   .rintro ⟨t,ht,h2⟩;rcases AN.1 ht with rfl | ht
    .grind
    .exact ⟨t,ht,h2⟩
theorem y8a {l:zp} {s:R2} (h:s∈l):(⟨s.b,0,-1⟩:R3)∈DO l/\(⟨s.a,0,1⟩:R3)∈DO l:=
 ⟨AM.2 ⟨s,h,by simp⟩,AM.2 ⟨s,h,by simp⟩⟩
theorem w4y (l:zo) (h:DS l=true):Asc (Ck l):=by
 refine Br.2 fun i j hi hj hij=> ?_
 grind [Qo,Xm]
theorem x8t (l:zp) (hv:l.all Ca=true):DD (FT l)/\ ∀y,pt (FT l) y↔pt l y:=by
 have hb:DS (DO l)=true:=As.2 fun e he=>by obtain ⟨s,hs,h1⟩:=AM.1 he;have hv:=As.1 hv s hs;simp only [Ca,Ac,Ao] at hv;simp only [AN,List.not_mem_nil,or_false] at h1;rcases h1 with rfl | rfl <;> exact Af (by grind)
 have hpos: ∀s∈l,s.a<s.b:=fun s hs=>by
  grind [Ca]
 obtain ⟨hp,_⟩:=Qo (DO l) hb;have ha:=w4y (DO l) hb;have hn: ∀y,FF (Ck (DO l)) y=FF (DO l) y:=fun y=>u3w hp y;unfold FT;generalize Ck (DO l)=E at hp ha hn;cases E with
 | nil=>refine ⟨.nil,fun y=>⟨fun ⟨s,hs,_⟩=>(by cases hs),fun ⟨s,hs,_⟩=> ?_⟩⟩;have:=hp.mem_iff.2 (y8a hs).1;cases this
 | cons e r=>
  have hr:=A5.1 ha;rw [Xl,Int.zero_add];have e0:Us [] 0 false e.a=[]:=rfl;rw [e0];obtain ⟨q1,q2⟩:=v3g r e.c e.a [] hr.2 hr.1 .nil (by simp);refine ⟨q1,fun y=> ?_⟩;rw [q2];obtain ⟨n1,n2⟩:=u3x l hpos y;rw [<-n2,<-hn,JD];constructor
  .rintro (⟨s,hs,_⟩ | ⟨h1,h2,_⟩);all_goals grind
  .intro h;have hpt:=n2.1 (by rw [<-hn,JD];exact h);obtain ⟨s,hs,s1,s2⟩:=hpt;have m1:=hp.mem_iff.2 (y8a hs).1
   grind [y8a]
theorem x6g (out:zq) (hs:out.Pairwise (· < ·)) (x:Int): ∀k,k<=out.length->Ef out x k<=k/\(∀i,Ef out x k<=i->i<k->x<rd out i)/\(0<Ef out x k->rd out (Ef out x k - 1)<=x)
 | 0,_=>⟨Aq _,fun i h1 h2=>by omega,fun h=>by simp [Ef] at h⟩
 | k+1,hk=>by
  unfold Ef;rcases Xw (decide (rd out k>x)) with q | q
  .rw [q,Ab];obtain ⟨h1,h2,h3⟩:=x6g out hs x k (by omega);refine ⟨by omega,fun i a b=> ?_,h3⟩;rcases Bm (Nat.le_of_lt_succ b) with rfl | b
   .exact Ay q
   .exact h2 i a b
  .rw [q,Aa];exact ⟨Aq _,fun i a b=>by omega,fun _=>by have:=BF q;simp only [Nat.add_sub_cancel];omega⟩
theorem v7n (out:zq) (hs:out.Pairwise (· < ·)) (x:Int):(Do out x).Pairwise (· < ·)/\ ∀y,y∈Do out x↔y∈out\/y=x:=by
 obtain ⟨h1,h2,h3⟩:=x6g out hs x out.length (Aq _);unfold Do;split
 .rename_i h0;rw [h0] at h2;refine ⟨A5.2 ⟨fun y hy=> ?_,hs⟩,fun y=>by grind⟩;obtain ⟨i,hi,rfl⟩:=AQ hy
  grind [Xm]
 .rename_i k hk;rw [hk] at h1 h2 h3;have h3:rd out k<=x:=h3 (Nat.succ_pos _);have hkl:k<out.length:=by omega
  rcases Xw (rd out k == x) with q | q
  .grind [Xm]
  .rw [q,Aa];have q:rd out k≠x:=by simpa using q
   refine ⟨?_,fun y=> ?_⟩
   .have st:(out.take (k+1)).Pairwise (· < ·):=hs.sublist (List.take_sublist _ _);have sd:(out.drop (k+1)).Pairwise (· < ·):=hs.sublist (List.drop_sublist _ _);have ht: ∀y∈out.take (k+1),y<x:=fun y hy=>by
     obtain ⟨i,hi,rfl⟩:=AQ hy;have hi':i<k+1:=(by grind);rw [BM];have:rd out i<=rd out k:=by
      rcases Bm (Nat.le_of_lt_succ hi') with rfl | h
      .grind
      .exact Int.le_of_lt (H1 hs h hkl)
     grind [Xm]
    have hd: ∀y∈out.drop (k+1),x<y:=fun y hy=>by obtain ⟨i,hi,rfl⟩:=AQ hy;simp_all [Xm]
    refine BV.2 ⟨st,A5.2 ⟨hd,sd⟩,fun a ha b hb=> ?_⟩
    grind
   .rw [AJ,AN];constructor
    .grind
    .rintro (h | h)
     .rw [<-List.take_append_drop (k+1) out,AJ] at h
      grind
     grind
theorem Vi (l:zq):(Cj l).Pairwise (· < ·)/\ ∀y,y∈Cj l↔y∈l:=by
 have: ∀(l out:zq),out.Pairwise (· < ·)->(l.foldl Do out).Pairwise (· < ·)/\ ∀y,y∈l.foldl Do out↔y∈out\/y∈l:=by
  intro l
  induction l with
  | nil=>grind
  | cons x l ih=>
   grind [v7n]
 simp_all [Cj]
theorem y3m : ∀(l m:zq),l.Pairwise (· < ·)->m.Pairwise (· < ·)->(∀x,x∈l↔x∈m)->l=m
 | [],[],_,_,_=>rfl
 | [],b::m,_,_,h=>by have:=(h b).2 (by simp);cases this
 | a::l,[],_,_,h=>by have:=(h a).1 (by simp);cases this
 | a::l,b::m,hl,hm,h=>by
  obtain ⟨a1,a2⟩:=A5.1 hl;obtain ⟨b1,b2⟩:=A5.1 hm;have e:a=b:=by
   have x1:=(h a).1 (by simp);have x2:=(h b).2 (by simp);rcases AN.1 x1 with x1 | x1
   .exact x1
   rcases AN.1 x2 with x2 | x2
   .exact x2.symm
   have:=b1 a x1;have:=a1 b x2;omega
  subst e
  congr 1
  refine y3m l m a2 b2 fun x=>⟨fun hx=> ?_,fun hx=> ?_⟩
  .rcases AN.1 ((h x).1 (by simp [hx])) with e | e
   .have:=a1 x hx;omega
   .exact e
  .rcases AN.1 ((h x).2 (by simp [hx])) with e | e
   .have:=b1 x hx;omega
   .exact e
theorem y3o (zs:zq) (hs:zs.Pairwise (· <= ·)): ∀m,m<=zs.length->(compactUpTo zs.toArray m).Pairwise (· < ·)/\ ∀x,x∈compactUpTo zs.toArray m↔x∈zs.take m
 | 0,_=>by simp [compactUpTo]
 | m +1,h=>by
  obtain ⟨h1,h2⟩:=y3o zs hs m (by omega);have hg: ∀j (hj:j<zs.length),zs.toArray[j]! =zs[j]:=fun j hj=>by simp [hj]
  have hle: ∀i j (hi:i<zs.length) (hj:j<zs.length),i<j->zs[i]<=zs[j]:=fun i j hi hj hij=>Br.1 hs i j hi hj hij;have hm:m<zs.length:=by omega
  rw [compactUpTo_succ,hg m hm,List.take_succ_eq_append_getElem hm];by_cases hk:keeps zs.toArray m=true
  .rw [AF hk];refine ⟨BV.2 ⟨h1,List.pairwise_singleton _ _,fun x hx y hy=> ?_⟩,fun x=>by rw [AJ,AJ,h2 x]⟩;rw [BG.1 hy];obtain ⟨i,hi,rfl⟩:=AQ ((h2 x).1 hx);have hi':i<m:=by simp at hi;omega
   rw [BM];simp only [keeps,Ao] at hk;rcases hk with hk | hk
   .omega
   .rw [hg m hm,hg (m - 1) (by omega)] at hk;have k1:zs[i]<=zs[m - 1]:=by
     rcases A8 i (m - 1) with q | q
     .exact hle i (m - 1) _ _ q
     .have e:i=m - 1:=(by omega);subst e;exact A3 _
    have k2:=hle (m - 1) m (by omega) hm (by omega);omega
  .rw [Az hk,AG];refine ⟨h1,fun x=> ?_⟩;rw [h2 x,AJ,BG];refine ⟨.inl,fun hx=>hx.elim id fun e=> ?_⟩;simp only [keeps,Ao,not_or,Decidable.not_not] at hk;rw [hg m hm,hg (m - 1) (by omega)] at hk;rw [e,hk.2];have:m - 1<(zs.take m).length :=by simp;omega
   have e2:(zs.take m)[m - 1]=zs[m - 1]:=BM;rw [<-e2];exact AU this
theorem NY (zs:zq):(Wj zs).Pairwise (· <= ·):=by have:=List.pairwise_mergeSort (le:=fun x y:Int=>decide (x<=y)) (fun a b c h1 h2=>by grind) (fun a b=>by simp;omega) zs;exact this.imp fun h=>by simpa using h
theorem j2m (zs:zq) (x:Int):x∈Wj zs↔x∈zs:=List.mem_mergeSort
theorem Fi (zs:zq):Kr zs=Cj zs:=by obtain ⟨h1,h2⟩:=y3o (Wj zs) (NY zs) (Wj zs).length (Aq _);obtain ⟨s1,s2⟩:=Vi zs;refine y3m _ _ h1 s1 fun x=> ?_;rw [show Kr zs=compactUpTo (Wj zs).toArray (Wj zs).length from rfl,h2 x,List.take_length,j2m,s2]
namespace CM
variable {α β:Type} (D:CM α β)
def ref (sec:Int->List β) (cs:zq):Nat->Nat->List α->List β->Nat->List α
 | 0,_,out,_,_=>out
 | k+1,i,out,last,first=>
  bif decide (0<i)&&D.same (sec (rd cs i)) last then ref sec cs k (i+1) (D.grow out first (rd cs (i+1))) last first
  else ref sec cs k (i+1) (out++(sec (rd cs i)).map (D.put (rd cs i) (rd cs (i+1)))) (sec (rd cs i)) out.length
theorem ref_eq (hs: ∀a b,D.same a b=true↔a=b) (l:List α): ∀(k i:Nat) (s:Sw α β) (out:List α) (last:List β) (first:Nat),
  s.out=out->s.last=last->(last≠ []->s.first=first)->(last=[]->out.length<=first)->(0<i->s.fin=rd (D.cuts l) i)->(i=0->last=[])->
  (D.go l k i s).out =D.ref (D.sec l) (D.cuts l) k i out last first
 | 0,i,s,out,last,first,h1,h2,h3,h4,h5,h6=>h1
 | k +1,i,s,out,last,first,h1,h2,h3,h4,h5,h6=>by
  subst h1 h2;have e1:D.go l (k+1) i s=D.go l k (i+1) (D.one l (rd (D.cuts l) i) (rd (D.cuts l) (i+1)) s):=rfl;rw [e1];unfold ref;rcases Xw (decide (0<(D.sec l (rd (D.cuts l) i)).length)&&((s.fin == rd (D.cuts l) i)&&D.same s.last (D.sec l (rd (D.cuts l) i)))) with q | q
  .have e:D.one l (rd (D.cuts l) i) (rd (D.cuts l) (i+1)) s=⟨D.grow s.out s.first (rd (D.cuts l) (i+1)),s.last,s.first,rd (D.cuts l) (i+1)⟩:=by unfold one;rw [q];rfl
   simp only [Ac,Ao] at q;obtain ⟨q1,q2,q3⟩:=q;have q3:=(hs _ _).1 q3;have hne:s.last≠ []:=fun h=>by rw [h] at q3;rw [<-q3] at q1;exact B1 _ q1
   have hi:0<i:=Nat.pos_of_ne_zero fun h=>hne (h6 h);have e2:(decide (0<i)&&D.same (D.sec l (rd (D.cuts l) i)) s.last)=true:=by rw [Af hi,Al,hs,q3]
   rw [e2,Ab,e];refine ref_eq hs l k (i+1) _ _ _ _ ?_ rfl h3 (fun h=>absurd h hne) (fun _=>rfl) (fun h=>by omega);rw [h3 hne]
  .have e:D.one l (rd (D.cuts l) i) (rd (D.cuts l) (i+1)) s=⟨s.out++(D.sec l (rd (D.cuts l) i)).map (D.put (rd (D.cuts l) i) (rd (D.cuts l) (i+1))),D.sec l (rd (D.cuts l) i),s.out.length,rd (D.cuts l) (i+1)⟩:=by unfold one;rw [q];rfl
   rcases Xw (decide (0<i)&&D.same (D.sec l (rd (D.cuts l) i)) s.last) with q2 | q2
   .rw [q2,Ab,e];simp only [Ac,Ao] at q2;obtain ⟨hi,q3⟩:=q2;have q3:=(hs _ _).1 q3;rw [(hs s.last (D.sec l (rd (D.cuts l) i))).2 q3.symm,Aj,h5 hi] at q;have hz:D.sec l (rd (D.cuts l) i)=[]:=by
     cases h:D.sec l (rd (D.cuts l) i) with
     | nil=>rfl
     | cons a b=>rw [h] at q;simp at q
    have hl:s.last=[]:=(by rw [<-q3,hz]);have hf:=h4 hl;rw [hz,BL,AG];refine ref_eq hs l k (i+1) _ _ _ _ ?_ hl.symm (fun h=>absurd hl h) (fun _=> ?_) (fun _=>rfl) (fun h=>by omega)
    .exact (D.grow_nil _ _ _ hf).symm
    .rw [D.grow_length];exact hf
   .rw [q2,Aa,e];exact ref_eq hs l k (i+1) _ _ _ _ rfl rfl (fun _=>rfl) (fun h=>by rw [h];simp) (fun _=>rfl) (fun h=>by omega)
theorem out_eq (hs: ∀a b,D.same a b=true↔a=b) (l:List α):D.out l=D.ref (D.sec l) (D.cuts l) ((D.cuts l).length - 1) 0 [] [] 0:=
 D.ref_eq hs l _ 0 _ [] [] 0 rfl rfl (fun _=>rfl) (fun _=>Aq _) (fun h=>absurd h (B1 _)) (fun _=>rfl)
end CM
theorem j9z (l:zu):D4.cuts l=CP l []:=by unfold CM.cuts CP;rw [Fi,show EC ([]:zu)=[] from rfl,AG];rfl
theorem j9k (l:zu) (x y:Int):H9 2 l [] x y=Ep l x y:=by
 grind [H9,Mr,Ep]
theorem YR {l:zu} {x:Int} {s:R2} (h:s∈D4.inn l x): ∃r∈l,r.a<=x/\x<r.c/\s=⟨r.b,r.d⟩:=by obtain ⟨r,hr,e⟩:=A2.1 h;obtain ⟨h1,h2⟩:=Bq.1 hr;simp only [Ac,Ao] at h2;exact ⟨r,h1,h2.1,h2.2,e.symm⟩
theorem j5u {l:zu} {x:Int} {r:R4} (h:r∈l) (h1:r.a<=x) (h2:x<r.c):(⟨r.b,r.d⟩:R2)∈D4.inn l x:=by refine A2.2 ⟨r,Bq.2 ⟨h,?_⟩,rfl⟩;simp only [Ac,Ao];exact ⟨h1,h2⟩
theorem N5 (l:zu) (hv:l.all CW=true) (hl:l.length<=400) (x:Int):D4.sec l x=Ey 2 l [] x:=by
 have hin:=D4.inn_length l x;have hvi:(D4.inn l x).all Ca=true:=As.2 fun s hs=>by
  grind [YR,CW,Ca]
 have e1:D4.sec l x=FT (D4.inn l x):=by
  show Wk (D4.inn l x)=_
  grind [Wk]
 obtain ⟨c1,c2⟩:=x8t _ hvi;obtain ⟨y1,y2⟩:=Vi (Du l++Du []);have e2:Ey 2 l [] x=DT (C7 l []) ((C7 l []).map fun y=>Ep l x y):=by
  unfold Ey
  congr 1
  simp_all [j9k]
 obtain ⟨d1,d2⟩:=u6e (C7 l []) y1 (fun y=>Ep l x y) (D4.inn l x) (fun s hs=>by
  obtain ⟨r,hr,_,_,rfl⟩:=YR hs;unfold C7;exact ⟨(y2 _).2 (AJ.2 (.inl (AM.2 ⟨r,hr,by simp⟩))),(y2 _).2 (AJ.2 (.inl (AM.2 ⟨r,hr,by simp⟩)))⟩) (fun y=>by
  unfold Ep;rw [BQ];constructor
  .rintro ⟨r,hr,h⟩;simp only [U6,Ac,Ao] at h;exact ⟨_,j5u hr h.1 h.2.1,h.2.2.1,h.2.2.2⟩
  .rintro ⟨s,hs,h1,h2⟩
   grind [YR,U6])
 grind [v9j]
theorem v7i (l:zu): ∀(k i:Nat) (out:zu) (last:zp) (first:Nat),jF 2 l [] k i out last first=D4.ref (Ey 2 l []) (CP l []) k i out last first
 | 0,_,_,_,_=>rfl
 | k+1,i,out,last,first=>by unfold jF CM.ref;rw [v7i l k,v7i l k];rfl
theorem O5 (l:zu) (hv:l.all CW=true) (hl:l.length<=400):D4.out l=DF 2 l []:=by
 rw [D4.out_eq (fun a b=>BS) l,DF,v7i,<-j9z]
 congr 1
 funext x
 exact N5 l hv hl x
theorem v9y (l:zx):D6.cuts l=Vt l []:=by unfold CM.cuts Vt;rw [Fi,show ED ([]:zx)=[] from rfl,AG];rfl
theorem j1t (l:zx) (z:Int):D6.inn l z=CV l z:=rfl
theorem TV (r:R6):CX r=E7 r:=by
 unfold CX E7;simp only [HI,HG];rw [AV];simp only [Ac,Ao];have m1: ∀x y z:Int,x<=min y z↔x<=y/\x<=z:=fun x y z=>by omega
 have m2: ∀x y z:Int,max y z<=x↔y<=x/\z<=x:=fun x y z=>by omega
 simp only [ge_iff_le,m1,m2]
 grind
theorem v9m (l:zx) (hv:l.all CX=true) (z:Int):(CV l z).all CW=true:=As.2 fun s hs=>by
 obtain ⟨r,hr,rfl⟩:=A2.1 hs;have:=As.1 hv r (Bq.1 hr).1;rw [TV] at this;simp only [E7,Ac,Ao] at this;show CW ⟨r.a,r.b,r.d,r.e⟩=true
 grind [CW]
section
variable (l:zx) (hv:l.all CX=true) (hl:l.length<=400)
include hv hl
theorem j1p (z:Int):D4.out (CV l z)=DF 2 (CV l z) []:=O5 _ (v9m l hv z) (AI (WP l z) hl)
theorem j1o (z:Int):Ew l z=Fo 2 l [] z:=by
 have h1:=j1p l hv hl z;have h2:=WP l z;have e:DF 2 (CV [] z) []=[]:=rfl
 grind [Ew,Fo,EQ,CV,j1t,Xx,v9m]
theorem j3j (z:Int) (h:Ew l z=false):D6.sec l z=EQ 2 l [] z:=by
 have h1:=j1p l hv hl z;have h2:=WP l z;rw [j1o l hv hl] at h;show Za (D6.inn l z)=DF 2 (CV l z) (CV [] z)
 grind [j1t,Za,CV,Fo,v9m]
theorem w2d : ∀(k i:Nat) (out:zx) (last:zu) (first:Nat),Lq 2 l [] k i out last first=bif Cp l k i then some (D6.ref (D6.sec l) (D6.cuts l) k i out last first) else none
 | 0,_,_,_,_=>rfl
 | k+1,i,out,last,first=>by
  unfold Lq Cp CM.ref;rw [<-v9y,<-j1o l hv hl];rcases Xw (Ew l (rd (D6.cuts l) i)) with q | q
  .rw [q];rfl
  .have:=j3j l hv hl _ q;rw [q,Aa,Aa,this,w2d k,w2d k];have e:D6.same (EQ 2 l [] (rd (D6.cuts l) i)) last=Uh (EQ 2 l [] (rd (D6.cuts l) i)) last:=rfl;rw [e];cases (decide (0<i)&&Uh (EQ 2 l [] (rd (D6.cuts l) i)) last) <;> rfl
theorem O4 :Lp 2 l []=bif Cp l ((D6.cuts l).length - 1) 0 then some (D6.out l) else none:=by unfold Lp;rw [w2d l hv hl,<-v9y,D6.out_eq (fun a b=>BS) l]
end
theorem u6c (l:zx):Yv l=JM l:=by
 unfold Yv JM;by_cases h:400<l.length
 .grind
 .rw [An h,Aa,Aa,show l.all E7=l.all CX from by grind [TV]];rcases Xw (l.all CX) with hv | hv
  .rw [hv,Ab,Ab];unfold ID JQ E8;rw [O4 l hv (by omega)]
   grind
  grind
open Go.Proofs Go.Lib Go.Sort
def JZ (x:zw):Prop:= ∀c∈x,c≠47
theorem y8e : ∀(x cur rest:zw),JZ x->Cg 47 cur (x++rest)=Cg 47 (cur++x) rest
 | [],cur,rest,h=>by rw [A0,AG]
 | c::x,cur,rest,h=>by
  have hc:(c == (47:UInt8))=false:=by have:=h c Bc;simp [this]
  rw [BD,Cg,hc,Aa,y8e x (cur++[c]) rest fun d hd=>h d (Bb _ hd),AH];rfl
theorem x7h : ∀(r:List zw) (cur:zw),(∀p∈r,JZ p)->Cg 47 cur (Lib.joinTail [47] r)=cur::r
 | [],cur,h=>rfl
 | y::r,cur,h=>by
  have e:Lib.joinTail [47] (y::r)=47::(y++Lib.joinTail [47] r):=by simp [Lib.joinTail]
  rw [e,Cg,show ((47:UInt8) == 47)=true from rfl,Ab,y8e y [] _ (h y Bc),A0,x7h r y fun p hp=>h p (Bb _ hp)]
theorem x7i {L:List zw} (h0:L≠ []) (h: ∀p∈L,JZ p):Cg 47 [] (Lib.join L [47])=L:=by
 cases L with
 | nil=>exact absurd rfl h0
 | cons x r=>rw [Lib.join_cons,y8e x [] _ (h x Bc),A0,x7h r x fun p hp=>h p (Bb _ hp)]
theorem x6m : ∀(i:Nat) (x:zw),Fu i x=true->JZ x
 | _,[],_=>fun c hc=>by cases hc
 | i,d::x,h=>fun c hc=>by
  rw [Fu,Ac] at h;cases hc with
  | head=>intro e;subst e;have h1:=h.1;unfold H2 G7 digN at h1;revert h1;cases decide (i≠0) <;> decide
  | tail _ hc=>exact x6m (i+1) x h.2 c hc
theorem v6o {x:zw} (h:Co x=true):JZ x:=by unfold Co at h;rw [Ac,Ac] at h;exact x6m 0 x h.2.2
theorem u4s {L M:List zw} (hL:L≠ []) (hM:M≠ []) (h1: ∀p∈L,JZ p) (h2: ∀p∈M,JZ p) (h:Lib.join L [47]=Lib.join M [47]):L=M:=by rw [<-x7i hL h1,<-x7i hM h2,h]
theorem F4 (a b:Int):a<b\/b<=a:=by omega
def Ei (l:zr) (i:Nat):Prop:=Ej l i=true/\ ∀j,j<=i->Co (rd l j).n =true
def IR (l:zr) (i:Nat):Prop:= ∀j k,j<k->k<i-> ¬((rd l j).a =(rd l k).a /\(rd l j).n =(rd l k).n)
def Ez (l:zr) (i:Int):List zw:=C6 l (i.toNat+1) i
theorem Y5 (l:zr) {i:Int} (h:i<0):Ez l i=[]:=M7 l _ (by omega)
theorem HO {l:zr} {t j:Nat} (ht:Ej l t=true) (hj:j<=t):Ez l (j:Int)=(rd l j).n ::Ez l (rd l j).a :=by
 have hb:=Ke ht hj;unfold Ez;rw [Zj,C6,Af (show (0:Int)<=(j:Int) by omega),Ab,Zj]
 congr 1
 exact w4s ht _ _ _ (by omega) (by omega) (by omega)
theorem x2g {l:zr} {t:Nat} (h:Ei l t): ∀(k:Nat) (i:Int),i<=(t:Int)-> ∀p∈C6 l k i,JZ p
 | 0,i,hi,p,hp=>by cases hp
 | k+1,i,hi,p,hp=>by
  unfold C6 at hp;by_cases g:0<=i
  .obtain ⟨j,rfl⟩: ∃j:Nat,i=(j:Int):=⟨i.toNat,by omega⟩
   rw [Af g,Ab,Zj] at hp;cases hp with
   | head=>exact v6o (h.2 j (by omega))
   | tail _ hp=>have hb:=Ke h.1 (show j<=t by omega);exact x2g h k _ (by omega) p hp
  .rw [An g] at hp;cases hp
theorem v3b {l:zr} {t:Nat} (h:Ei l t) (hn:IR l t): ∀(m j k:Nat),j<m->j<t->k<t->Ez l (j:Int)=Ez l (k:Int)->j=k
 | 0,j,k,hm,_,_,_=>absurd hm (AD _)
 | m +1,j,k,hm,hj,hk,e=>by
  rw [HO h.1 (show j<=t by omega),HO h.1 (show k<=t by omega),Bn] at e;have bj:=Ke h.1 (show j<=t by omega);have bk:=Ke h.1 (show k<=t by omega);have ea:(rd l j).a =(rd l k).a :=by
   rcases F4 (rd l j).a 0 with a1 | a1
   .rcases F4 (rd l k).a 0 with a2 | a2
    .omega
    .exfalso;obtain ⟨q,hq⟩: ∃q:Nat,(rd l k).a =(q:Int):=⟨(rd l k).a.toNat,by omega⟩
     rw [Y5 l a1,hq,HO h.1 (show q<=t by omega)] at e;cases e.2
   .obtain ⟨p,hp⟩: ∃p:Nat,(rd l j).a =(p:Int):=⟨(rd l j).a.toNat,by omega⟩
    rcases F4 (rd l k).a 0 with a2 | a2
    .exfalso;rw [Y5 l a2,hp,HO h.1 (show p<=t by omega)] at e;cases e.2
    .obtain ⟨q,hq⟩: ∃q:Nat,(rd l k).a =(q:Int):=⟨(rd l k).a.toNat,by omega⟩
     rw [hp,hq] at e;have:=v3b h hn m p q (by omega) (by omega) (by omega) e.2;omega
  rcases Bu j k with g | g | g
  .exact absurd ⟨ea,e.1⟩ (hn j k g hk)
  .exact g
  .exact absurd ⟨ea.symm,e.1.symm⟩ (hn k j g hj)
theorem u3m {l:zr} {i k:Nat} (h:Ei l i) (hn:IR l i) (hk:k<i):Ce l (k:Int)=Ce l (i:Int)↔(rd l k).a =(rd l i).a /\(rd l k).n =(rd l i).n :=by
 have bi:=Ke h.1 (Aq i);have bk:=Ke h.1 (show k<=i by omega);have ek:=HO h.1 (show k<=i by omega);have ei:=HO h.1 (Aq i);constructor
 .intro e;have e:Ez l (k:Int)=Ez l (i:Int):=by have:=u4s (L:=(Ez l (k:Int)).reverse) (M:=(Ez l (i:Int)).reverse) (by rw [ek];simp) (by rw [ei];simp) (fun p hp=>x2g h _ _ (by omega) p (List.mem_reverse.1 hp)) (fun p hp=>x2g h _ _ (A3 _) p (List.mem_reverse.1 hp)) e;exact List.reverse_inj.1 this
  rw [ek,ei,Bn] at e;refine ⟨?_,e.1⟩;rcases F4 (rd l k).a 0 with a1 | a1
  .rcases F4 (rd l i).a 0 with a2 | a2
   .omega
   .exfalso;obtain ⟨q,hq⟩: ∃q:Nat,(rd l i).a =(q:Int):=⟨(rd l i).a.toNat,by omega⟩
    rw [Y5 l a1,hq,HO h.1 (show q<=i by omega)] at e;cases e.2
  .obtain ⟨p,hp⟩: ∃p:Nat,(rd l k).a =(p:Int):=⟨(rd l k).a.toNat,by omega⟩
   rcases F4 (rd l i).a 0 with a2 | a2
   .exfalso;rw [Y5 l a2,hp,HO h.1 (show p<=i by omega)] at e;cases e.2
   .obtain ⟨q,hq⟩: ∃q:Nat,(rd l i).a =(q:Int):=⟨(rd l i).a.toNat,by omega⟩
    rw [hp,hq] at e;have:=v3b h hn (p+1) p q (by omega) (by omega) (by omega) e.2;omega
 .intro ⟨e1,e2⟩;show Lib.join (Ez l (k:Int)).reverse [47]=Lib.join (Ez l (i:Int)).reverse [47];rw [ek,ei,e1,e2]
def E9 (l:zr):Int:=match l.find? fun x=>Yv x.s != 0 with
 | some x=>Yv x.s
 | none=>0
def Eu (l:zr) (i:Nat):Bool:= !(Co (rd l i).n)||(decide ((rd l i).a < -1)||(decide ((rd l i).a >=(i:Int))||(CT (rd l i).t (rd l i).x (rd l i).y (rd l i).z != 0)))
def twin (l:zr) (i:Nat):Bool:=(List.range i).any fun k=>((rd l k).a == (rd l i).a)&&((rd l k).n == (rd l i).n)
def D0 (l:zr) (i:Nat):Bool:=Eu l i||(EF (Ce l (i:Int)) != 0||twin l i)
def Ki (l:zr):Int:=bif decide (200<l.length) then 4 else bif E9 l != 0 then E9 l else bif (List.range l.length).any (D0 l) then 8 else 0
def Yt (l:zr):Bool:=decide (l.length<=1000000)&&l.all fun x=>decide (x.n.length<=500)
def Gr (l:zr) (i:Nat):Prop:= ∀j,j<i->D0 l j=false
theorem Sc {l:zr} {i:Nat} (h:Eu l i=false):Co (rd l i).n =true/\ -1<=(rd l i).a /\(rd l i).a <(i:Int)/\CT (rd l i).t (rd l i).x (rd l i).y (rd l i).z =0:=by unfold Eu at h;simp only [AP,Bool.not_eq_false',Be,bne_eq_false_iff_eq] at h;exact ⟨h.1,by omega,by omega,h.2.2.2⟩
theorem YL {l:zr} {i:Nat} (h:Gr l i) (hi:Eu l i=false):Ei l i:=by
 have hb: ∀j,j<=i->Eu l j=false:=fun j hj=>by
  rcases A8 j i with g | g
  .have:=h j g;unfold D0 at this;rw [AP] at this;exact this.1
  .rw [show j=i by omega];exact hi
 refine ⟨As.2 fun j hj=> ?_,fun j hj=>(Sc (hb j hj)).1⟩;have:=Sc (hb j (by have:=AL.1 hj;omega));rw [Ac,Ao,Ao];exact ⟨this.2.1,this.2.2.1⟩
theorem x1n {l:zr} {i:Nat} (h:Gr l i):IR l i:=fun j k hjk hk ⟨e1,e2⟩=>by have:=h k hk;unfold D0 twin at this;rw [AP,AP] at this;have:=List.any_eq_false.1 this.2.2 j (AL.2 hjk);rw [e1,e2] at this;simp at this
def Th (l:zr) (i:Nat) (m:List (zw×Bool)):Prop:= ∀p,getK false m p=(List.range i).any fun k=>Ce l (k:Int) == p
theorem v7v (m:List (zw×Bool)) (p q:zw):getK false (ER m p true) q=(p == q||getK false m q):=by
 induction m with
 | nil=>
  show (bif q == p then true else false)=_;have e:(p == q)=(q == p):=by rw [AV,Bi,Bi];exact eq_comm
  rw [e,show getK false [] q=false from rfl];cases q == p <;> rfl
 | cons x m ih=>
  unfold ER;cases g:p == x.1 with
  | true=>
   rw [Ab];show (bif q == x.1 then true else getK false m q)=(p == q||bif q == x.1 then x.2 else getK false m q);have e1:=Bi.1 g;rw [<-e1];have e:(p == q)=(q == p):=by rw [AV,Bi,Bi];exact eq_comm
   rw [e];cases q == p <;> rfl
  | false=>
   rw [Aa];show (bif q == x.1 then x.2 else getK false (ER m p true) q)=(p == q||bif q == x.1 then x.2 else getK false m q);rw [ih];cases g2:q == x.1 with
   | true=>
    have:(p == q)=false:=by rw [Bi.1 g2];exact g
    rw [this];rfl
   | false=>rfl
theorem w8q {l:zr} {i:Nat} {m:List (zw×Bool)} (h:Th l i m):Th l (i+1) (ER m (Ce l (i:Int)) true):=fun p=>by rw [v7v,h p,Bw,List.any_append,Bool.or_comm];simp
theorem w8p {l:zr} {i:Nat} {m:List (zw×Bool)} (hs:Th l i m) (h:Gr l i) (hi:Eu l i=false):getK false m (Ce l (i:Int))=twin l i:=by
 rw [hs];unfold twin;have e: ∀k∈List.range i,(Ce l (k:Int) == Ce l (i:Int))=(((rd l k).a == (rd l i).a)&&((rd l k).n == (rd l i).n)):=fun k hk=>by rw [AV,Ac,Bi,Bi,Bi];exact u3m (YL h hi) (x1n h) (AL.1 hk)
 rw [AV,BQ,BQ];constructor
 .intro ⟨k,h1,h2⟩;exact ⟨k,h1,by rw [<-e k h1];exact h2⟩
 .intro ⟨k,h1,h2⟩;exact ⟨k,h1,by rw [e k h1];exact h2⟩
theorem x3h {l:zr} {i:Nat} (ho:Yt l=true) (hl:l.length<=1000) (hi:i<l.length) (h:Ei l i):Ja l (i:Int)=true:=by unfold Yt at ho;unfold Ja;rw [Ac] at ho;rw [Zj,Af (show (0:Int)<=(i:Int)/\(i:Int)<(l.length:Int) by omega),Af hl,h.1,ho.2];rfl
open Go.Proofs.Tryz
def FW (T:Int) (l:zr):Int:=match l.find? fun x=>Yv x.s != 0 with
 | some x=>Yv x.s
 | none=>T
theorem y6k (T:Int) (x:CD) (l:zr):FW T (x::l)=bif Yv x.s != 0 then Yv x.s else FW T l:=by unfold FW;rw [List.find?_cons];cases Yv x.s != 0 <;> rfl
theorem x9c (T:Int): ∀l:zr,FW T l=bif E9 l != 0 then E9 l else T
 | []=>rfl
 | x::l=>by
  have e:E9 (x::l)=bif Yv x.s != 0 then Yv x.s else E9 l:=by unfold E9;rw [List.find?_cons];cases Yv x.s != 0 <;> rfl
  rw [y6k,e,x9c T l];cases g:Yv x.s != 0 with
  | true=>rw [Ab,Ab,g,Ab]
  | false=>rfl
def badF (l:zr):Nat->Nat->Bool
 | 0,_=>false
 | k+1,i=>D0 l i||badF l k (i+1)
theorem x1x (l:zr): ∀(k i:Nat),badF l k i=(List.range k).any fun j=>D0 l (i+j)
 | 0,i=>rfl
 | k+1,i=>by
  rw [badF,x1x l k (i+1),List.range_succ_eq_map,List.any_cons,List.any_map]
  congr 1
  congr 1
  funext j
  show D0 l (i+1+j)=D0 l (i+(j+1))
  congr 1;omega
theorem w7n (l:zr):badF l l.length 0=(List.range l.length).any (D0 l):=by
 rw [x1x]
 congr 1
 funext j
 rw [Ah]
theorem u8h {l:zr} {T:Int} (hl:l.length<=1000) (hT: ∃N,Yj (Qk l) N (.to (.h1 0 []))=.ret [.int .i64 T]): ∀(k i:Nat),i+k=l.length-> ∃N,Yj (Qk l) N (.to (.h0 (i:Int)))=.ret [.int .i64 (FW T (l.drop i))]
 | 0,i,h=>by
  obtain ⟨N,hN⟩:=hT;refine ⟨N+1,?_⟩;rw [Zx,Aw (by omega)];have e:Qk l (.h0 (i:Int))=.to (.h1 0 []):=by unfold Qk;simp only [];rw [Yc (by omega)];rfl
  rw [e,hN];rfl
 | k+1,i,h=>by
  have hi:i<l.length:=by omega
  have w2:wrap .i64 ((i:Int)+1)=((i+1:Nat):Int):=Zq (by omega);have e:Qk l (.h0 (i:Int))=bif Yv (rd l i).s != 0 then .ret [.int .i64 (Yv (rd l i).s)] else .to (.h0 ((i+1:Nat):Int)):=by unfold Qk;simp only [Zj,w2,Zd];rw [Zt (by omega),Ab,Aj,Yk (Zn (by omega))];rfl
  rw [Yn hi,y6k];cases g:Yv (rd l i).s != 0 with
  | true=>exact ⟨1,by rw [Zx,e,g];rfl⟩
  | false=>obtain ⟨N,hN⟩:=u8h hl hT k (i+1) (by omega);exact ⟨N+1,by rw [Zx,e,g,Aa,Aa,hN]⟩
theorem u1p {l:zr} {i:Nat} {m:List (zw×Bool)} (ho:Yt l=true) (hl:l.length<=1000) (hi:i<l.length) (hf:Gr l i) (hs:Th l i m):
  Qk l (.h1 (i:Int) m)=bif D0 l i then .ret [.int .i64 8] else .to (.h1 ((i+1:Nat):Int) (ER m (Ce l (i:Int)) true)):=by
 have w2:wrap .i64 ((i:Int)+1)=((i+1:Nat):Int):=Zq (by omega);have hn:Uu (rd l i).n =true:=by unfold Yt at ho;rw [Ac] at ho;have:=Sn ho.2 i;exact Af (by omega)
 unfold Qk;simp only [Zj,w2,Zd];rw [Zt (by omega),Ab,Aj,Yk (Zn (by omega)),Yk hn];unfold D0;cases hb:Eu l i with
 | true=>
  rw [Bool.true_or,Ab];unfold Eu at hb;revert hb;cases Co (rd l i).n with
  | false=>intro _;rfl
  | true=>
   cases decide ((rd l i).a < -1) with
   | true=>intro _;rfl
   | false=>
    cases decide ((rd l i).a >=(i:Int)) with
    | true=>intro _;rfl
    | false=>
     cases CT (rd l i).t (rd l i).x (rd l i).y (rd l i).z != 0 with
     | true=>intro _;rfl
     | false=>intro h;cases h
 | false=>obtain ⟨b1,b2,b3,b4⟩:=Sc hb;have hk:=YL hf hb;have hp:=x3h ho hl hi hk;rw [b1,Ax,Aa,Yc (by omega),Aa,Fk (by omega),Aa,b4,show ((0:Int) != 0)=false from rfl,Aa,Yk hp,w8p hs hf hb,Yk (show Kn (Ce l (i:Int))=true from Af (XM hp)),Bj];cases twin l i <;> cases EF (Ce l (i:Int)) != 0 <;> rfl
theorem x1o {l:zr} {i:Nat} (h:Gr l i) (hi:D0 l i=false):Gr l (i+1):=fun j hj=>by
 rcases A8 j i with g | g
 .exact h j g
 .rw [show j=i by omega];exact hi
theorem u8g {l:zr} (ho:Yt l=true) (hl:l.length<=1000): ∀(k i:Nat) (m:List (zw×Bool)),i+k=l.length->Gr l i->Th l i m-> ∃N,Yj (Qk l) N (.to (.h1 (i:Int) m))=.ret [.int .i64 (bif badF l k i then 8 else 0)]
 | 0,i,m,h,hf,hs=>⟨1,by
  rw [Zx];unfold Qk;simp only [];rw [Yc (by omega)];rfl⟩
 | k+1,i,m,h,hf,hs=>by
  have e:=u1p ho hl (show i<l.length by omega) hf hs;rw [badF];cases g:D0 l i with
  | true=>exact ⟨1,by rw [Zx,e,g];rfl⟩
  | false=>obtain ⟨N,hN⟩:=u8g ho hl k (i+1) _ (by omega) (x1o hf g) (w8q hs);exact ⟨N+1,by rw [Zx,e,g,Aa,hN,Bj]⟩
theorem j3p (l:zr) (h:Yt l=true): ∃N,Yj (Qk l) N (X2 l)=.ret [.int .i64 (Ki l)]:=by
 unfold X2 Ki;by_cases g:200<l.length
 .rw [Yo (by omega),Af g];exact ⟨0,rfl⟩
 .rw [Xb (by omega),An g,Aa,Aa];have hT:=u8g h (by omega) l.length 0 [] (Ah _) (fun j hj=>absurd hj (AD _)) fun p=>rfl;have:=u8h (by omega) hT l.length 0 (Ah _);rw [AR,x9c,w7n] at this;exact this
def F9 :zy->Option (CA×Bool)
 | [a0]=>match C4 CD a0 with
  | some (L,g,n)=>some (.int .i64 (Ki L),CU CD n g&&Yt L)
  | _=>none
 | _=>none
theorem j7r {S:CC} (hS:Zu prog S):Zu prog (S.with Tt F9):=C3 hS (by kernel_rfl) fun args v h=>by
 unfold F9 at h;split at h
 .rename_i a0;split at h
  .rename_i L g n e0;simp only [Ae,Ad,Ac] at h;obtain ⟨rfl,ho0,hw⟩:=h;obtain ⟨N,hN⟩:=j3p L hw;exact ⟨_,_,(.cons (Xy e0 ho0) .nil),rfl,u1q L N _ hN,3,rfl⟩
  .cases h
 .cases h
theorem u8t {l:zr} {T:Int} (hl:l.length<=1000) (hT: ∃N,Yj (Vh l) N (.to (.h1 0))=.ret [.int .i64 T]): ∀(k i:Nat),i+k=l.length-> ∃N,Yj (Vh l) N (.to (.h0 (i:Int)))=.ret [.int .i64 (FW T (l.drop i))]
 | 0,i,h=>by
  obtain ⟨N,hN⟩:=hT;refine ⟨N+1,?_⟩;rw [Zx,Aw (by omega)];have e:Vh l (.h0 (i:Int))=.to (.h1 0):=by unfold Vh;simp only [];rw [Yc (by omega)];rfl
  rw [e,hN];rfl
 | k+1,i,h=>by
  have hi:i<l.length:=by omega
  have w2:wrap .i64 ((i:Int)+1)=((i+1:Nat):Int):=Zq (by omega);have e:Vh l (.h0 (i:Int))=bif Yv (rd l i).s != 0 then .ret [.int .i64 (Yv (rd l i).s)] else .to (.h0 ((i+1:Nat):Int)):=by unfold Vh;simp only [Zj,w2,Zd];rw [Zt (by omega),Ab,Aj,Yk (Zn (by omega)),u6c];rfl
  rw [Yn hi,y6k];cases g:Yv (rd l i).s != 0 with
  | true=>exact ⟨1,by rw [Zx,e,g];rfl⟩
  | false=>obtain ⟨N,hN⟩:=u8t hl hT k (i+1) (by omega);exact ⟨N+1,by rw [Zx,e,g,Aa,Aa,hN]⟩
def twF (l:zr) (a:Int) (n:zw):Nat->Nat->Bool
 | 0,_=>false
 | k+1,i=>(((rd l i).a == a)&&((rd l i).n == n))||twF l a n k (i+1)
theorem x5d (l:zr) (a:Int) (n:zw): ∀(k i:Nat),twF l a n k i=(List.range k).any fun j=>((rd l (i+j)).a == a)&&((rd l (i+j)).n == n)
 | 0,i=>rfl
 | k+1,i=>by
  rw [twF,x5d l a n k (i+1),List.range_succ_eq_map,List.any_cons,List.any_map]
  congr 1
  congr 1
  funext j
  show (_:Bool)=((rd l (i+(j+1))).a == a&&(rd l (i+(j+1))).n == n);rw [show i+1+j=i+(j+1) by omega]
theorem u8r {l:zr} {i:Nat} {n:zw} {a t x y z:Int} {s:zx} (hi:i<l.length) (hl:l.length<=1000) {T:Int} (hT: ∃N,Yj (Vh l) N (.to (.h1 ((i+1:Nat):Int)))=.ret [.int .i64 T]):
  ∀(k j:Nat),j+k=i-> ∃N,Yj (Vh l) N (.to (.h2 (i:Int) (j:Int) n a t x y z s))=.ret [.int .i64 (bif twF l a n k j then 8 else T)]
 | 0,j,h=>by
  obtain ⟨N,hN⟩:=hT;have w2:wrap .i64 ((i:Int)+1)=((i+1:Nat):Int):=Zq (by omega);refine ⟨N+1,?_⟩;have e:Vh l (.h2 (i:Int) (j:Int) n a t x y z s)=.to (.h1 ((i+1:Nat):Int)):=by unfold Vh;simp only [w2];rw [Yc (by omega)];rfl
  rw [Zx,e,hN];rfl
 | k+1,j,h=>by
  have w2:wrap .i64 ((j:Int)+1)=((j+1:Nat):Int):=Zq (by omega);have e:Vh l (.h2 (i:Int) (j:Int) n a t x y z s)=bif ((rd l j).a == a)&&((rd l j).n == n) then .ret [.int .i64 8] else .to (.h2 (i:Int) ((j+1:Nat):Int) n a t x y z s):=by unfold Vh;simp only [Zj,w2];rw [Zt (by omega),Ab,Aj,Yk (Zn (by omega))];cases (rd l j).a == a <;> cases (rd l j).n == n <;> rfl
  rw [twF];cases g:((rd l j).a == a)&&((rd l j).n == n) with
  | true=>exact ⟨1,by rw [Zx,e,g];rfl⟩
  | false=>obtain ⟨N,hN⟩:=u8r (n:=n) (a:=a) (t:=t) (x:=x) (y:=y) (z:=z) (s:=s) hi hl hT k (j+1) (by omega);exact ⟨N+1,by rw [Zx,e,g,Aa,hN,Bj]⟩
theorem u2a {l:zr} {i:Nat} (ho:Yt l=true) (hl:l.length<=1000) (hi:i<l.length) (hf:Gr l i):
  Vh l (.h1 (i:Int))=bif Eu l i||(EF (Ce l (i:Int)) != 0) then .ret [.int .i64 8] else .to (.h2 (i:Int) 0 (rd l i).n (rd l i).a (rd l i).t (rd l i).x (rd l i).y (rd l i).z (rd l i).s):=by
 have hn:Uu (rd l i).n =true:=by unfold Yt at ho;rw [Ac] at ho;have:=Sn ho.2 i;exact Af (by omega)
 unfold Vh;simp only [Zj,Zd];rw [Zt (by omega),Ab,Aj,Yk (Zn (by omega)),Yk hn];cases hb:Eu l i with
 | true=>
  rw [Bool.true_or,Ab];unfold Eu at hb;revert hb;cases Co (rd l i).n with
  | false=>intro _;rfl
  | true=>
   cases decide ((rd l i).a < -1) with
   | true=>intro _;rfl
   | false=>
    cases decide ((rd l i).a >=(i:Int)) with
    | true=>intro _;rfl
    | false=>
     cases CT (rd l i).t (rd l i).x (rd l i).y (rd l i).z != 0 with
     | true=>intro _;rfl
     | false=>intro h;cases h
 | false=>obtain ⟨b1,b2,b3,b4⟩:=Sc hb;have hk:=YL hf hb;have hp:=x3h ho hl hi hk;rw [b1,Ax,Aa,Yc (by omega),Aa,Fk (by omega),Aa,b4,show ((0:Int) != 0)=false from rfl,Aa,Yk hp,Yk (show Kn (Ce l (i:Int))=true from Af (XM hp)),Bj]
theorem w4t (l:zr) (i:Nat):twF l (rd l i).a (rd l i).n i 0=twin l i:=by
 rw [x5d];unfold twin
 congr 1
 funext j
 rw [Ah]
theorem u8s {l:zr} (ho:Yt l=true) (hl:l.length<=1000): ∀(k i:Nat),i+k=l.length->Gr l i-> ∃N,Yj (Vh l) N (.to (.h1 (i:Int)))=.ret [.int .i64 (bif badF l k i then 8 else 0)]
 | 0,i,h,hf=>⟨1,by
  rw [Zx];unfold Vh;simp only [];rw [Yc (by omega)];rfl⟩
 | k +1,i,h,hf=>by
  have hi:i<l.length:=by omega
  have e:=u2a ho hl hi hf;rw [badF];have hb:D0 l i=((Eu l i||(EF (Ce l (i:Int)) != 0))||twin l i):=by unfold D0;rw [Bool.or_assoc]
  cases g:Eu l i||(EF (Ce l (i:Int)) != 0) with
  | true=>exact ⟨1,by rw [Zx,e,hb,g];rfl⟩
  | false=>
   cases g2:twin l i with
   | true=>
    have hx: ∀(k j:Nat),j+k=i->twF l (rd l i).a (rd l i).n k j=true-> ∃N,Yj (Vh l) N (.to (.h2 (i:Int) (j:Int) (rd l i).n (rd l i).a (rd l i).t (rd l i).x (rd l i).y (rd l i).z (rd l i).s))=.ret [.int .i64 8]:=by
     intro k
     induction k with
     | zero=>intro j _ hq;cases hq
     | succ k ih=>
      intro j hj hq;have w2:wrap .i64 ((j:Int)+1)=((j+1:Nat):Int):=Zq (by omega);have e:Vh l (.h2 (i:Int) (j:Int) (rd l i).n (rd l i).a (rd l i).t (rd l i).x (rd l i).y (rd l i).z (rd l i).s)=bif ((rd l j).a == (rd l i).a)&&((rd l j).n == (rd l i).n) then .ret [.int .i64 8] else .to (.h2 (i:Int) ((j+1:Nat):Int) (rd l i).n (rd l i).a (rd l i).t (rd l i).x (rd l i).y (rd l i).z (rd l i).s):=by unfold Vh;simp only [Zj,w2];rw [Zt (by omega),Ab,Aj,Yk (Zn (by omega))];cases (rd l j).a == (rd l i).a <;> cases (rd l j).n == (rd l i).n <;> rfl
      rw [twF] at hq;cases g:((rd l j).a == (rd l i).a)&&((rd l j).n == (rd l i).n) with
      | true=>exact ⟨1,by rw [Zx,e,g];rfl⟩
      | false=>rw [g,Bj] at hq;obtain ⟨N,hN⟩:=ih (j+1) (by omega) hq;exact ⟨N+1,by rw [Zx,e,g,Aa,hN]⟩
    obtain ⟨N,hN⟩:=hx i 0 (Ah _) (by rw [w4t];exact g2);refine ⟨N+1,?_⟩;rw [Zx,e,g,Aa,hb,g,g2];exact hN
   | false=>
    have hbf:D0 l i=false:=by rw [hb,g,g2];rfl
    have ht:=u8s ho hl k (i+1) (by omega) (x1o hf hbf);obtain ⟨N,hN⟩:=u8r (n:=(rd l i).n) (a:=(rd l i).a) (t:=(rd l i).t) (x:=(rd l i).x) (y:=(rd l i).y) (z:=(rd l i).z) (s:=(rd l i).s) hi hl ht i 0 (Ah _);rw [w4t,g2,Aa] at hN;refine ⟨N+1,?_⟩;rw [Zx,e,g,Aa,hbf,Bj];exact hN
theorem j4a (l:zr) (h:Yt l=true): ∃N,Yj (Vh l) N (XX l)=.ret [.int .i64 (Ki l)]:=by
 unfold XX Ki;by_cases g:200<l.length
 .rw [Yo (by omega),Af g];exact ⟨0,rfl⟩
 .rw [Xb (by omega),An g,Aa,Aa];have hT:=u8s h (by omega) l.length 0 (Ah _) (fun j hj=>absurd hj (AD _));have:=u8t (by omega) hT l.length 0 (Ah _);rw [AR,x9c,w7n] at this;exact this
theorem j7t {S:CC} (hS:Zu prog S):Zu prog (S.with Tw F9):=C3 hS (by kernel_rfl) fun args v h=>by
 unfold F9 at h;split at h
 .rename_i a0;split at h
  .rename_i L g n e0;simp only [Ae,Ad,Ac] at h;obtain ⟨rfl,ho0,hw⟩:=h;obtain ⟨N,hN⟩:=j4a L hw;exact ⟨_,_,(.cons (Xy e0 ho0) .nil),rfl,u2b L N _ hN,3,rfl⟩
  .cases h
 .cases h
def QL :CC:=(VZ.with Tt F9).with Tw F9
theorem Sa :Zu prog QL:=j7t (j7r Wg)
inductive I7 where
def PC (x0:Int):I7->CJ
 :=nofun
def w3a (x0:Int):I7->Xk I7
 :=nofun
def Sz (x0:Int):Xk I7:=(bif ((wrap IntKind.u8 (Int.tdiv x0 2)) == 0) then (.ret [(.agg [(.int .i64 (wrap .i64 (1 - (wrap .i64 (2*(wrap .i64 (Int.tmod x0 2))))))),(.int .i64 0),(.int .i64 0)])]) else (bif ((wrap IntKind.u8 (Int.tdiv x0 2)) == 1) then (.ret [(.agg [(.int .i64 0),(.int .i64 (wrap .i64 (1 - (wrap .i64 (2*(wrap .i64 (Int.tmod x0 2))))))),(.int .i64 0)])]) else (.ret [(.agg [(.int .i64 0),(.int .i64 0),(.int .i64 (wrap .i64 (1 - (wrap .i64 (2*(wrap .i64 (Int.tmod x0 2)))))))])])))
theorem v1i (x0:Int): ∀s,Xh prog (Zy prog 126) (PC x0) (PC x0 s) (w3a x0 s)
 :=nofun
theorem w3b (x0:Int):Xh prog (Zy prog 126) (PC x0) (Zb prog 126 [(.int .u8 x0)] true []) (Sz x0):=let a:=ii (wr (1 - (wr (2*(wr (Int.tmod x0 2))))));let b:=Zk prog 126 (pn 299) 1;let c:=Zy prog 126;(lb (fun k0=>(Yh ⟨⟨21,0,true⟩,none,b,none,c,⟨Yy [(2,(.ptr 0 0))],Wf [⟨[a,(ii 0),(ii 0)],40,none⟩] 0,1,[],true⟩,[],.leaf⟩ (sl Sa 32 [] ⟨[0],[],[some [2]],[]⟩ b7 [true] (tt k0 nn)) rfl (by kernel_rfl))) (fun k0=>(lb (fun k1=>(Yh ⟨⟨21,0,true⟩,none,b,none,c,⟨Yy [(2,(.ptr 0 0))],Wf [⟨[(ii 0),a,(ii 0)],40,none⟩] 0,1,[],true⟩,[],.leaf⟩ (sl Sa 38 [] ⟨[0],[],[some [2]],[]⟩ b7 (bl 2 2) (tt k1 (tt k0 nn))) rfl (by kernel_rfl))) (fun k1=>(Yh ⟨⟨21,0,true⟩,none,(Zk prog 3 (pn 191) 1),none,c,⟨Yy [(2,(.ptr 0 0))],Wf [⟨[(ii 0),(ii 0),a],40,none⟩] 0,1,[],true⟩,[],.leaf⟩ (sl Sa 40 [] ⟨[0],[],[some [2]],[]⟩ b7 (bl 2 0) (tt k1 (tt k0 nn))) rfl (by kernel_rfl))))))
theorem u5i (x0:Int) (n:Nat) (vs:zy) (h:Yj (w3a x0) n (Sz x0)=.ret vs):Ji prog (Zy prog 126) (Zb prog 126 [(.int .u8 x0)] true []) vs:=by have:=Zf (v1i x0) n _ (w3b x0);rwa [h] at this
structure R9 where
 (a b c d e f g h i:Int)
def fdS (d:Int):Int:=wrap .i64 (1 - wrap .i64 (2*wrap .i64 (Int.tmod d 2)))
def C9 (d:Int):R3:=bif wrap .u8 (Int.tdiv d 2) == 0 then ⟨fdS d,0,0⟩ else bif wrap .u8 (Int.tdiv d 2) == 1 then ⟨0,fdS d,0⟩ else ⟨0,0,fdS d⟩
def VS (v:R3):CA:=.agg [.int .i64 v.a,.int .i64 v.b,.int .i64 v.c]
theorem j7d (d:Int) (_:True): ∃N,Yj (w3a d) N (Sz d)=.ret [VS (C9 d)]:=⟨0,by
 show Sz d=_;unfold Sz C9;cases wrap .u8 (Int.tdiv d 2) == 0
 .cases wrap .u8 (Int.tdiv d 2) == 1 <;> rfl
 .rfl⟩
def Pg :zy->Option (CA×Bool)
 | [.int .u8 d]=>some (VS (C9 d),true)
 | _=>none
theorem j8q {S:CC} (hS:Zu prog S):Zu prog (S.with VE Pg):=C3 hS (by kernel_rfl) fun args v h=>by
 unfold Pg at h;split at h
 .rename_i d;simp only [Ae,Ad] at h;obtain ⟨rfl,ho⟩:=h;obtain ⟨N,hN⟩:=j7d d ho;exact ⟨_,_,.cons (.refl _) .nil,rfl,u5i d N _ hN,5,rfl⟩
 .cases h
def VY :CC:=(QL.with VE Pg)
theorem w4o :Zu prog VY:=(j8q Sa)
def tab9 :List R9:=[⟨1,0,0,0,1,0,0,0,1⟩,⟨1,0,0,0,-1,0,0,0,-1⟩,⟨1,0,0,0,0,1,0,-1,0⟩,⟨1,0,0,0,0,-1,0,1,0⟩,⟨-1,0,0,0,1,0,0,0,-1⟩,⟨-1,0,0,0,-1,0,0,0,1⟩,⟨-1,0,0,0,0,1,0,1,0⟩,⟨-1,0,0,0,0,-1,0,-1,0⟩,⟨0,1,0,1,0,0,0,0,-1⟩,⟨0,1,0,-1,0,0,0,0,1⟩,⟨0,1,0,0,0,1,1,0,0⟩,⟨0,1,0,0,0,-1,-1,0,0⟩,⟨0,-1,0,1,0,0,0,0,1⟩,⟨0,-1,0,-1,0,0,0,0,-1⟩,⟨0,-1,0,0,0,1,-1,0,0⟩,⟨0,-1,0,0,0,-1,1,0,0⟩,⟨0,0,1,1,0,0,0,1,0⟩,⟨0,0,1,-1,0,0,0,-1,0⟩,⟨0,0,1,0,1,0,-1,0,0⟩,⟨0,0,1,0,-1,0,1,0,0⟩,⟨0,0,-1,1,0,0,0,-1,0⟩,⟨0,0,-1,-1,0,0,0,1,0⟩,⟨0,0,-1,0,1,0,1,0,0⟩,⟨0,0,-1,0,-1,0,-1,0,0⟩]
def CE (t:Int):R9:=tab9.getD t.toNat ⟨0,0,0,0,0,0,0,0,0⟩
def Jk (t:Int):Bool:=decide (0<=t/\t<24)
def ag9 (v:R9):CA:=.agg [.int .i64 v.a,.int .i64 v.b,.int .i64 v.c,.int .i64 v.d,.int .i64 v.e,.int .i64 v.f,.int .i64 v.g,.int .i64 v.h,.int .i64 v.i]
abbrev Jw (x0:Int):=(C9 (wrap IntKind.u8 (Int.tdiv x0 4)))
abbrev HF (x0:Int):=(C9 (wrap IntKind.u8 ((Int.tmod x0 4)+2)))
inductive I9 where
def PE (x0:Int):I9->CJ
 :=nofun
def YO (x0:Int):I9->Xk I9
 :=nofun
def XB (x0:Int):Xk I9:=(bif (decide ((Int.tmod x0 4)>=(wrap IntKind.u8 ((wrap IntKind.u8 (Int.tdiv (wrap IntKind.u8 (Int.tdiv x0 4)) 2))*2)))) then (.ret [(.agg [(.int .i64 (C9 (wrap IntKind.u8 (Int.tdiv x0 4))).a),(.int .i64 (C9 (wrap IntKind.u8 (Int.tdiv x0 4))).b),(.int .i64 (C9 (wrap IntKind.u8 (Int.tdiv x0 4))).c),(.int .i64 (C9 (wrap IntKind.u8 ((Int.tmod x0 4)+2))).a),(.int .i64 (C9 (wrap IntKind.u8 ((Int.tmod x0 4)+2))).b),(.int .i64 (C9 (wrap IntKind.u8 ((Int.tmod x0 4)+2))).c),(.int .i64 (wrap .i64 ((wrap .i64 ((C9 (wrap IntKind.u8 (Int.tdiv x0 4))).b *(C9 (wrap IntKind.u8 ((Int.tmod x0 4)+2))).c)) - (wrap .i64 ((C9 (wrap IntKind.u8 (Int.tdiv x0 4))).c *(C9 (wrap IntKind.u8 ((Int.tmod x0 4)+2))).b))))),(.int .i64 (wrap .i64 ((wrap .i64 ((C9 (wrap IntKind.u8 (Int.tdiv x0 4))).c *(C9 (wrap IntKind.u8 ((Int.tmod x0 4)+2))).a)) - (wrap .i64 ((C9 (wrap IntKind.u8 (Int.tdiv x0 4))).a *(C9 (wrap IntKind.u8 ((Int.tmod x0 4)+2))).c))))),(.int .i64 (wrap .i64 ((wrap .i64 ((C9 (wrap IntKind.u8 (Int.tdiv x0 4))).a *(C9 (wrap IntKind.u8 ((Int.tmod x0 4)+2))).b)) - (wrap .i64 ((C9 (wrap IntKind.u8 (Int.tdiv x0 4))).b *(C9 (wrap IntKind.u8 ((Int.tmod x0 4)+2))).a)))))])]) else (.ret [(.agg [(.int .i64 (C9 (wrap IntKind.u8 (Int.tdiv x0 4))).a),(.int .i64 (C9 (wrap IntKind.u8 (Int.tdiv x0 4))).b),(.int .i64 (C9 (wrap IntKind.u8 (Int.tdiv x0 4))).c),(.int .i64 (C9 (Int.tmod x0 4)).a),(.int .i64 (C9 (Int.tmod x0 4)).b),(.int .i64 (C9 (Int.tmod x0 4)).c),(.int .i64 (wrap .i64 ((wrap .i64 ((C9 (wrap IntKind.u8 (Int.tdiv x0 4))).b *(C9 (Int.tmod x0 4)).c)) - (wrap .i64 ((C9 (wrap IntKind.u8 (Int.tdiv x0 4))).c *(C9 (Int.tmod x0 4)).b))))),(.int .i64 (wrap .i64 ((wrap .i64 ((C9 (wrap IntKind.u8 (Int.tdiv x0 4))).c *(C9 (Int.tmod x0 4)).a)) - (wrap .i64 ((C9 (wrap IntKind.u8 (Int.tdiv x0 4))).a *(C9 (Int.tmod x0 4)).c))))),(.int .i64 (wrap .i64 ((wrap .i64 ((C9 (wrap IntKind.u8 (Int.tdiv x0 4))).a *(C9 (Int.tmod x0 4)).b)) - (wrap .i64 ((C9 (wrap IntKind.u8 (Int.tdiv x0 4))).b *(C9 (Int.tmod x0 4)).a)))))])]))
theorem v1k (x0:Int): ∀s,Xh prog (Zy prog 90) (PE x0) (PE x0 s) (YO x0 s)
 :=nofun
theorem w3e (x0:Int):Xh prog (Zy prog 90) (PE x0) (Zb prog 90 [(.int .u8 x0)] true []) (XB x0):=let e:=Zk prog 3 (pn 191) 1;let f:=ii (Jw x0).a;let g:=ii (Jw x0).b;let h:=ii (Jw x0).c;let i:=Zy prog 90;(lb (fun k0=>(Yh ⟨⟨28,0,true⟩,none,e,none,i,⟨Yy [(2,(.ptr 0 0))],Wf [⟨[f,g,h,(ii (HF x0).a),(ii (HF x0).b),(ii (HF x0).c),(ii (wr ((wr ((Jw x0).b *(HF x0).c)) - (wr ((Jw x0).c *(HF x0).b))))),(ii (wr ((wr ((Jw x0).c *(HF x0).a)) - (wr ((Jw x0).a *(HF x0).c))))),(ii (wr ((wr ((Jw x0).a *(HF x0).b)) - (wr ((Jw x0).b *(HF x0).a)))))],151,none⟩] 0,1,[],true⟩,[],.leaf⟩ (sl w4o 44 [] ⟨[0],[],[some [2]],[]⟩ b7 [true] (tt k0 nn)) rfl (by kernel_rfl))) (fun k0=>let d:=C9 (Int.tmod x0 4);(Yh ⟨⟨28,0,true⟩,none,e,none,i,⟨Yy [(2,(.ptr 0 0))],Wf [⟨[f,g,h,(ii d.a),(ii d.b),(ii d.c),(ii (wr ((wr ((Jw x0).b *d.c)) - (wr ((Jw x0).c *d.b))))),(ii (wr ((wr ((Jw x0).c *d.a)) - (wr ((Jw x0).a *d.c))))),(ii (wr ((wr ((Jw x0).a *d.b)) - (wr ((Jw x0).b *d.a)))))],151,none⟩] 0,1,[],true⟩,[],.leaf⟩ (sl w4o 40 [] ⟨[0],[],[some [2]],[]⟩ b7 [false] (tt k0 nn)) rfl (by kernel_rfl))))
theorem u5k (x0:Int) (n:Nat) (vs:zy) (h:Yj (YO x0) n (XB x0)=.ret vs):Ji prog (Zy prog 90) (Zb prog 90 [(.int .u8 x0)] true []) vs:=by have:=Zf (v1k x0) n _ (w3e x0);rwa [h] at this
theorem VG : ∀n:Nat,n<24->Yj (YO (n:Int)) 0 (XB (n:Int))=.ret [ag9 (CE (n:Int))]
 | 0,_=>by kernel_rfl
 | 1,_=>by kernel_rfl
 | 2,_=>by kernel_rfl
 | 3,_=>by kernel_rfl
 | 4,_=>by kernel_rfl
 | 5,_=>by kernel_rfl
 | 6,_=>by kernel_rfl
 | 7,_=>by kernel_rfl
 | 8,_=>by kernel_rfl
 | 9,_=>by kernel_rfl
 | 10,_=>by kernel_rfl
 | 11,_=>by kernel_rfl
 | 12,_=>by kernel_rfl
 | 13,_=>by kernel_rfl
 | 14,_=>by kernel_rfl
 | 15,_=>by kernel_rfl
 | 16,_=>by kernel_rfl
 | 17,_=>by kernel_rfl
 | 18,_=>by kernel_rfl
 | 19,_=>by kernel_rfl
 | 20,_=>by kernel_rfl
 | 21,_=>by kernel_rfl
 | 22,_=>by kernel_rfl
 | 23,_=>by kernel_rfl
 | n+24,h=>absurd h (by omega)
theorem j7f (t:Int) (h:Jk t=true): ∃N,Yj (YO t) N (XB t)=.ret [ag9 (CE t)]:=by
 have ht:0<=t/\t<24:=Ay h;obtain ⟨n,rfl⟩: ∃n:Nat,t=(n:Int):=⟨t.toNat,by omega⟩
 exact ⟨0,VG n (by omega)⟩
def Ph :zy->Option (CA×Bool)
 | [.int .u8 t]=>some (ag9 (CE t),Jk t)
 | _=>none
theorem j8s {S:CC} (hS:Zu prog S):Zu prog (S.with VH Ph):=C3 hS (by kernel_rfl) fun args v h=>by
 unfold Ph at h;split at h
 .rename_i t;simp only [Ae,Ad] at h;obtain ⟨rfl,ho⟩:=h;obtain ⟨N,hN⟩:=j7f t ho;exact ⟨_,_,.cons (.refl _) .nil,rfl,u5k t N _ hN,5,rfl⟩
 .cases h
def VX :CC:=(VY.with VH Ph)
theorem RC :Zu prog VX:=(j8s w4o)
inductive I6 where
def PB (aM:Int) (aR:Int) (aS:Int) (aQ:Int) (aL:Int) (aO:Int) (aP:Int):I6->CJ
 :=nofun
def w2x (aM:Int) (aR:Int) (aS:Int) (aQ:Int) (aL:Int) (aO:Int) (aP:Int):I6->Xk I6
 :=nofun
def TA (aM:Int) (aR:Int) (aS:Int) (aQ:Int) (aL:Int) (aO:Int) (aP:Int):Xk I6:=(bif (Jk aM) then (.ret [(.agg [(.int .i64 (wrap .i64 ((wrap .i64 ((wrap .i64 ((wrap .i64 (aL*(CE aM).a))+(wrap .i64 (aO*(CE aM).d))))+(wrap .i64 (aP*(CE aM).g))))+aR))),(.int .i64 (wrap .i64 ((wrap .i64 ((wrap .i64 ((wrap .i64 (aL*(CE aM).b))+(wrap .i64 (aO*(CE aM).e))))+(wrap .i64 (aP*(CE aM).h))))+aS))),(.int .i64 (wrap .i64 ((wrap .i64 ((wrap .i64 ((wrap .i64 (aL*(CE aM).c))+(wrap .i64 (aO*(CE aM).f))))+(wrap .i64 (aP*(CE aM).i))))+aQ)))])]) else .stuck)
theorem v1h (aM:Int) (aR:Int) (aS:Int) (aQ:Int) (aL:Int) (aO:Int) (aP:Int): ∀s,Xh prog (Zy prog 93) (PB aM aR aS aQ aL aO aP) (PB aM aR aS aQ aL aO aP s) (w2x aM aR aS aQ aL aO aP s)
 :=nofun
theorem w2y (aM:Int) (aR:Int) (aS:Int) (aQ:Int) (aL:Int) (aO:Int) (aP:Int):Xh prog (Zy prog 93) (PB aM aR aS aQ aL aO aP) (Zb prog 93 [(.agg [(.int .u8 aM),(.int .i64 aR),(.int .i64 aS),(.int .i64 aQ)]),(.agg [(.int .i64 aL),(.int .i64 aO),(.int .i64 aP)])] true []) (TA aM aR aS aQ aL aO aP):=(lo fun o0=>(Yh ⟨⟨29,0,true⟩,none,(Zk prog 3 (pn 191) 1),none,(Zy prog 91),⟨Yy [(4,(.ptr 0 0))],Wf [⟨[(ii (wr ((wr ((wr ((wr (aL*(CE aM).a))+(wr (aO*(CE aM).d))))+(wr (aP*(CE aM).g))))+aR))),(ii (wr ((wr ((wr ((wr (aL*(CE aM).b))+(wr (aO*(CE aM).e))))+(wr (aP*(CE aM).h))))+aS))),(ii (wr ((wr ((wr ((wr (aL*(CE aM).c))+(wr (aO*(CE aM).f))))+(wr (aP*(CE aM).i))))+aQ)))],40,none⟩] 0,1,[],true⟩,[],.leaf⟩ (sl RC 31 [] ⟨[2],[],[some [4]],[]⟩ b7 [] (ww o0 nn)) rfl (by kernel_rfl)))
theorem u5h (aM:Int) (aR:Int) (aS:Int) (aQ:Int) (aL:Int) (aO:Int) (aP:Int) (n:Nat) (vs:zy) (h:Yj (w2x aM aR aS aQ aL aO aP) n (TA aM aR aS aQ aL aO aP)=.ret vs):Ji prog (Zy prog 93) (Zb prog 93 [(.agg [(.int .u8 aM),(.int .i64 aR),(.int .i64 aS),(.int .i64 aQ)]),(.agg [(.int .i64 aL),(.int .i64 aO),(.int .i64 aP)])] true []) vs:=by have:=Zf (v1h aM aR aS aQ aL aO aP) n _ (w2y aM aR aS aQ aL aO aP);rwa [h] at this
inductive I5 where
 | h0 (v4:Int)
def Ox (aM:Int) (aR:Int) (aS:Int) (aQ:Int) (cM:Int) (cN:Int) (dK:Int) (dL:Int) (dM:Int):I5->CJ
 | .h0 v4=>⟨⟨13,0,true⟩,none,(Zk prog 92 (pn 37) 0),none,(Zy prog 9),⟨Yy [(1,(.ptr 0 0)),(4,(.int .u8 v4))],Wf [⟨[(ii aM),(ii aR),(ii aS),(ii aQ),(ii cM),(ii cN),(ii dK),(ii dL),(ii dM)],151,none⟩] 0,1,[],true⟩,[],.leaf⟩
def Lx :List (Option zt):=[some [1,4]]
def Ly :List (Option zt):=[]
def MS (aM:Int) (aR:Int) (aS:Int) (aQ:Int) (cM:Int) (cN:Int) (dK:Int) (dL:Int) (dM:Int):I5->Xk I5
 | .h0 v4=>(bif (decide (v4<24)) then (bif (Jk v4) then (bif ((((CE v4).a == aM)&&(((CE v4).b == aR)&&(((CE v4).c == aS)&&true)))&&((((CE v4).d == aQ)&&(((CE v4).e == cM)&&(((CE v4).f == cN)&&true)))&&((((CE v4).g == dK)&&(((CE v4).h == dL)&&(((CE v4).i == dM)&&true)))&&true))) then (.ret [(.int .u8 v4)]) else (.to (.h0 (wrap IntKind.u8 (v4+1))))) else .stuck) else (.ret [(.int .u8 0)]))
def x4c (aM:Int) (aR:Int) (aS:Int) (aQ:Int) (cM:Int) (cN:Int) (dK:Int) (dL:Int) (dM:Int):Xk I5:=(.to (.h0 0))
theorem v1e (aM:Int) (aR:Int) (aS:Int) (aQ:Int) (cM:Int) (cN:Int) (dK:Int) (dL:Int) (dM:Int): ∀s,Xh prog (Zy prog 92) (Ox aM aR aS aQ cM cN dK dL dM) (Ox aM aR aS aQ cM cN dK dL dM s) (MS aM aR aS aQ cM cN dK dL dM s)
 | .h0 v4=>(lb (fun k0=>(lo fun aK=>let a:=ww aK (tt k0 nn);(lb (fun k1=>(lr 13 92 (pn 9829) 1 9 [(2,(.int .u8 v4))] (sl RC 22 [] (b8 [2]) b7 (bl 2 3) (tt k1 a)))) (fun k1=>(sl RC 24 [] ⟨[0],[],Lx,Ly⟩ b7 (bl 2 1) (tt k1 a)))))) (fun k0=>(lr 13 3 (pn 191) 1 9 [(2,(.int .u8 0))] (sl RC 11 [] (b8 [2]) b7 [false] (tt k0 nn)))))
theorem w2u (aM:Int) (aR:Int) (aS:Int) (aQ:Int) (cM:Int) (cN:Int) (dK:Int) (dL:Int) (dM:Int):Xh prog (Zy prog 92) (Ox aM aR aS aQ cM cN dK dL dM) (Zb prog 92 [(.agg [(.int .i64 aM),(.int .i64 aR),(.int .i64 aS),(.int .i64 aQ),(.int .i64 cM),(.int .i64 cN),(.int .i64 dK),(.int .i64 dL),(.int .i64 dM)])] true []) (x4c aM aR aS aQ cM cN dK dL dM):=(sl RC 12 [] ⟨[0],[],Lx,Ly⟩ b7 [] nn)
theorem u5e (aM:Int) (aR:Int) (aS:Int) (aQ:Int) (cM:Int) (cN:Int) (dK:Int) (dL:Int) (dM:Int) (n:Nat) (vs:zy) (h:Yj (MS aM aR aS aQ cM cN dK dL dM) n (x4c aM aR aS aQ cM cN dK dL dM)=.ret vs):Ji prog (Zy prog 92) (Zb prog 92 [(.agg [(.int .i64 aM),(.int .i64 aR),(.int .i64 aS),(.int .i64 aQ),(.int .i64 cM),(.int .i64 cN),(.int .i64 dK),(.int .i64 dL),(.int .i64 dM)])] true []) vs:=by have:=Zf (v1e aM aR aS aQ cM cN dK dL dM) n _ (w2u aM aR aS aQ cM cN dK dL dM);rwa [h] at this
def w3 (p q r:Int):Int:=wrap .i64 (p+q+r)
def w4 (p q r s:Int):Int:=wrap .i64 (p+q+r+s)
theorem wll (p q r:Int):wrap .i64 (wrap .i64 (wrap .i64 p+wrap .i64 q)+wrap .i64 r)=w3 p q r:=by unfold w3;simp only [JY];omega
theorem w3s (p q r s:Int):wrap .i64 (w3 p q r+s)=w4 p q r s:=by unfold w3 w4;simp only [JY];omega
def Cm (t a b c x y z:Int):R3:=⟨w4 (x*(CE t).a) (y*(CE t).d) (z*(CE t).g) a,w4 (x*(CE t).b) (y*(CE t).e) (z*(CE t).h) b,w4 (x*(CE t).c) (y*(CE t).f) (z*(CE t).i) c⟩
def QT (t a b c x y z:Int):Bool:=Jk t
theorem j7c (t a b c x y z:Int) (h:QT t a b c x y z=true): ∃N,Yj (w2x t a b c x y z) N (TA t a b c x y z)=.ret [VS (Cm t a b c x y z)]:=⟨0,by
 show TA t a b c x y z=_;unfold TA Cm VS;rw [Yk (show Jk t=true from h)];simp only [wll,w3s]⟩
def If :zy->Option (CA×Bool)
 | [.agg [.int .u8 t,.int .i64 a,.int .i64 b,.int .i64 c],.agg [.int .i64 x,.int .i64 y,.int .i64 z]]=>some (VS (Cm t a b c x y z),QT t a b c x y z)
 | _=>none
theorem v8q {S:CC} (hS:Zu prog S):Zu prog (S.with PA If):=C3 hS (by kernel_rfl) fun args v h=>by
 unfold If at h;split at h
 .rename_i t a b c x y z;simp only [Ae,Ad] at h;obtain ⟨rfl,ho⟩:=h;obtain ⟨N,hN⟩:=j7c t a b c x y z ho;exact ⟨_,_,.cons (.refl _) (.cons (.refl _) .nil),rfl,u5h t a b c x y z N _ hN,5,rfl⟩
 .cases h
def eq9 (v:R9) (a b c d e f g h i:Int):Bool:=((v.a == a)&&((v.b == b)&&((v.c == c)&&true)))&&(((v.d == d)&&((v.e == e)&&((v.f == f)&&true)))&&(((v.g == g)&&((v.h == h)&&((v.i == i)&&true)))&&true))
def G9 (dd:Int):Nat->Nat->Int->Int->Int->Int->Int->Int->Int->Int->Int->Int
 | 0,_,_,_,_,_,_,_,_,_,_=>dd
 | n+1,k,a,b,c,d,e,f,g,h,i=>bif eq9 (CE (k:Int)) a b c d e f g h i then (k:Int) else G9 dd n (k+1) a b c d e f g h i
def VC (a b c d e f g h i:Int):Int:=G9 0 24 0 a b c d e f g h i
def rtV (a b c d e f g h i:Int):Int:=G9 (-1) 24 0 a b c d e f g h i
theorem j1a (a b c d e f g h i:Int): ∀(n k:Nat),k+n=24-> ∃N,Yj (MS a b c d e f g h i) N (.to (.h0 (k:Int)))=.ret [.int .u8 (G9 0 n k a b c d e f g h i)]
 | 0,k,hk=>⟨1,by
  rw [Zx];unfold MS;simp only [];rw [Yc (by omega)];rfl⟩
 | n+1,k,hk=>by
  have w2:wrap .u8 ((k:Int)+1)=((k+1:Nat):Int):=wu8 _ (by omega);have ho:Jk (k:Int)=true:=Af (by omega);have es:MS a b c d e f g h i (.h0 (k:Int))=bif eq9 (CE (k:Int)) a b c d e f g h i then .ret [.int .u8 (k:Int)] else .to (.h0 ((k+1:Nat):Int)):=by unfold MS eq9;simp only [w2];rw [Zt (by omega),Ab,Yk ho]
  rw [G9];cases hq:eq9 (CE (k:Int)) a b c d e f g h i with
  | true=>exact ⟨1,by rw [Zx,es,hq];rfl⟩
  | false=>obtain ⟨N,hN⟩:=j1a a b c d e f g h i n (k+1) (by omega);exact ⟨N+1,by rw [Zx,es,hq,Aa,Aa,hN]⟩
theorem j6z (a b c d e f g h i:Int) (_:True): ∃N,Yj (MS a b c d e f g h i) N (x4c a b c d e f g h i)=.ret [.int .u8 (VC a b c d e f g h i)]:=j1a a b c d e f g h i 24 0 (by omega)
def Pf :zy->Option (CA×Bool)
 | [.agg [.int .i64 a,.int .i64 b,.int .i64 c,.int .i64 d,.int .i64 e,.int .i64 f,.int .i64 g,.int .i64 h,.int .i64 i]]=>some (.int .u8 (VC a b c d e f g h i),true)
 | _=>none
theorem j8p {S:CC} (hS:Zu prog S):Zu prog (S.with Ul Pf):=C3 hS (by kernel_rfl) fun args v hx=>by
 unfold Pf at hx;split at hx
 .rename_i a b c d e f g h i;simp only [Ae,Ad] at hx;obtain ⟨rfl,ho⟩:=hx;obtain ⟨N,hN⟩:=j6z a b c d e f g h i ho;exact ⟨_,_,.cons (.refl _) .nil,rfl,u5e a b c d e f g h i N _ hN,5,rfl⟩
 .cases hx
def VW :CC:=((VX.with PA If).with Ul Pf)
theorem v9w :Zu prog VW:=(j8p (v8q RC))
inductive I2 where
def Ov (aM:Int) (aR:Int) (aS:Int) (aQ:Int) (aL:Int) (aO:Int) (aP:Int) (aT:Int):I2->CJ
 :=nofun
def w2o (aM:Int) (aR:Int) (aS:Int) (aQ:Int) (aL:Int) (aO:Int) (aP:Int) (aT:Int):I2->Xk I2
 :=nofun
def TB (aM:Int) (aR:Int) (aS:Int) (aQ:Int) (aL:Int) (aO:Int) (aP:Int) (aT:Int):Xk I2:=(bif (Jk aM) then (bif (Jk aL) then (bif (QT aL aO aP aT aR aS aQ) then (.ret [(.agg [(.int .u8 (VC (wrap .i64 ((wrap .i64 ((wrap .i64 ((CE aM).a *(CE aL).a))+(wrap .i64 ((CE aM).b *(CE aL).d))))+(wrap .i64 ((CE aM).c *(CE aL).g)))) (wrap .i64 ((wrap .i64 ((wrap .i64 ((CE aM).a *(CE aL).b))+(wrap .i64 ((CE aM).b *(CE aL).e))))+(wrap .i64 ((CE aM).c *(CE aL).h)))) (wrap .i64 ((wrap .i64 ((wrap .i64 ((CE aM).a *(CE aL).c))+(wrap .i64 ((CE aM).b *(CE aL).f))))+(wrap .i64 ((CE aM).c *(CE aL).i)))) (wrap .i64 ((wrap .i64 ((wrap .i64 ((CE aM).d *(CE aL).a))+(wrap .i64 ((CE aM).e *(CE aL).d))))+(wrap .i64 ((CE aM).f *(CE aL).g)))) (wrap .i64 ((wrap .i64 ((wrap .i64 ((CE aM).d *(CE aL).b))+(wrap .i64 ((CE aM).e *(CE aL).e))))+(wrap .i64 ((CE aM).f *(CE aL).h)))) (wrap .i64 ((wrap .i64 ((wrap .i64 ((CE aM).d *(CE aL).c))+(wrap .i64 ((CE aM).e *(CE aL).f))))+(wrap .i64 ((CE aM).f *(CE aL).i)))) (wrap .i64 ((wrap .i64 ((wrap .i64 ((CE aM).g *(CE aL).a))+(wrap .i64 ((CE aM).h *(CE aL).d))))+(wrap .i64 ((CE aM).i *(CE aL).g)))) (wrap .i64 ((wrap .i64 ((wrap .i64 ((CE aM).g *(CE aL).b))+(wrap .i64 ((CE aM).h *(CE aL).e))))+(wrap .i64 ((CE aM).i *(CE aL).h)))) (wrap .i64 ((wrap .i64 ((wrap .i64 ((CE aM).g *(CE aL).c))+(wrap .i64 ((CE aM).h *(CE aL).f))))+(wrap .i64 ((CE aM).i *(CE aL).i)))))),(.int .i64 (Cm aL aO aP aT aR aS aQ).a),(.int .i64 (Cm aL aO aP aT aR aS aQ).b),(.int .i64 (Cm aL aO aP aT aR aS aQ).c)])]) else .stuck) else .stuck) else .stuck)
theorem v1b (aM:Int) (aR:Int) (aS:Int) (aQ:Int) (aL:Int) (aO:Int) (aP:Int) (aT:Int): ∀s,Xh prog (Zy prog 57) (Ov aM aR aS aQ aL aO aP aT) (Ov aM aR aS aQ aL aO aP aT s) (w2o aM aR aS aQ aL aO aP aT s)
 :=nofun
theorem w2p (aM:Int) (aR:Int) (aS:Int) (aQ:Int) (aL:Int) (aO:Int) (aP:Int) (aT:Int):Xh prog (Zy prog 57) (Ov aM aR aS aQ aL aO aP aT) (Zb prog 57 [(.agg [(.int .u8 aM),(.int .i64 aR),(.int .i64 aS),(.int .i64 aQ)]),(.agg [(.int .u8 aL),(.int .i64 aO),(.int .i64 aP),(.int .i64 aT)])] true []) (TB aM aR aS aQ aL aO aP aT):=(lo fun o0=>(lo fun o1=>(lo fun o2=>let j:=Cm aL aO aP aT aR aS aQ;(Yh ⟨⟨32,0,true⟩,none,(Zk prog 3 (pn 191) 1),none,(Zy prog 57),⟨Yy [(4,(.ptr 0 0))],Wf [⟨[(.int .u8 (VC (wr ((wr ((wr ((CE aM).a *(CE aL).a))+(wr ((CE aM).b *(CE aL).d))))+(wr ((CE aM).c *(CE aL).g)))) (wr ((wr ((wr ((CE aM).a *(CE aL).b))+(wr ((CE aM).b *(CE aL).e))))+(wr ((CE aM).c *(CE aL).h)))) (wr ((wr ((wr ((CE aM).a *(CE aL).c))+(wr ((CE aM).b *(CE aL).f))))+(wr ((CE aM).c *(CE aL).i)))) (wr ((wr ((wr ((CE aM).d *(CE aL).a))+(wr ((CE aM).e *(CE aL).d))))+(wr ((CE aM).f *(CE aL).g)))) (wr ((wr ((wr ((CE aM).d *(CE aL).b))+(wr ((CE aM).e *(CE aL).e))))+(wr ((CE aM).f *(CE aL).h)))) (wr ((wr ((wr ((CE aM).d *(CE aL).c))+(wr ((CE aM).e *(CE aL).f))))+(wr ((CE aM).f *(CE aL).i)))) (wr ((wr ((wr ((CE aM).g *(CE aL).a))+(wr ((CE aM).h *(CE aL).d))))+(wr ((CE aM).i *(CE aL).g)))) (wr ((wr ((wr ((CE aM).g *(CE aL).b))+(wr ((CE aM).h *(CE aL).e))))+(wr ((CE aM).i *(CE aL).h)))) (wr ((wr ((wr ((CE aM).g *(CE aL).c))+(wr ((CE aM).h *(CE aL).f))))+(wr ((CE aM).i *(CE aL).i)))))),(ii j.a),(ii j.b),(ii j.c)],42,none⟩] 0,1,[],true⟩,[],.leaf⟩ (sl v9w 87 [] ⟨[2],[],[some [4]],[]⟩ b7 (bl 16 14169) (ww o2 (ww o1 (ww o0 nn)))) rfl (by kernel_rfl)))))
theorem u5b (aM:Int) (aR:Int) (aS:Int) (aQ:Int) (aL:Int) (aO:Int) (aP:Int) (aT:Int) (n:Nat) (vs:zy) (h:Yj (w2o aM aR aS aQ aL aO aP aT) n (TB aM aR aS aQ aL aO aP aT)=.ret vs):Ji prog (Zy prog 57) (Zb prog 57 [(.agg [(.int .u8 aM),(.int .i64 aR),(.int .i64 aS),(.int .i64 aQ)]),(.agg [(.int .u8 aL),(.int .i64 aO),(.int .i64 aP),(.int .i64 aT)])] true []) vs:=by have:=Zf (v1b aM aR aS aQ aL aO aP aT) n _ (w2p aM aR aS aQ aL aO aP aT);rwa [h] at this
def k9 (s t:Int):R9:=⟨w3 ((CE s).a *(CE t).a) ((CE s).b *(CE t).d) ((CE s).c *(CE t).g),w3 ((CE s).a *(CE t).b) ((CE s).b *(CE t).e) ((CE s).c *(CE t).h),w3 ((CE s).a *(CE t).c) ((CE s).b *(CE t).f) ((CE s).c *(CE t).i),w3 ((CE s).d *(CE t).a) ((CE s).e *(CE t).d) ((CE s).f *(CE t).g),w3 ((CE s).d *(CE t).b) ((CE s).e *(CE t).e) ((CE s).f *(CE t).h),w3 ((CE s).d *(CE t).c) ((CE s).e *(CE t).f) ((CE s).f *(CE t).i),w3 ((CE s).g *(CE t).a) ((CE s).h *(CE t).d) ((CE s).i *(CE t).g),w3 ((CE s).g *(CE t).b) ((CE s).h *(CE t).e) ((CE s).i *(CE t).h),w3 ((CE s).g *(CE t).c) ((CE s).h *(CE t).f) ((CE s).i *(CE t).i)⟩
def DP (v:R9):Int:=VC v.a v.b v.c v.d v.e v.f v.g v.h v.i
def rt9 (v:R9):Int:=rtV v.a v.b v.c v.d v.e v.f v.g v.h v.i
def Cq (s a b c t x y z:Int):R4:=⟨DP (k9 s t),(Cm t x y z a b c).a,(Cm t x y z a b c).b,(Cm t x y z a b c).c⟩
def QU (s a b c t x y z:Int):Bool:=Jk s&&Jk t
def Io (v:R4):CA:=.agg [.int .u8 v.a,.int .i64 v.b,.int .i64 v.c,.int .i64 v.d]
theorem j6w (s a b c t x y z:Int) (h:QU s a b c t x y z=true): ∃N,Yj (w2o s a b c t x y z) N (TB s a b c t x y z)=.ret [Io (Cq s a b c t x y z)]:=⟨0,by
 unfold QU at h;rw [Ac] at h;show TB s a b c t x y z=_;unfold TB;rw [Yk h.1,Yk h.2,Yk (show QT t x y z a b c=true from h.2)];simp only [wll];rfl⟩
def Pd :zy->Option (CA×Bool)
 | [.agg [.int .u8 s,.int .i64 a,.int .i64 b,.int .i64 c],.agg [.int .u8 t,.int .i64 x,.int .i64 y,.int .i64 z]]=>some (Io (Cq s a b c t x y z),QU s a b c t x y z)
 | _=>none
theorem j8n {S:CC} (hS:Zu prog S):Zu prog (S.with U9 Pd):=C3 hS (by kernel_rfl) fun args v h=>by
 unfold Pd at h;split at h
 .rename_i s a b c t x y z;simp only [Ae,Ad] at h;obtain ⟨rfl,ho⟩:=h;obtain ⟨N,hN⟩:=j6w s a b c t x y z ho;exact ⟨_,_,.cons (.refl _) (.cons (.refl _) .nil),rfl,u5b s a b c t x y z N _ hN,5,rfl⟩
 .cases h
def VV :CC:=(VW.with U9 Pd)
theorem Sb :Zu prog VV:=(j8n v9w)
theorem u0j :((List.range 24).all fun s=>(List.range 24).all fun t=>rt9 (k9 (s:Int) (t:Int)) == DP (k9 (s:Int) (t:Int))&&(decide (0<=DP (k9 (s:Int) (t:Int)))&&decide (DP (k9 (s:Int) (t:Int))<24)))=true:=by kernel_rfl
theorem v3e {s t:Int} (hs:Jk s=true) (ht:Jk t=true):rt9 (k9 s t)=DP (k9 s t)/\0<=DP (k9 s t)/\DP (k9 s t)<24:=by
 have hs:0<=s/\s<24:=Ay hs;have ht:0<=t/\t<24:=Ay ht;obtain ⟨p,rfl⟩: ∃n:Nat,s=(n:Int):=⟨s.toNat,by omega⟩
 obtain ⟨q,rfl⟩: ∃n:Nat,t=(n:Int):=⟨t.toNat,by omega⟩
 have:=As.1 (As.1 u0j p (AL.2 (by omega))) q (AL.2 (by omega));rw [Ac,Ac,Ao,Ao,Bi] at this;exact this
def Jr (s a b c t x y z:Int):Int:=bif CT s a b c != 0 then CT s a b c else bif CT t x y z != 0 then CT t x y z else bif CT (Cq s a b c t x y z).a (Cq s a b c t x y z).b (Cq s a b c t x y z).c (Cq s a b c t x y z).d != 0 then 16 else 0
def Uq (s a b c t x y z:Int):R4:=bif Jr s a b c t x y z != 0 then ⟨0,0,0,0⟩ else Cq s a b c t x y z
def Jq (s a b c t x y z:Int):Bool:=decide (0<=s)&&decide (0<=t)
theorem Sh {t x y z:Int} (h:(CT t x y z != 0)=false) (h0:0<=t):Jk t=true:=by
 unfold CT at h;by_cases g:24<=t
 .rw [Af g] at h;cases h
 .exact Af (by omega)
def Ib :zy->Option (CA×Bool)
 | [.agg [.int .u8 s,.int .i64 a,.int .i64 b,.int .i64 c],.agg [.int .u8 t,.int .i64 x,.int .i64 y,.int .i64 z]]=>some (.tup [Io (Uq s a b c t x y z),.int .i64 (Jr s a b c t x y z)],Jq s a b c t x y z)
 | _=>none
inductive I1 where
def Ou (aM:Int) (aR:Int) (aS:Int) (aQ:Int) (aL:Int) (aO:Int) (aP:Int) (aT:Int):I1->CJ
 :=nofun
def w2m (aM:Int) (aR:Int) (aS:Int) (aQ:Int) (aL:Int) (aO:Int) (aP:Int) (aT:Int):I1->Xk I1
 :=nofun
def TC (aM:Int) (aR:Int) (aS:Int) (aQ:Int) (aL:Int) (aO:Int) (aP:Int) (aT:Int):Xk I1:=(bif ((CT aM aR aS aQ) != 0) then (.ret [(.agg [(.int .u8 0),(.int .i64 0),(.int .i64 0),(.int .i64 0)]),(.int .i64 (CT aM aR aS aQ))]) else (bif ((CT aL aO aP aT) != 0) then (.ret [(.agg [(.int .u8 0),(.int .i64 0),(.int .i64 0),(.int .i64 0)]),(.int .i64 (CT aL aO aP aT))]) else (bif (QU aM aR aS aQ aL aO aP aT) then (bif ((CT (Cq aM aR aS aQ aL aO aP aT).a (Cq aM aR aS aQ aL aO aP aT).b (Cq aM aR aS aQ aL aO aP aT).c (Cq aM aR aS aQ aL aO aP aT).d) != 0) then (.ret [(.agg [(.int .u8 0),(.int .i64 0),(.int .i64 0),(.int .i64 0)]),(.int .i64 16)]) else (.ret [(.agg [(.int .u8 (Cq aM aR aS aQ aL aO aP aT).a),(.int .i64 (Cq aM aR aS aQ aL aO aP aT).b),(.int .i64 (Cq aM aR aS aQ aL aO aP aT).c),(.int .i64 (Cq aM aR aS aQ aL aO aP aT).d)]),(.int .i64 0)])) else .stuck)))
theorem v1a (aM:Int) (aR:Int) (aS:Int) (aQ:Int) (aL:Int) (aO:Int) (aP:Int) (aT:Int): ∀s,Xh prog (Zy prog 20) (Ou aM aR aS aQ aL aO aP aT) (Ou aM aR aS aQ aL aO aP aT s) (w2m aM aR aS aQ aL aO aP aT s)
 :=nofun
theorem w2n (aM:Int) (aR:Int) (aS:Int) (aQ:Int) (aL:Int) (aO:Int) (aP:Int) (aT:Int):Xh prog (Zy prog 20) (Ou aM aR aS aQ aL aO aP aT) (Zb prog 20 [(.agg [(.int .u8 aM),(.int .i64 aR),(.int .i64 aS),(.int .i64 aQ)]),(.agg [(.int .u8 aL),(.int .i64 aO),(.int .i64 aP),(.int .i64 aT)])] true []) (TC aM aR aS aQ aL aO aP aT):=let f:=Zy prog 19;(lb (fun k0=>(Yh ⟨⟨29,0,true⟩,none,(Zk prog 20 (pn 77) 1),none,f,⟨Yy [(4,(.ptr 0 0)),(5,(ii (CT aM aR aS aQ)))],Wf [⟨[(.int .u8 0),(ii 0),(ii 0),(ii 0)],42,none⟩] 0,1,[],true⟩,[],.leaf⟩ (sl Sb 27 [] ⟨[2],[],[some [4,5]],[]⟩ b7 [true] (tt k0 nn)) rfl (by kernel_rfl))) (fun k0=>(lb (fun k1=>(Yh ⟨⟨29,0,true⟩,none,(Zk prog 20 (pn 155) 1),none,f,⟨Yy [(4,(.ptr 0 0)),(5,(ii (CT aL aO aP aT)))],Wf [⟨[(.int .u8 0),(ii 0),(ii 0),(ii 0)],42,none⟩] 0,1,[],true⟩,[],.leaf⟩ (sl Sb 41 [] ⟨[2],[],[some [4,5]],[]⟩ b7 (bl 2 2) (tt k1 (tt k0 nn))) rfl (by kernel_rfl))) (fun k1=>(lo fun bS=>let g:=ww bS (tt k1 (tt k0 nn));(lb (fun k2=>(Yh ⟨⟨29,0,true⟩,none,(Zk prog 20 (pn 303) 1),none,f,⟨Yy [(4,(.ptr 0 0)),(5,(ii 16))],Wf [⟨[(.int .u8 0),(ii 0),(ii 0),(ii 0)],42,none⟩] 0,1,[],true⟩,[],.leaf⟩ (sl Sb 57 [] ⟨[2],[],[some [4,5]],[]⟩ b7 (bl 3 4) (tt k2 g)) rfl (by kernel_rfl))) (fun k2=>let e:=Cq aM aR aS aQ aL aO aP aT;(Yh ⟨⟨29,0,true⟩,none,(Zk prog 3 (pn 191) 1),none,f,⟨Yy [(4,(.ptr 0 0)),(5,(ii 0))],Wf [⟨[(.int .u8 e.a),(ii e.b),(ii e.c),(ii e.d)],42,none⟩] 0,1,[],true⟩,[],.leaf⟩ (sl Sb 58 [] ⟨[2],[],[some [4,5]],[]⟩ b7 (bl 3 0) (tt k2 g)) rfl (by kernel_rfl)))))))))
theorem u5a (aM:Int) (aR:Int) (aS:Int) (aQ:Int) (aL:Int) (aO:Int) (aP:Int) (aT:Int) (n:Nat) (vs:zy) (h:Yj (w2m aM aR aS aQ aL aO aP aT) n (TC aM aR aS aQ aL aO aP aT)=.ret vs):Ji prog (Zy prog 20) (Zb prog 20 [(.agg [(.int .u8 aM),(.int .i64 aR),(.int .i64 aS),(.int .i64 aQ)]),(.agg [(.int .u8 aL),(.int .i64 aO),(.int .i64 aP),(.int .i64 aT)])] true []) vs:=by have:=Zf (v1a aM aR aS aQ aL aO aP aT) n _ (w2n aM aR aS aQ aL aO aP aT);rwa [h] at this
theorem j6v (s a b c t x y z:Int) (h:Jq s a b c t x y z=true): ∃N,Yj (w2m s a b c t x y z) N (TC s a b c t x y z)=.ret [Io (Uq s a b c t x y z),.int .i64 (Jr s a b c t x y z)]:=⟨0,by
 unfold Jq at h;rw [Ac,Ao,Ao] at h;show TC s a b c t x y z=_;unfold TC Uq;unfold Jr;cases g1:CT s a b c != 0 with
 | true=>simp only [Ab,g1];rfl
 | false=>
  cases g2:CT t x y z != 0 with
  | true=>simp only [Ab,Aa,g2];rfl
  | false=>
   rw [Aa,Aa,Yk (show QU s a b c t x y z=true by unfold QU;rw [Sh g1 h.1,Sh g2 h.2];rfl)];simp only [Aa];cases CT (Cq s a b c t x y z).a (Cq s a b c t x y z).b (Cq s a b c t x y z).c (Cq s a b c t x y z).d != 0 <;> rfl⟩
theorem v8p {S:CC} (hS:Zu prog S):Zu prog (S.with Ot Ib):=C3 hS (by kernel_rfl) fun args v h=>by
 unfold Ib at h;split at h
 .rename_i s a b c t x y z;simp only [Ae,Ad] at h;obtain ⟨rfl,ho⟩:=h;obtain ⟨N,hN⟩:=j6v s a b c t x y z ho;exact ⟨_,_,.cons (.refl _) (.cons (.refl _) .nil),rfl,u5a s a b c t x y z N _ hN,5,rfl⟩
 .cases h
def QK :CC:=(VV.with Ot Ib)
theorem w4n :Zu prog QK:=(v8p Sb)
def z4 :R4:=⟨0,0,0,0⟩
def EJ (x:CD):R4:=⟨x.t,x.x,x.y,x.z⟩
def Oj (f g:R4):R4×Int:=(Uq f.a f.b f.c f.d g.a g.b g.c g.d,Jr f.a f.b f.c f.d g.a g.b g.c g.d)
def Gy (l:zr):Nat->Int->R4×Int
 | 0,_=>(z4,0)
 | k+1,i=>bif decide ((rd l i.toNat).a <0) then (EJ (rd l i.toNat),0) else bif (Gy l k (rd l i.toNat).a).2 != 0 then (z4,(Gy l k (rd l i.toNat).a).2) else Oj (EJ (rd l i.toNat)) (Gy l k (rd l i.toNat).a).1
def Qq (l:zr) (i:Int):R4×Int:=Gy l (i.toNat+1) i
theorem x6i {l:zr} {t:Nat} (ht:Ej l t=true): ∀(k m j:Nat),j<=t->j<k->j<m->Gy l k (j:Int)=Gy l m (j:Int)
 | 0,m,j,h0,h1,h2=>absurd h1 (AD _)
 | k+1,0,j,h0,h1,h2=>absurd h2 (AD _)
 | k+1,m+1,j,h0,h1,h2=>by
  have hb:=Ke ht h0;unfold Gy;rw [Zj];by_cases h:(rd l j).a <0
  .rw [Af h];rfl
  .obtain ⟨p,hp⟩: ∃p:Nat,(rd l j).a =(p:Int):=⟨(rd l j).a.toNat,by omega⟩
   rw [hp,x6i ht k m p (by omega) (by omega) (by omega)]
theorem Rx {l:zr} {t j:Nat} (ht:Ej l t=true) (hj:j<=t):Qq l (j:Int)=bif decide ((rd l j).a <0) then (EJ (rd l j),0) else bif (Qq l (rd l j).a).2 != 0 then (z4,(Qq l (rd l j).a).2) else Oj (EJ (rd l j)) (Qq l (rd l j).a).1:=by
 have hb:=Ke ht hj;have e:Qq l (j:Int)=Gy l (j+1) (j:Int):=by unfold Qq;rw [Zj]
 rw [e,Gy,Zj];by_cases h:(rd l j).a <0
 .rw [Af h];rfl
 .obtain ⟨p,hp⟩: ∃p:Nat,(rd l j).a =(p:Int):=⟨(rd l j).a.toNat,by omega⟩
  have e2:Qq l (p:Int)=Gy l j (p:Int):=by unfold Qq;rw [Zj];exact x6i ht _ _ p (by omega) (by omega) (by omega)
  rw [hp,e2]
def Wh (l:zr) (i:Int):R4:=(Qq l i).1
def JL (l:zr) (i:Int):Int:=(Qq l i).2
def Vb (l:zr) (i:Int):Bool:=decide (0<=i/\i<(l.length:Int))&&(decide (l.length<=1000)&&(Ej l i.toNat&&l.all fun x=>decide (0<=x.t)))
def Q7 (q:Nat) (l:zr) (i:Int):Bool:=decide (i<(q:Int))&&Vb l i
theorem RK {l:zr} (h:(l.all fun x=>decide (0<=x.t))=true) (j:Nat):0<=(rd l j).t :=by
 by_cases hj:j<l.length
 .rw [Xm hj];exact Ay (As.1 h _ (AU hj))
 .have:rd l j=Xp.d:=by simp [rd,List.getD,List.getElem?_eq_none (show l.length<=j by omega)]
  rw [this];exact A3 0
theorem v2v {f g:R4} (hf:0<=f.a) (hg:0<=g.a):0<=(Oj f g).1.a :=by
 unfold Oj;simp only [];unfold Uq;cases h:Jr f.a f.b f.c f.d g.a g.b g.c g.d != 0 with
 | true=>exact A3 0
 | false=>
  unfold Jr at h;cases g1:CT f.a f.b f.c f.d != 0 with
  | true=>rw [g1,Ab,g1] at h;cases h
  | false=>
   rw [g1,Aa] at h;cases g2:CT g.a g.b g.c g.d != 0 with
   | true=>rw [g2,Ab,g2] at h;cases h
   | false=>exact (v3e (Sh g1 hf) (Sh g2 hg)).2.1
theorem Q6 {l:zr} {t:Nat} (ht:Ej l t=true) (hl:(l.all fun x=>decide (0<=x.t))=true): ∀(m j:Nat),j<m->j<=t->0<=(Qq l (j:Int)).1.a
 | 0,j,hm,_=>absurd hm (AD _)
 | m+1,j,hm,hj=>by
  have hb:=Ke ht hj;rw [Rx ht hj];by_cases h:(rd l j).a <0
  .rw [Af h];exact RK hl j
  .obtain ⟨p,hp⟩: ∃p:Nat,(rd l j).a =(p:Int):=⟨(rd l j).a.toNat,by omega⟩
   rw [An h,Aa,hp];cases (Qq l (p:Int)).2 != 0 with
   | true=>exact A3 0
   | false=>exact v2v (RK hl j) (Q6 ht hl m p (by omega) (by omega))
def P3 (q:Nat):zy->Option (CA×Bool)
 | [a0,.int .i64 i]=>match C4 CD a0 with
  | some (L,g,n)=>some (.tup [Io (Wh L i),.int .i64 (JL L i)],CU CD n g&&Q7 q L i)
  | _=>none
 | _=>none
def Tpl (q:Nat):CC:=QK.with IN (P3 q)
abbrev x3k (l0:zr) (x1:Int):=(Uq (rd l0 (tn x1)).t (rd l0 (tn x1)).x (rd l0 (tn x1)).y (rd l0 (tn x1)).z (Wh (CB l0) (rd l0 (tn x1)).a).a (Wh (CB l0) (rd l0 (tn x1)).a).b (Wh (CB l0) (rd l0 (tn x1)).a).c (Wh (CB l0) (rd l0 (tn x1)).a).d)
inductive IM where
def OD (l0:zr) (x1:Int):IM->CJ
 :=nofun
def w1c (l0:zr) (x1:Int):IM->Xk IM
 :=nofun
def Ry (q:Nat) (l0:zr) (x1:Int):Xk IM:=(bif ((decide (0<=x1/\x1<(l0.length:Int)))&&true) then (bif (decide ((rd l0 x1.toNat).a <0)) then (.ret [(.agg [(.int .u8 (rd l0 x1.toNat).t),(.int .i64 (rd l0 x1.toNat).x),(.int .i64 (rd l0 x1.toNat).y),(.int .i64 (rd l0 x1.toNat).z)]),(.int .i64 0)]) else (bif (Q7 q (CB l0) (rd l0 x1.toNat).a) then (bif ((JL (CB l0) (rd l0 x1.toNat).a) != 0) then (.ret [(.agg [(.int .u8 0),(.int .i64 0),(.int .i64 0),(.int .i64 0)]),(.int .i64 (JL (CB l0) (rd l0 x1.toNat).a))]) else (bif (Jq (rd l0 x1.toNat).t (rd l0 x1.toNat).x (rd l0 x1.toNat).y (rd l0 x1.toNat).z (Wh (CB l0) (rd l0 x1.toNat).a).a (Wh (CB l0) (rd l0 x1.toNat).a).b (Wh (CB l0) (rd l0 x1.toNat).a).c (Wh (CB l0) (rd l0 x1.toNat).a).d) then (.ret [(.agg [(.int .u8 (Uq (rd l0 x1.toNat).t (rd l0 x1.toNat).x (rd l0 x1.toNat).y (rd l0 x1.toNat).z (Wh (CB l0) (rd l0 x1.toNat).a).a (Wh (CB l0) (rd l0 x1.toNat).a).b (Wh (CB l0) (rd l0 x1.toNat).a).c (Wh (CB l0) (rd l0 x1.toNat).a).d).a),(.int .i64 (Uq (rd l0 x1.toNat).t (rd l0 x1.toNat).x (rd l0 x1.toNat).y (rd l0 x1.toNat).z (Wh (CB l0) (rd l0 x1.toNat).a).a (Wh (CB l0) (rd l0 x1.toNat).a).b (Wh (CB l0) (rd l0 x1.toNat).a).c (Wh (CB l0) (rd l0 x1.toNat).a).d).b),(.int .i64 (Uq (rd l0 x1.toNat).t (rd l0 x1.toNat).x (rd l0 x1.toNat).y (rd l0 x1.toNat).z (Wh (CB l0) (rd l0 x1.toNat).a).a (Wh (CB l0) (rd l0 x1.toNat).a).b (Wh (CB l0) (rd l0 x1.toNat).a).c (Wh (CB l0) (rd l0 x1.toNat).a).d).c),(.int .i64 (Uq (rd l0 x1.toNat).t (rd l0 x1.toNat).x (rd l0 x1.toNat).y (rd l0 x1.toNat).z (Wh (CB l0) (rd l0 x1.toNat).a).a (Wh (CB l0) (rd l0 x1.toNat).a).b (Wh (CB l0) (rd l0 x1.toNat).a).c (Wh (CB l0) (rd l0 x1.toNat).a).d).d)]),(.int .i64 (Jr (rd l0 x1.toNat).t (rd l0 x1.toNat).x (rd l0 x1.toNat).y (rd l0 x1.toNat).z (Wh (CB l0) (rd l0 x1.toNat).a).a (Wh (CB l0) (rd l0 x1.toNat).a).b (Wh (CB l0) (rd l0 x1.toNat).a).c (Wh (CB l0) (rd l0 x1.toNat).a).d))]) else .stuck)) else .stuck)) else .stuck)
theorem w9y (l0:zr) (x1:Int): ∀s,Xh prog (Zy prog 55) (OD l0 x1) (OD l0 x1 s) (w1c l0 x1 s)
 :=nofun
theorem w1d {q:Nat} (hq:Zu prog (Tpl q)) (l0:zr) (x1:Int):Xh prog (Zy prog 55) (OD l0 x1) (Zb prog 55 [(dt l0),(.int .i64 x1)] true []) (Ry q l0 x1):=(lo fun cA=>let e:=rd l0 (tn x1);let i:=Zy prog 19;(lb (fun k0=>(Yh ⟨⟨42,0,true⟩,none,(Zk prog 55 (pn 37) 1),none,i,⟨Yy [(4,(.ptr 0 0)),(5,(ii 0))],Wf [⟨[(.int .u8 e.t),(ii e.x),(ii e.y),(ii e.z)],42,none⟩] 0,1,[],true⟩,[],.leaf⟩ (sl hq 26 [] ⟨[0],[],[some [4,5]],[]⟩ b7 [true] (ww cA (tt k0 (ww cA nn)))) rfl (by kernel_rfl))) (fun k0=>(lo fun aK=>let f:=pp (pp (xr l0) (xw aK)) (ww cA (tt k0 (ww cA nn)));(lb (fun k1=>(Yh ⟨⟨42,0,true⟩,none,(Zk prog 55 (pn 151) 1),none,i,⟨Yy [(4,(.ptr 0 0)),(5,(ii (JL (CB l0) e.a)))],Wf [⟨[(.int .u8 0),(ii 0),(ii 0),(ii 0)],42,none⟩] 0,1,[],true⟩,[],.leaf⟩ (sl hq 47 [] ⟨[0],[],[some [4,5]],[]⟩ b7 (bl 2 2) (tt k1 f)) rfl (by kernel_rfl))) (fun k1=>(lo fun o0=>let g:=Wh (CB l0) e.a;let h:=x3k l0 x1;(Yh ⟨⟨42,0,true⟩,none,(Zk prog 3 (pn 191) 1),none,i,⟨Yy [(4,(.ptr 0 0)),(5,(ii (Jr e.t e.x e.y e.z g.a g.b g.c g.d)))],Wf [⟨[(.int .u8 h.a),(ii h.b),(ii h.c),(ii h.d)],42,none⟩] 0,1,[],true⟩,[],.leaf⟩ (sl hq 43 [] ⟨[0],[],[some [4,5]],[]⟩ b7 (bl 2 0) (ww o0 (ww cA (tt k1 f)))) rfl (by kernel_rfl)))))))))
theorem w5u {q:Nat} (hq:Zu prog (Tpl q)) (l0:zr) (x1:Int) (n:Nat) (vs:zy) (h:Yj (w1c l0 x1) n (Ry q l0 x1)=.ret vs):Ji prog (Zy prog 55) (Zb prog 55 [(dt l0),(.int .i64 x1)] true []) vs:=by have:=Zf (w9y l0 x1) n _ (w1d hq l0 x1);rwa [h] at this
theorem v6c (q:Nat) (l:zr) (i:Int) (hq:i<(q:Int)+1) (h:Vb l i=true): ∃N,Yj (w1c l i) N (Ry q l i)=.ret [Io (Wh l i),.int .i64 (JL l i)]:=⟨0,by
 have h':=h;unfold Vb at h;simp only [Ac,Ao] at h;obtain ⟨h1,h2,h3,h4⟩:=h;obtain ⟨j,rfl⟩: ∃j:Nat,i=(j:Int):=⟨i.toNat,by omega⟩
 rw [Zj] at h3;have hb:=Ke h3 (Aq j);show Ry q l (j:Int)=_;unfold Ry Wh JL;rw [Aj,Yk (Zn h1),Rx h3 (Aq j)];simp only [Zj,Zd];by_cases g:(rd l j).a <0
 .rw [Af g];rfl
 .obtain ⟨p,hp⟩: ∃p:Nat,(rd l j).a =(p:Int):=⟨(rd l j).a.toNat,by omega⟩
  have ho:Q7 q l (p:Int)=true:=by unfold Q7 Vb;rw [Zj,u3s h3 (show p<=j by omega),h4,Af (show (p:Int)<(q:Int) by omega),Af (show (0:Int)<=(p:Int)/\(p:Int)<(l.length:Int) by omega),Af h2];rfl
  rw [An g,Aa,Aa,hp,Yk ho];show (bif (Qq l (p:Int)).2 != 0 then _ else _)=_;cases g2:(Qq l (p:Int)).2 != 0 with
  | true=>rfl
  | false=>
   have ht:=Q6 h3 h4 (p+1) p (Bg p) (by omega);have hw:Jq (rd l j).t (rd l j).x (rd l j).y (rd l j).z (Qq l (p:Int)).1.a (Qq l (p:Int)).1.b (Qq l (p:Int)).1.c (Qq l (p:Int)).1.d =true:=by unfold Jq;rw [Af (RK h4 j)];exact Af ht
   rw [Aa,Aa,Yk hw];rfl⟩
theorem j1q : ∀q:Nat,Zu prog (Tpl q)
 | 0=>C3 w4n (by kernel_rfl) fun args v h=>by
  unfold P3 at h;split at h
  .rename_i a0 i;split at h
   .rename_i L g n e0;simp only [Ae,Ad,Ac] at h;obtain ⟨rfl,ho0,hw⟩:=h;unfold Q7 Vb at hw;simp only [Ac,Ao] at hw;omega
   .cases h
  .cases h
 | q+1=>C3 w4n (by kernel_rfl) fun args v h=>by
  unfold P3 at h;split at h
  .rename_i a0 i;split at h
   .rename_i L g n e0;simp only [Ae,Ad,Ac] at h;obtain ⟨rfl,ho0,hw⟩:=h;unfold Q7 at hw;rw [Ac,Ao] at hw;obtain ⟨N,hN⟩:=v6c q L i (by omega) hw.2;exact ⟨_,_,(.cons (Xy e0 ho0) (.cons (.refl _) .nil)),rfl,w5u (j1q q) L i N _ hN,5,rfl⟩
   .cases h
  .cases h
def Id :zy->Option (CA×Bool)
 | [a0,.int .i64 i]=>match C4 CD a0 with
  | some (L,g,n)=>some (.tup [Io (Wh L i),.int .i64 (JL L i)],CU CD n g&&Vb L i)
  | _=>none
 | _=>none
theorem v8k {S:CC} (hS:Zu prog S):Zu prog (S.with IN Id):=C3 hS (by kernel_rfl) fun args v h=>by
 unfold Id at h;split at h
 .rename_i a0 i;split at h
  .rename_i L g n e0;simp only [Ae,Ad,Ac] at h;obtain ⟨rfl,ho0,hw⟩:=h;obtain ⟨N,hN⟩:=v6c i.toNat L i (by unfold Vb at hw;simp only [Ac,Ao] at hw;omega) hw;exact ⟨_,_,(.cons (Xy e0 ho0) (.cons (.refl _) .nil)),rfl,w5u (j1q i.toNat) L i N _ hN,5,rfl⟩
  .cases h
 .cases h
abbrev Yf (l:zr) (i:Int):R4:=Wh l i
abbrev Qw (l:zr) (i:Int):Int:=JL l i
def SzSc :CC:=(QK.with IN Id)
theorem YM :Zu prog SzSc:=(v8k w4n)
inductive IJ where
def OA (l0:zr) (x1:Int):IJ->CJ
 :=nofun
def w0z (l0:zr) (x1:Int):IJ->Xk IJ
 :=nofun
def Rz (l0:zr) (x1:Int):Xk IJ:=(bif (Yt (CB l0)) then (bif ((Ki (CB l0)) != 0) then (.ret [(.agg [(.int .u8 0),(.int .i64 0),(.int .i64 0),(.int .i64 0)]),(.int .i64 (Ki (CB l0)))]) else (bif (decide (x1<0)) then (.ret [(.agg [(.int .u8 0),(.int .i64 0),(.int .i64 0),(.int .i64 0)]),(.int .i64 2)]) else (bif (decide (x1>=(l0.length:Int))) then (.ret [(.agg [(.int .u8 0),(.int .i64 0),(.int .i64 0),(.int .i64 0)]),(.int .i64 2)]) else (bif (Vb (CB l0) x1) then (.ret [(.agg [(.int .u8 (Yf (CB l0) x1).a),(.int .i64 (Yf (CB l0) x1).b),(.int .i64 (Yf (CB l0) x1).c),(.int .i64 (Yf (CB l0) x1).d)]),(.int .i64 (Qw (CB l0) x1))]) else .stuck)))) else .stuck)
theorem w9w (l0:zr) (x1:Int): ∀s,Xh prog (Zy prog 19) (OA l0 x1) (OA l0 x1 s) (w0z l0 x1 s)
 :=nofun
theorem w1a (l0:zr) (x1:Int):Xh prog (Zy prog 19) (OA l0 x1) (Zb prog 19 [(dt l0),(.int .i64 x1)] true []) (Rz l0 x1):=(lo fun cA=>let e:=pp (pp (xr l0) (xw cA)) nn;let f:=Zk prog 19 (pn 77) 1;let h:=Zy prog 19;(lb (fun k0=>(Yh ⟨⟨19,0,true⟩,none,f,none,h,⟨Yy [(4,(.ptr 0 0)),(5,(ii (Ki (CB l0))))],Wf [⟨[(.int .u8 0),(ii 0),(ii 0),(ii 0)],42,none⟩] 0,1,[],true⟩,[],.leaf⟩ (sl YM 49 [] ⟨[0],[],[some [4,5]],[]⟩ b7 (bl 2 3) (tt k0 (tt k0 e))) rfl (by kernel_rfl))) (fun k0=>(lb (fun k1=>(Yh ⟨⟨19,0,true⟩,none,f,none,h,⟨Yy [(4,(.ptr 0 0)),(5,(ii 2))],Wf [⟨[(.int .u8 0),(ii 0),(ii 0),(ii 0)],42,none⟩] 0,1,[],true⟩,[],.leaf⟩ (sl YM 62 [] ⟨[0],[],[some [4,5]],[]⟩ b7 (bl 7 126) (tt k1 (tt k0 e))) rfl (by kernel_rfl))) (fun k1=>let i:=tt k1 (tt k0 e);(lb (fun k2=>(Yh ⟨⟨19,0,true⟩,none,f,none,h,⟨Yy [(4,(.ptr 0 0)),(5,(ii 2))],Wf [⟨[(.int .u8 0),(ii 0),(ii 0),(ii 0)],42,none⟩] 0,1,[],true⟩,[],.leaf⟩ (sl YM 62 [] ⟨[0],[],[some [4,5]],[]⟩ b7 (bl 7 96) (tt k2 i)) rfl (by kernel_rfl))) (fun k2=>(lo fun o0=>let g:=Yf (CB l0) x1;(Yh ⟨⟨19,0,true⟩,none,(Zk prog 3 (pn 191) 1),none,h,⟨Yy [(4,(.ptr 0 0)),(5,(ii (Qw (CB l0) x1)))],Wf [⟨[(.int .u8 g.a),(ii g.b),(ii g.c),(ii g.d)],42,none⟩] 0,1,[],true⟩,[],.leaf⟩ (sl YM 67 [] ⟨[0],[],[some [4,5]],[]⟩ b7 (bl 7 0) (pp (pp (xr l0) (xw o0)) (tt k2 i))) rfl (by kernel_rfl))))))))))
theorem u3o (l0:zr) (x1:Int) (n:Nat) (vs:zy) (h:Yj (w0z l0 x1) n (Rz l0 x1)=.ret vs):Ji prog (Zy prog 19) (Zb prog 19 [(dt l0),(.int .i64 x1)] true []) vs:=by have:=Zf (w9w l0 x1) n _ (w1a l0 x1);rwa [h] at this
theorem Qh {l:zr} (h:(Ki l != 0)=false):l.length<=200/\E9 l=0/\Gr l l.length:=by
 have h:Ki l=0:=by simpa using h
 unfold Ki at h;by_cases g:200<l.length
 .rw [Af g] at h;cases h
 .rw [An g,Aa] at h;cases g2:E9 l != 0 with
  | true=>rw [g2,Ab] at h;rw [h] at g2;cases g2
  | false=>
   rw [g2,Aa] at h;refine ⟨by omega,by simpa using g2,fun j hj=> ?_⟩;cases g3:(List.range l.length).any (D0 l) with
   | true=>rw [g3] at h;cases h
   | false=>simpa using List.any_eq_false.1 g3 j (AL.2 hj)
theorem RN {l:zr} (h:(Ki l != 0)=false) {i:Nat} (hi:i<l.length):Ei l i:=by obtain ⟨h1,h2,h3⟩:=Qh h;have:=h3 i hi;unfold D0 at this;rw [AP] at this;exact YL (fun j hj=>h3 j (by omega)) this.1
def Gv (l:zr) (i:Int):Int:=bif Ki l != 0 then Ki l else bif decide (i<0) then 2 else bif decide (i>=(l.length:Int)) then 2 else 0
def Ea (l:zr) (i:Int):Int:=bif Gv l i != 0 then Gv l i else Qw l i
def Wa (l:zr) (i:Int):R4:=bif Gv l i != 0 then z4 else Yf l i
def Jb (l:zr) (i:Int):Bool:=Yt l&&l.all fun x=>decide (0<=x.t)
theorem x9m {l:zr} (ho:(l.all fun x=>decide (0<=x.t))=true) (h:(Ki l != 0)=false) {i:Int} (h0: ¬i<0) (h1: ¬i>=(l.length:Int)):Vb l i=true:=by
 obtain ⟨j,rfl⟩: ∃j:Nat,i=(j:Int):=⟨i.toNat,by omega⟩
 have hl:=(Qh h).1;have hk:=(RN h (show j<l.length by omega)).1;unfold Vb;rw [Zj,hk,ho,Af (show (0:Int)<=(j:Int)/\(j:Int)<(l.length:Int) by omega),Af (show l.length<=1000 by omega)];rfl
theorem j5k (l:zr) (i:Int) (h:Jb l i=true): ∃N,Yj (w0z l i) N (Rz l i)=.ret [Io (Wa l i),.int .i64 (Ea l i)]:=⟨0,by
 unfold Jb at h;rw [Ac] at h;show Rz l i=_;unfold Rz Wa Ea Gv;simp only [Zd];rw [Yk (show Yt l=true from h.1)];cases g:Ki l != 0 with
 | true=>(simp only [Ab,g];try rfl)
 | false=>
  simp only [Aa];by_cases g1:i<0
  .rw [Af g1];rfl
  .rw [An g1];by_cases g2:i>=(l.length:Int)
   .rw [Af g2];rfl
   .rw [An g2,Aa,Aa,Aa,Aa,Yk (x9m h.2 g g1 g2)];rfl⟩
def P1 :zy->Option (CA×Bool)
 | [a0,.int .i64 i]=>match C4 CD a0 with
  | some (L,g,n)=>some (.tup [Io (Wa L i),.int .i64 (Ea L i)],CU CD n g&&Jb L i)
  | _=>none
 | _=>none
theorem j8d {S:CC} (hS:Zu prog S):Zu prog (S.with UM P1):=C3 hS (by kernel_rfl) fun args v h=>by
 unfold P1 at h;split at h
 .rename_i a0 i;split at h
  .rename_i L g n e0;simp only [Ae,Ad,Ac] at h;obtain ⟨rfl,ho0,hw⟩:=h;obtain ⟨N,hN⟩:=j5k L i hw;exact ⟨_,_,(.cons (Xy e0 ho0) (.cons (.refl _) .nil)),rfl,u3o L i N _ hN,5,rfl⟩
  .cases h
 .cases h
theorem z3o (sep x:zw) (r:List zw):joinTail sep (x::r)=sep++x++joinTail sep r:=by simp [joinTail]
section
attribute [local irreducible] Ki Yt
end
open Go.Shelf Go.RowKit
structure Gu (q:CD):Prop where
 t:0<=q.t/\q.t<24
 x: -1000000<=q.x/\q.x<=1000000
 y: -1000000<=q.y/\q.y<=1000000
 z: -1000000<=q.z/\q.z<=1000000
 len:q.s.length<=400
 box: ∀r∈q.s,(-1000000<=r.a/\r.a<=1000000)/\(-1000000<=r.b/\r.b<=1000000)/\(-1000000<=r.c/\r.c<=1000000)/\(-1000000<=r.d/\r.d<=1000000)/\(-1000000<=r.e/\r.e<=1000000)/\(-1000000<=r.f/\r.f<=1000000)
theorem u1h {L:zx} (h:Yv L=0):L.length<=400/\ ∀r∈L,CX r=true:=by
 unfold Yv at h;by_cases g:400<L.length
 .rw [Af g] at h;cases h
 .rw [An g,Aa] at h;cases hq:L.all CX with
  | false=>rw [hq] at h;cases h
  | true=>exact ⟨by omega,fun r hr=>As.1 hq r hr⟩
theorem j2d {r:R6} (h:CX r=true):(-1000000<=r.a/\r.a<=1000000)/\(-1000000<=r.b/\r.b<=1000000)/\(-1000000<=r.c/\r.c<=1000000)/\(-1000000<=r.d/\r.d<=1000000)/\(-1000000<=r.e/\r.e<=1000000)/\(-1000000<=r.f/\r.f<=1000000):=by
 simp only [CX,Ac,Ao] at h;obtain ⟨h1,h2,h3,h4,h5,h6,h7⟩:=h;have mn: ∀x y:Int,Kz x y<=x/\Kz x y<=y:=fun x y=>by unfold Kz;split <;> omega
 have mx: ∀x y:Int,x<=Ky x y/\y<=Ky x y:=fun x y=>by unfold Ky;split <;> omega
 have a1:=mn (Kz r.a r.b) r.c;have a2:=mn r.a r.b;have a3:=mx (Ky r.a r.b) r.c;have a4:=mx r.a r.b;have a5:=mn (Kz r.d r.e) r.f;have a6:=mn r.d r.e;have a7:=mx (Ky r.d r.e) r.f;have a8:=mx r.d r.e;omega
theorem Q3 {l:zr} (h:E9 l=0) {x:CD} (hx:x∈l):Yv x.s=0:=by
 unfold E9 at h;cases hf:l.find? fun x=>Yv x.s != 0 with
 | none=>
  have:=List.find?_eq_none.1 hf x hx
  simpa using this
 | some y=>rw [hf] at h;have:=List.find?_some hf;rw [show Yv y.s=0 from h] at this;cases this
theorem v4h {l:zr} (ht:(l.all fun x=>decide (0<=x.t))=true) (h:Ki l=0) {i:Nat} (hi:i<l.length):Gu (rd l i):=by
 obtain ⟨h1,h2,h3⟩:=Qh (l:=l) (by rw [h];rfl);have hb:=h3 i hi;unfold D0 at hb;rw [AP] at hb;obtain ⟨_,_,_,hk⟩:=Sc hb.1;have hs:=u1h (Q3 h2 (x:=rd l i) (by rw [Xm hi];exact AU hi));unfold CT at hk;cases g:decide (24<=(rd l i).t) with
 | true=>rw [g] at hk;cases hk
 | false=>
  have h0:0<=(rd l i).t :=RK ht i;have h24:(rd l i).t <24:=by have:=BF g;omega
  rw [g,Aa] at hk;cases g2:Fy (rd l i).x (rd l i).y (rd l i).z with
  | false=>rw [g2] at hk;cases hk
  | true=>obtain ⟨k1,k2,k3⟩:=(RG _ _ _).1 g2;refine ⟨⟨h0,h24⟩,k1,k2,k3,hs.1,fun r hr=> ?_⟩;exact j2d (hs.2 r hr)
section
attribute [local irreducible] Ki Yt
end
def pOk (p:zw):Prop:=p≠ []/\EF p=0/\p.length<=1000000
theorem Iv {α:Type} [Xp α] {l:List α} {i:Nat} (h:i<l.length):rd l i∈l:=by rw [Xm h];exact AU h
section
attribute [local irreducible] Ki Yt
end
theorem x1c : ∀(i:Nat) (x:zw),Fu i x=true-> ∀c∈x,45<=c.toNat
 | _,[],_=>fun c hc=>by cases hc
 | i,d::x,h=>fun c hc=>by
  rw [Fu,Ac] at h;cases hc with
  | head=>have h1:=h.1;unfold H2 G7 digN at h1;simp only [Bv,Ac,Ao] at h1;omega
  | tail _ hc=>exact x1c (i+1) x h.2 c hc
theorem v0e {x:zw} (h:Co x=true): ∀c∈x,45<=c.toNat:=by unfold Co at h;rw [Ac,Ac] at h;exact x1c 0 x h.2.2
theorem j5t {x:zw} (h:Co x=true):x≠ []:=by unfold Co at h;rw [Ac,Ao] at h;intro e;rw [e] at h;exact absurd h.1 (by decide)
theorem v0w : ∀(L:List zw),(∀p∈L,∀c∈p,45<=c.toNat)-> ∀c∈Lib.join L [47],45<=c.toNat:=by
 have tl: ∀(L:List zw),(∀p∈L,∀c∈p,45<=c.toNat)-> ∀c∈joinTail [47] L,45<=c.toNat:=fun L=>by
  induction L with
  | nil=>intro _ c hc;cases hc
  | cons x r ih=>
   intro h c hc;rw [z3o] at hc;rcases AJ.1 hc with hc | hc
   .rcases AJ.1 hc with hc | hc
    .rw [BG.1 hc];decide
    .exact h x Bc c hc
   .exact ih (fun p hp=>h p (Bb _ hp)) c hc
 intro L h c hc;cases L with
 | nil=>cases hc
 | cons x r=>
  rw [join_cons] at hc;rcases AJ.1 hc with hc | hc
  .exact h x Bc c hc
  .exact tl r (fun p hp=>h p (Bb _ hp)) c hc
structure Told (l:zr):Prop where
 node: ∀i,i<l.length->Gu (rd l i)
 path: ∀i,i<l.length->pOk (Ce l (i:Int))
 byte: ∀i,i<l.length-> ∀c∈Ce l (i:Int),45<=c.toNat
theorem u1o {l:zr} (ho:Yt l=true) (ht:(l.all fun x=>decide (0<=x.t))=true) (h:Ki l=0):Told l/\IR l l.length/\ ∀j,j<l.length->Ei l j:=by
 have h':(Ki l != 0)=false:=by rw [h];rfl
 obtain ⟨h1,h2,h3⟩:=Qh h';have hok: ∀j,j<l.length->Ei l j:=fun j hj=>RN h' hj;have hne: ∀i,i<l.length->Ce l (i:Int)≠ []:=fun i hi e=>by
  have e1:=HO (hok i hi).1 (Aq i);have hj:Ce l (i:Int)=Lib.join (Ez l (i:Int)).reverse [47]:=rfl;rw [hj,e1,List.reverse_cons] at e;have hn:=j5t ((hok i hi).2 i (Aq i));cases hr:(Ez l (rd l i).a).reverse with
  | nil=>rw [hr] at e;exact hn (by simpa [join_one] using e)
  | cons x r=>
   rw [hr,BD,join_cons] at e;have hl:=Av List.length e;cases r with
   | nil=>rw [A0,z3o] at hl;simp at hl
   | cons y r=>rw [BD,z3o] at hl;simp at hl
 have hb: ∀i,i<l.length-> ∀c∈Ce l (i:Int),45<=c.toNat:=fun i hi=>by
  refine v0w _ fun p hp=> ?_;have fJ: ∀(k:Nat) (j:Int),j<=(i:Int)-> ∀p∈C6 l k j,∀c∈p,45<=c.toNat:=fun k=>by
   induction k with
   | zero=>intro j _ p hp;cases hp
   | succ k ih=>
    intro j hj p hp;unfold C6 at hp;by_cases g:0<=j
    .obtain ⟨m,rfl⟩: ∃m:Nat,j=(m:Int):=⟨j.toNat,by omega⟩
     rw [Af g,Ab,Zj] at hp;have hbb:=Ke (hok i hi).1 (show m<=i by omega);rcases AN.1 hp with rfl | hp
     .exact v0e ((hok i hi).2 m (by omega))
     .exact ih _ (by omega) p hp
    .rw [An g] at hp;cases hp
  exact fJ _ _ (A3 _) p (List.mem_reverse.1 hp)
 refine ⟨⟨fun i hi=>v4h ht h hi,fun i hi=>⟨hne i hi,?_,?_⟩,hb⟩,x1n h3,hok⟩
 .have:=h3 i hi;unfold D0 at this;rw [AP,AP] at this
  simpa using this.2.1
 .exact XM (x3h ho (by omega) hi (hok i hi))
theorem v7u {l:zr} (h:Oa l=false):l.length<=220/\(l.length<=12\/200<l.length)/\ ∀x∈l,x.s.length<=12/\x.n.length<=500:=by
 unfold Oa at h;rw [AP] at h;have h2:=h.2;unfold greZ at h2;rw [AP,Be,Bool.and_eq_false_iff,Be,Be] at h2;have hl:l.length<=220:=by omega
 refine ⟨hl,by omega,fun x hx=> ?_⟩;have ht:l.take 300=l:=A6 (by omega);have h1:=h.1;rw [ht] at h1;have:=List.any_eq_false.1 h1 x hx;unfold F8 at this;simp at this;omega
theorem u4y {l:zr} (h:Oa l=false):Yt l=true:=by obtain ⟨h1,h2,h3⟩:=v7u h;unfold Yt;rw [Ac,Ao];exact ⟨by omega,As.2 fun x hx=>Af (h3 x hx).2⟩
theorem j2v {l:zr} (h: ∀x∈l,Yv x.s=0):E9 l=0:=by
 unfold E9;have:l.find? (fun x=>Yv x.s != 0)=none:=List.find?_eq_none.2 fun x hx=>by rw [h x hx];simp
 rw [this]
theorem N7 {l:zr} (hl:l.length<=200) (h:E9 l=0):Ki l=bif (List.range l.length).any (D0 l) then 8 else 0:=by unfold Ki;rw [An (by omega),Aa,Vp h,Aa]
def VM (r:R6):Int:=(r.d - r.a)*(r.e - r.b)*(r.f - r.c)
def ovl (a b c d:Int):Int:=max 0 (min b d - max a c)
def sm {α:Type} (l:List α) (f:α->Int):Int:=(l.map f).sum
theorem ZI {α:Type} (f:α->Int):sm ([]:List α) f=0:=rfl
theorem Kp {α:Type} (x:α) (l:List α) (f:α->Int):sm (x::l) f=f x+sm l f:=by simp [sm]
theorem y6m {α:Type} (l m:List α) (f:α->Int):sm (l++m) f=sm l f+sm m f:=by simp [sm]
theorem Ve {α:Type} {l:List α} {f g:α->Int} (h: ∀x∈l,f x=g x):sm l f=sm l g:=by unfold sm;rw [BZ h]
theorem u7m {α:Type} (l:List α) (f g:α->Int):sm l (fun x=>f x+g x)=sm l f+sm l g:=by
 induction l with
 | nil=>rfl
 | cons x l ih=>simp only [Kp,ih];omega
theorem u7k {α:Type} (l:List α) (f:α->Int) (c:Int):sm l (fun x=>f x*c)=sm l f*c:=by
 induction l with
 | nil=>simp [sm]
 | cons x l ih=>simp only [Kp,ih,Int.add_mul]
theorem j2x {α:Type} (l:List α) (f:α->Int) (c:Int):sm l (fun x=>c*f x)=c*sm l f:=by
 induction l with
 | nil=>simp [sm]
 | cons x l ih=>simp only [Kp,ih,Int.mul_add]
theorem HN {α:Type} (l:List α):sm l (fun _=>0)=0:=by
 induction l with
 | nil=>rfl
 | cons x l ih=>rw [Kp,ih];rfl
theorem Sq {α β:Type} (l:List α) (m:List β) (f:α->β->Int):sm l (fun x=>sm m (f x))=sm m (fun y=>sm l fun x=>f x y):=by
 induction l with
 | nil=>simp only [ZI,HN]
 | cons x l ih=>simp only [Kp,ih,u7m]
theorem j2y {α:Type} {l:List α} {f g:α->Int} (h: ∀x∈l,f x<=g x):sm l f<=sm l g:=by
 induction l with
 | nil=>exact A3 _
 | cons x l ih=>grind [Kp]
theorem x5k {α:Type} {l:List α} {f:α->Int} (h: ∀x∈l,0<=f x):0<=sm l f:=by have:=j2y h;rwa [HN] at this
theorem w8l {α:Type} {l:List α} {f:α->Int} (h: ∀x∈l,0<=f x) (h0:sm l f=0): ∀x∈l,f x=0:=by
 induction l with
 | nil=>grind
 | cons y l ih=>
  rw [Kp] at h0;have h1:=h y (by simp);have h2:=x5k fun x hx=>h x (Bb y hx)
  grind
theorem u7l {α β:Type} (l:List α) (g:α->β) (f:β->Int):sm (l.map g) f=sm l fun x=>f (g x):=by simp [sm,Function.comp_def]
namespace CM
variable {α β:Type} (D:CM α β)
structure Fair :Prop where
 lo_put: ∀x x' b,D.lo (D.put x x' b)=x
 hi_put: ∀x x' b,D.hi (D.put x x' b)=x'
 pr_put: ∀x x' b,D.pr (D.put x x' b)=b
 ext_put: ∀x x' x'' b,D.ext x'' (D.put x x' b)=D.put x x'' b
def Ap (R:β->β->Prop) (a b:α):Prop:=D.hi a<=D.lo b\/D.hi b<=D.lo a\/R (D.pr a) (D.pr b)
theorem v5l {D:CM α β} (hD:D.Fair) (R:β->β->Prop) (sec:Int->List β) (cs:zq) (hc:cs.Pairwise (· < ·)) (fQ: ∀x,(sec x).Pairwise R):
  ∀(k i:Nat) (pre:List α) (last:List β) (x0:Int),(i+k<cs.length\/k=0)->pre.Pairwise (D.Ap R)->(∀a∈pre,D.hi a<=x0)->(last≠ []->x0<=rd cs i)->(last=[]->x0<=rd cs i)->last.Pairwise R->
  (D.ref sec cs k i (pre++last.map (D.put x0 (rd cs i))) last pre.length).Pairwise (D.Ap R):=by
 have fin: ∀(pre:List α) (last:List β) (x0 x':Int),pre.Pairwise (D.Ap R)->(∀a∈pre,D.hi a<=x0)->last.Pairwise R->(pre++last.map (D.put x0 x')).Pairwise (D.Ap R):=fun pre last x0 x' h1 h2 h3=>by
  refine BV.2 ⟨h1,?_,fun a ha b hb=> ?_⟩
  .refine List.pairwise_map.2 (h3.imp fun {a b} h=>.inr (.inr ?_));rw [hD.pr_put,hD.pr_put];exact h
  .obtain ⟨c,_,rfl⟩:=A2.1 hb;exact .inl (by rw [hD.lo_put];exact h2 a ha)
 intro k
 induction k with
 | zero=>intro i pre last x0 _ h1 h2 _ _ h3;exact fin pre last x0 _ h1 h2 h3
 | succ k ih=>
  intro i pre last x0 hk h1 h2 h4 h5 h3;have hlt:rd cs i<rd cs (i+1):=H1 hc (Bg _) (by omega);unfold ref;cases hq:(decide (0<i)&&D.same (sec (rd cs i)) last) with
  | true=>
   rw [Ab];have e:D.grow (pre++last.map (D.put x0 (rd cs i))) pre.length (rd cs (i+1))=pre++last.map (D.put x0 (rd cs (i+1))):=by
    unfold grow;rw [List.take_left,List.drop_left,BW]
    congr 1
    exact BZ fun b _=>hD.ext_put _ _ _ _
   rw [e];exact ih (i+1) pre last x0 (by omega) h1 h2 (fun h=>by grind) (fun h=>by grind) h3
  | false=>
   rw [Aa];refine ih (i+1) (pre++last.map (D.put x0 (rd cs i))) (sec (rd cs i)) (rd cs i) (by omega) (fin pre last x0 _ h1 h2 h3) (fun a ha=> ?_) (fun _=>by omega) (fun _=>by omega) (fQ _);rcases AJ.1 ha with ha | ha
   .grind
   .obtain ⟨c,_,rfl⟩:=A2.1 ha;rw [hD.hi_put];grind
theorem out_apart {D:CM α β} (hD:D.Fair) (R:β->β->Prop) (hs: ∀a b,D.same a b=true↔a=b) (l:List α) (fQ: ∀x,(D.sec l x).Pairwise R):(D.out l).Pairwise (D.Ap R):=by
 rw [D.out_eq hs l];have hc:(D.cuts l).Pairwise (· < ·):=by show (Kr (D.ends l)).Pairwise (· < ·);rw [Fi];exact (Vi _).1
 have:=v5l hD R (D.sec l) (D.cuts l) hc fQ ((D.cuts l).length - 1) 0 [] [] (rd (D.cuts l) 0) (by omega) .nil (by simp) (fun _=>A3 _) (fun _=>A3 _) .nil;exact this
end CM
theorem S9 :D4.Fair:=⟨fun _ _ _=>rfl,fun _ _ _=>rfl,fun _ _ _=>rfl,fun _ _ _ _=>rfl⟩
theorem MN :D6.Fair:=⟨fun _ _ _=>rfl,fun _ _ _=>rfl,fun _ _ _=>rfl,fun _ _ _ _=>rfl⟩
def Ap2 (s t:R2):Prop:=s.b<=t.a\/t.b<=s.a
def Ap4 (s t:R4):Prop:=s.c<=t.a\/t.c<=s.a\/s.d<=t.b\/t.d<=s.b
def Rt (s t:R6):Prop:=s.d<=t.a\/t.d<=s.a\/s.e<=t.b\/t.e<=s.b\/s.f<=t.c\/t.f<=s.c
theorem v3o (l:zp):(Wk l).Pairwise Ap2:=by
 unfold Wk;by_cases h:400<l.length
 .simp_all
 .rw [An h,Aa];cases hv:l.all Ca with
  | false=>exact .nil
  | true=>rw [Ab];exact (x8t l hv).1.sep.imp fun {s t} h=>.inl (by omega)
theorem v5f (l:zu):(Za l).Pairwise Ap4:=by
 have key:(D4.out l).Pairwise Ap4:=(CM.out_apart S9 Ap2 (fun a b=>BS) l fun x=>v3o _).imp fun {s t} h=>by
  rcases h with h | h | h | h
  .exact .inl h
  .exact .inr (.inl h)
  .exact .inr (.inr (.inl h))
  .exact .inr (.inr (.inr h))
 unfold Za;by_cases h:400<l.length
 .simp_all
 .rw [An h,Aa];cases l.all CW with
  | false=>exact .nil
  | true=>
   rw [Ab];cases decide (((D4.out l).length :Int)>400) with
   | true=>exact .nil
   | false=>exact key
theorem JF {l:zx} (h:Yv l=0):l.length<=400/\(∀r∈l,CX r=true)/\l=D6.out l/\l.Pairwise Rt:=by
 unfold Yv at h;by_cases h1:400<l.length
 .grind
 .rw [An h1,Aa] at h;cases hv:l.all CX with
  | false=>grind
  | true=>
   rw [hv,Ab] at h;cases ho:Cp l ((D6.cuts l).length - 1) 0 with
   | false=>grind
   | true=>
    rw [ho,Ab] at h;cases h2:decide (((D6.out l).length :Int)>400) with
    | true=>grind
    | false=>
     rw [h2,Aa] at h;cases h3:Kx (D6.out l) l with
     | false=>grind
     | true=>
      have e:D6.out l=l:=Ay h3;refine ⟨by omega,fun r hr=>As.1 hv r hr,e.symm,?_⟩;have:=(CM.out_apart MN Ap4 (fun a b=>BS) l fun x=>v5f _).imp (S:=Rt) fun {s t} h=>by
       rcases h with h | h | h | h | h | h
       .exact .inr (.inr (.inr (.inr (.inl h))))
       .exact .inr (.inr (.inr (.inr (.inr h))))
       .exact .inl h
       .exact .inr (.inl h)
       .exact .inr (.inr (.inl h))
       .exact .inr (.inr (.inr (.inl h)))
      grind
theorem Mg {r:R6} (h:CX r=true):r.a<r.d/\r.b<r.e/\r.c<r.f/\ -1000000<=r.a/\ -1000000<=r.b/\ -1000000<=r.c/\r.d<=1000000/\r.e<=1000000/\r.f<=1000000:=by
 grind [TV,E7]
open Go.Proofs Go.Sort Go.Shelf Go.RowKit Go.Lib
structure C8 (β:Type) where
 a:Int
 b:Int
 s:List β
def CQ {β γ:Type} (inB:β->γ->Prop) (s:List β) (q:γ):Prop:= ∃r∈s,inB r q
theorem Sm {β γ:Type} (inB:β->γ->Prop) (q:γ): ¬CQ inB [] q:=fun ⟨_,h,_⟩=>by cases h
structure Sem (β γ:Type) where
 can:List β->Prop
 inB:β->γ->Prop
 uniq: ∀s t,can s->can t->(∀q,CQ inB s q↔CQ inB t q)->s=t
 some: ∀s,can s->s≠ []-> ∃q,CQ inB s q
 nil:can []
section
variable {β γ:Type} (M:Sem β γ)
def Rs (g:C8 β):Prop:=g.a<g.b/\M.can g.s/\g.s≠ []
def Nxt (g h:C8 β):Prop:=g.b<=h.a/\(g.b=h.a->g.s≠h.s)
inductive Cf :List (C8 β)->Prop
 | nil:Cf []
 | one (g:C8 β) (h:Rs M g):Cf [g]
 | cons (g h:C8 β) (r:List (C8 β)) (ok:Rs M g) (nx:Nxt g h) (k:Cf (h::r)):Cf (g::h::r)
def Dx (G:List (C8 β)) (x:Int) (q:γ):Prop:= ∃g∈G,g.a<=x/\x<g.b/\CQ M.inB g.s q
variable {M}
theorem Cf.head {g:C8 β} {r:List (C8 β)} (h:Cf M (g::r)):Rs M g:=by cases h <;> assumption
theorem Cf.tail {g:C8 β} {r:List (C8 β)} (h:Cf M (g::r)):Cf M r:=by
 cases h with
 | one=>exact .nil
 | cons _ _ _ _ _ k=>exact k
theorem Cf.later {g:C8 β} {r:List (C8 β)} (h:Cf M (g::r)): ∀k∈r,g.b<=k.a:=by
 induction r generalizing g with
 | nil=>grind
 | cons k r ih=>
  cases h with
  | cons _ _ _ ok nx kk=>
   intro m hm;rcases AN.1 hm with rfl | hm
   .exact nx.1
   .have h1:=ih kk m hm;have h2:=kk.head.1;have h3:=nx.1;omega
theorem Cf.all {G:List (C8 β)} (h:Cf M G): ∀g∈G,Rs M g:=by
 induction G with
 | nil=>grind
 | cons k r ih=>
  intro g hg;rcases AN.1 hg with rfl | hg
  .exact h.head
  .exact ih h.tail g hg
theorem Cf.before {G:List (C8 β)} {g:C8 β} (k:Cf M (G++[g])): ∀m∈G,m.b<=g.a:=by
 induction G with
 | nil=>grind
 | cons m r ih=>
  intro n hn;rcases AN.1 hn with rfl | hn
  .exact k.later g (by simp)
  .exact ih k.tail n hn
theorem Cf.snoc {G:List (C8 β)} {g h:C8 β} (k:Cf M (G++[g])) (ok:Rs M h) (nx:Nxt g h):Cf M (G++[g]++[h]):=by
 induction G with
 | nil=>exact .cons g h [] k.head nx (.one h ok)
 | cons m r ih=>
  have i:=ih k.tail;cases r with
  | nil=>
   cases k with
   | cons _ _ _ ok1 nx1 k1=>exact .cons m g [h] ok1 nx1 i
  | cons m2 r=>
   cases k with
   | cons _ _ _ ok1 nx1 k1=>exact .cons m m2 _ ok1 nx1 i
theorem Cf.stretch {G:List (C8 β)} {g:C8 β} {x:Int} (k:Cf M (G++[g])) (hx:g.b<=x):Cf M (G++[⟨g.a,x,g.s⟩]):=by
 induction G with
 | nil=>have:=k.head;exact .one _ ⟨by have:=this.1;grind,this.2⟩
 | cons m r ih=>
  have i:=ih k.tail;cases r with
  | nil=>
   cases k with
   | cons _ _ _ ok1 nx1 k1=>exact .cons m _ [] ok1 nx1 i
  | cons m2 r=>
   cases k with
   | cons _ _ _ ok1 nx1 k1=>exact .cons m m2 _ ok1 nx1 i
theorem SA (g:C8 β) (G:List (C8 β)) (x:Int) (q:γ):Dx M (g::G) x q↔(g.a<=x/\x<g.b/\CQ M.inB g.s q)\/Dx M G x q:=by
 constructor
 .rintro ⟨k,hk,h⟩;rcases AN.1 hk with rfl | hk
  .exact .inl h
  .exact .inr ⟨k,hk,h⟩
 .rintro (h | ⟨k,hk,h⟩)
  .exact ⟨g,by simp,h⟩
  .exact ⟨k,by simp [hk],h⟩
theorem x0w (G H:List (C8 β)) (x:Int) (q:γ):Dx M (G++H) x q↔Dx M G x q\/Dx M H x q:=by
 constructor
 .rintro ⟨k,hk,h⟩;rcases AJ.1 hk with hk | hk
  .exact .inl ⟨k,hk,h⟩
  .exact .inr ⟨k,hk,h⟩
 .rintro (⟨k,hk,h⟩ | ⟨k,hk,h⟩)
  .exact ⟨k,AJ.2 (.inl hk),h⟩
  .exact ⟨k,AJ.2 (.inr hk),h⟩
theorem Cf.low {g:C8 β} {r:List (C8 β)} (h:Cf M (g::r)) {x:Int} {q:γ} (hp:Dx M (g::r) x q):g.a<=x:=by
 rcases (SA g r x q).1 hp with hp | ⟨k,hk,h1,_⟩
 .exact hp.1
 .have:=h.later k hk;have:=h.head.1;omega
theorem Cf.rest {g:C8 β} {r:List (C8 β)} (h:Cf M (g::r)) (x:Int) (q:γ):Dx M r x q↔g.b<=x/\Dx M (g::r) x q:=by
 constructor
 .rintro ⟨k,hk,h1,h2⟩;have:=h.later k hk;exact ⟨by omega,k,by simp [hk],h1,h2⟩
 grind [SA]
theorem Cf.sec0 {g:C8 β} {r:List (C8 β)} (h:Cf M (g::r)) {x:Int} (hx:g.a<=x/\x<g.b) (q:γ):Dx M (g::r) x q↔CQ M.inB g.s q:=by
 rw [SA];constructor
 .rintro (h1 | ⟨k,hk,h1,_⟩)
  .exact h1.2.2
  .have:=h.later k hk;omega
 grind
theorem x7k : ∀(G H:List (C8 β)),Cf M G->Cf M H->(∀x q,Dx M G x q↔Dx M H x q)->G=H
 | [],[],_,_,_=>rfl
 | [],h::H,_,hH,e=>by obtain ⟨q,hq⟩:=M.some _ hH.head.2.1 hH.head.2.2;have:=(e h.a q).2 ((hH.sec0 ⟨A3 _,hH.head.1⟩ q).2 hq);obtain ⟨k,hk,_⟩:=this;cases hk
 | g::G,[],hG,_,e=>by obtain ⟨q,hq⟩:=M.some _ hG.head.2.1 hG.head.2.2;have:=(e g.a q).1 ((hG.sec0 ⟨A3 _,hG.head.1⟩ q).2 hq);obtain ⟨k,hk,_⟩:=this;cases hk
 | g::G,h::H,hG,hH,e=>by
  have og:=hG.head;have oh:=hH.head;obtain ⟨q,hq⟩:=M.some _ og.2.1 og.2.2;obtain ⟨p,hp⟩:=M.some _ oh.2.1 oh.2.2;have a1:h.a<=g.a:=hH.low ((e g.a q).1 ((hG.sec0 ⟨A3 _,og.1⟩ q).2 hq));have a2:g.a<=h.a:=hG.low ((e h.a p).2 ((hH.sec0 ⟨A3 _,oh.1⟩ p).2 hp));have a3:g.a=h.a:=by omega
  have s1:g.s=h.s:=M.uniq _ _ og.2.1 oh.2.1 fun q=>by rw [<-hG.sec0 (x:=g.a) ⟨A3 _,og.1⟩,e,hH.sec0 (x:=g.a) ⟨by omega,by have:=oh.1;omega⟩]
  have key: ∀(g h:C8 β) (G H:List (C8 β)),Cf M (g::G)->Cf M (h::H)->(∀x q,Dx M (g::G) x q↔Dx M (h::H) x q)->g.a=h.a->g.s=h.s-> ¬g.b<h.b:=fun g h G H hG hH e ea es hlt=>by
   have og:=hG.head;have oh:=hH.head;have at_: ∀q,Dx M (g::G) g.b q↔CQ M.inB h.s q:=fun q=>by rw [e,hH.sec0 ⟨by have:=og.1;omega,hlt⟩]
   obtain ⟨q,hq⟩:=M.some _ oh.2.1 oh.2.2;have:=(hG.rest g.b q).2 ⟨A3 _,(at_ q).2 hq⟩;cases hG with
   | one=>obtain ⟨k,hk,_⟩:=this;cases hk
   | cons _ k r ok nx kk=>
    have hk:k.a<=g.b:=kk.low this;have hk2:g.b=k.a:=by have:=nx.1;omega
    refine nx.2 hk2 ?_;rw [es];refine M.uniq _ _ oh.2.1 kk.head.2.1 fun p=> ?_;rw [<-at_,<-kk.sec0 (x:=g.b) ⟨by omega,by have:=kk.head.1;omega⟩];constructor
    .exact fun hp=>((Cf.cons g k r ok nx kk).rest g.b p).2 ⟨A3 _,hp⟩
    .exact fun hp=>(((Cf.cons g k r ok nx kk).rest g.b p).1 hp).2
  have b1:=key g h G H hG hH e a3 s1;have b2:=key h g H G hH hG (fun x q=>(e x q).symm) a3.symm s1.symm;have b3:g.b=h.b:=by omega
  have eg:g=h:=by
   obtain ⟨ga,gb,gs⟩:=g;obtain ⟨ha,hb,hs⟩:=h;simp only at a3 b3 s1
   subst_vars;rfl
  subst eg
  congr 1
  exact x7k G H hG.tail hH.tail fun x q=>by rw [hG.rest,hH.rest,e]
end
namespace CM
variable {α β:Type} (D:CM α β)
def flat (G:List (C8 β)):List α:=G.flatMap fun g=>g.s.map (D.put g.a g.b)
theorem flat_append (G H:List (C8 β)):D.flat (G++H)=D.flat G++D.flat H:=by simp [flat]
theorem flat_one (g:C8 β):D.flat [g]=g.s.map (D.put g.a g.b):=by simp [flat]
def inA {γ:Type} (inB:β->γ->Prop) (r:α) (p:Int×γ):Prop:=D.lo r<=p.1/\p.1<D.hi r/\inB (D.pr r) p.2
variable {D}
theorem w2v (hD:D.Fair) {γ:Type} (M:Sem β γ) (G:List (C8 β)) (x:Int) (q:γ):CQ (D.inA M.inB) (D.flat G) (x,q)↔Dx M G x q:=by
 constructor
 .rintro ⟨r,hr,h⟩;obtain ⟨g,hg,hr⟩:=AM.1 hr;obtain ⟨b,hb,rfl⟩:=A2.1 hr;unfold inA at h;rw [hD.lo_put,hD.hi_put,hD.pr_put] at h;exact ⟨g,hg,h.1,h.2.1,b,hb,h.2.2⟩
 .rintro ⟨g,hg,h1,h2,b,hb,h3⟩;refine ⟨D.put g.a g.b b,AM.2 ⟨g,hg,A2.2 ⟨b,hb,rfl⟩⟩,?_⟩;unfold inA;rw [hD.lo_put,hD.hi_put,hD.pr_put]
  grind
def can {γ:Type} (M:Sem β γ) (l:List α):Prop:= ∃G,Cf M G/\l=D.flat G
def sem (hD:D.Fair) {γ:Type} (M:Sem β γ):Sem α (Int×γ) where
 can:=D.can M
 inB:=D.inA M.inB
 uniq:=fun s t ⟨G,hG,e1⟩ ⟨H,hH,e2⟩ h=>by subst e1 e2;rw [x7k G H hG hH fun x q=>by simp_all [w2v]]
 some:=fun s ⟨G,hG,e1⟩ hs=>by
  subst e1;cases G with
  | nil=>exact absurd rfl hs
  | cons g G=>obtain ⟨q,hq⟩:=M.some _ hG.head.2.1 hG.head.2.2;exact ⟨(g.a,q),(w2v hD M _ _ _).2 ((hG.sec0 ⟨A3 _,hG.head.1⟩ q).2 hq)⟩
 nil:=⟨[],.nil,rfl⟩
variable (D)
def oneS (sec:List β) (x x':Int) (s:Sw α β):Sw α β:=
 bif decide (0<sec.length)&&((s.fin == x)&&D.same s.last sec) then ⟨D.grow s.out s.first x',s.last,s.first,x'⟩
 else ⟨s.out++sec.map (D.put x x'),sec,s.out.length,x'⟩
def goS (sec:Int->List β) (cs:zq):Nat->Nat->Sw α β->Sw α β
 | 0,_,s=>s
 | k+1,i,s=>goS sec cs k (i+1) (D.oneS (sec (rd cs i)) (rd cs i) (rd cs (i+1)) s)
theorem go_goS (l:List α): ∀(k i:Nat) (s:Sw α β),D.go l k i s=D.goS (D.sec l) (D.cuts l) k i s
 | 0,_,_=>rfl
 | k+1,i,s=>go_goS l k (i+1) _
variable {D}
structure Inv {γ:Type} (M:Sem β γ) (sec:Int->List β) (cs:zq) (i:Nat) (s:Sw α β) (G:List (C8 β)):Prop where
 can:Cf M G
 out:s.out=D.flat G
 gap:s.last=[]-> ∀g∈G,g.b<rd cs i
 end_ : s.last ≠ [] -> ∃ Gp g, G = Gp ++ [g] /\ g.s = s.last /\ g.b = rd cs i /\ s.fin = rd cs i /\ s.first = (D.flat Gp).length
 pts: ∀x q,Dx M G x q↔ ∃j,j<i/\rd cs j<=x/\x<rd cs (j+1)/\CQ M.inB (sec (rd cs j)) q
theorem u4w (hD:D.Fair) (hs: ∀a b,D.same a b=true↔a=b) {γ:Type} (M:Sem β γ) {sec:Int->List β} {cs:zq} (hc:cs.Pairwise (· < ·)) (fQ: ∀x,M.can (sec x)) {i:Nat} (hi:i+1<cs.length) {s:Sw α β} {G:List (C8 β)} (h:Inv (D:=D) M sec cs i s G):
  ∃G',Inv (D:=D) M sec cs (i+1) (D.oneS (sec (rd cs i)) (rd cs i) (rd cs (i+1)) s) G':=by
 have hlt:rd cs i<rd cs (i+1):=H1 hc (Bg _) hi;unfold oneS;rcases Xw (decide (0<(sec (rd cs i)).length)&&((s.fin == rd cs i)&&D.same s.last (sec (rd cs i)))) with q | q
 .rw [q,Ab];simp only [Ac,Ao] at q;obtain ⟨q1,q2,q3⟩:=q;have q3:=(hs _ _).1 q3;have hne:s.last≠ []:=fun e=>by grind
  obtain ⟨Gp,g,e1,e2,e3,e4,e5⟩:=h.end_ hne;subst e1;refine ⟨Gp++[⟨g.a,rd cs (i+1),g.s⟩],h.can.stretch (by omega),?_,fun e=>absurd e hne,fun _=>⟨Gp,_,rfl,e2,rfl,rfl,e5⟩,fun x p=> ?_⟩
  .show D.grow s.out s.first (rd cs (i+1))=_
   rw [h.out,e5];unfold grow;rw [D.flat_append,D.flat_append,D.flat_one,D.flat_one,List.take_left,List.drop_left,BW]
   congr 1
   exact BZ fun b _=>hD.ext_put _ _ _ _
  .have hp:=h.pts x p;rw [x0w,SA] at hp ⊢;have z: ¬Dx M ([]:List (C8 β)) x p:=fun ⟨_,hk,_⟩=>by cases hk
   constructor
   .grind
   .rintro ⟨j,j1,j2,j3,j4⟩;rcases Bm (Nat.le_of_lt_succ j1) with rfl | j1
    .refine .inr (.inl ⟨?_,j3,?_⟩)
     .have:=(h.can.all g (by simp)).1;grind
     grind
    grind
 .rw [q,Aa];by_cases he:sec (rd cs i)=[]
  .rw [he];refine ⟨G,h.can,?_,fun _ g hg=> ?_,fun e=>absurd rfl e,fun x p=> ?_⟩
   .show s.out++[].map _=_;rw [BL,AG,h.out]
   .by_cases hl:s.last=[]
    .have:=h.gap hl g hg;omega
    .obtain ⟨Gp,g',e1,e2,e3,_⟩:=h.end_ hl;subst e1;rcases AJ.1 hg with hg | hg
     .have:=h.can.before g hg;have:=(h.can.all g' (by simp)).1;omega
     grind
   .rw [h.pts]
    grind [Sm]
  .have ok:Rs M (⟨rd cs i,rd cs (i+1),sec (rd cs i)⟩:C8 β):=⟨hlt,fQ _,he⟩
   have hcan:Cf M (G++[⟨rd cs i,rd cs (i+1),sec (rd cs i)⟩]):=by
    rcases List.eq_nil_or_concat G with rfl | ⟨Gp,g,rfl⟩
    .exact .one _ ok
    .rw [List.concat_eq_append] at*;refine h.can.snoc ok ?_;by_cases hl:s.last=[]
     .have:=h.gap hl g (by simp);exact ⟨by grind,fun e=>by grind⟩
     .obtain ⟨Gp',g',e1,e2,e3,e4,_⟩:=h.end_ hl;obtain ⟨rfl,e⟩:=List.append_inj' e1 rfl;obtain rfl:g=g':=by simpa using e
      refine ⟨by grind,fun _ e=> ?_⟩;rw [Af (show 0<(sec (rd cs i)).length from List.length_pos_iff.2 he),e4,(hs _ _).2 (e2.symm.trans e)] at q;simp at q
   refine ⟨_,hcan,?_,fun e=>absurd e he,fun _=>⟨G,_,rfl,rfl,rfl,rfl,by show s.out.length=_;rw [h.out]⟩,fun x p=> ?_⟩
   .show s.out++_=_;rw [D.flat_append,D.flat_one,h.out]
   .rw [x0w,SA,h.pts]
    grind [Dx]
theorem j0x (hD:D.Fair) (hs: ∀a b,D.same a b=true↔a=b) {γ:Type} (M:Sem β γ) {sec:Int->List β} {cs:zq} (hc:cs.Pairwise (· < ·)) (fQ: ∀x,M.can (sec x)): ∀(k i:Nat) (s:Sw α β) (G:List (C8 β)),i+k<cs.length\/k=0->Inv (D:=D) M sec cs i s G->
  ∃G',Inv (D:=D) M sec cs (i+k) (D.goS sec cs k i s) G'
 | 0,i,s,G,_,h=>⟨G,h⟩
 | k+1,i,s,G,hk,h=>by obtain ⟨G1,h1⟩:=u4w hD hs M hc fQ (show i+1<cs.length by omega) h;obtain ⟨G2,h2⟩:=j0x hD hs M hc fQ k (i+1) _ G1 (by omega) h1;exact ⟨G2,by rw [show i+(k+1)=i+1+k by omega];exact h2⟩
theorem goS_can (hD:D.Fair) (hs: ∀a b,D.same a b=true↔a=b) {γ:Type} (M:Sem β γ) {sec:Int->List β} {cs:zq} (hc:cs.Pairwise (· < ·)) (fQ: ∀x,M.can (sec x)):
  (D.sem hD M).can (D.goS sec cs (cs.length - 1) 0 ⟨[],[],0,0⟩).out /\ ∀x q,CQ (D.sem hD M).inB (D.goS sec cs (cs.length - 1) 0 ⟨[],[],0,0⟩).out (x,q)↔ ∃j,j+1<cs.length/\rd cs j<=x/\x<rd cs (j+1)/\CQ M.inB (sec (rd cs j)) q:=by
 obtain ⟨G,h⟩:=j0x hD hs M hc fQ (cs.length - 1) 0 ⟨[],[],0,0⟩ [] (by omega) ⟨.nil,rfl,fun _ g hg=>by (cases hg),fun e=>absurd rfl e,fun x q=>⟨fun ⟨_,hg,_⟩=>(by cases hg),fun ⟨j,hj,_⟩=>absurd hj (AD _)⟩⟩;refine ⟨⟨G,h.can,h.out⟩,fun x q=> ?_⟩;rw [h.out];rw [show CQ (D.sem hD M).inB (D.flat G) (x,q)↔Dx M G x q from w2v hD M G x q,h.pts]
 grind
end CM
open Go.Proofs Go.Sort Go.Shelf Go.RowKit Go.Lib
def Eb :Sem R2 Int where
 can:=DD
 inB s y:=s.a<=y/\y<s.b
 uniq:=v9j
 some s hs hn:=by
  cases s with
  | nil=>grind
  | cons r l=>exact ⟨r.a,r,by simp,A3 _,hs.pos r (by simp)⟩
 nil:=.nil
def C5 :Sem R4 (Int×Int):=CM.sem S9 Eb
def Ch :Sem R6 (Int×Int×Int):=CM.sem MN C5
namespace CM
variable {α β:Type} {D:CM α β}
theorem inn_slab (l m:List α) (hl: ∀r∈m,r∈l) {j:Nat} (hj:j+1<(D.cuts l).length) {x:Int} (h1:rd (D.cuts l) j<=x) (h2:x<rd (D.cuts l) (j+1)):D.inn m (rd (D.cuts l) j)=D.inn m x:=by
 have hc:(D.cuts l).Pairwise (· < ·):=by show (Kr (D.ends l)).Pairwise (· < ·);rw [Fi];exact (Vi _).1
 have hmem: ∀r∈m,D.lo r∈D.cuts l/\D.hi r∈D.cuts l:=fun r hr=>by show D.lo r∈Kr (D.ends l)/\D.hi r∈Kr (D.ends l);rw [Fi,(Vi _).2,(Vi _).2];exact ⟨AM.2 ⟨r,hl r hr,by simp⟩,AM.2 ⟨r,hl r hr,by simp⟩⟩
 have side: ∀c,c∈D.cuts l->(c<=rd (D.cuts l) j↔c<=x):=fun c hcm=>by
  obtain ⟨i,hi,rfl⟩:=AQ hcm;rw [<-Xm hi];rcases A8 j i with h | h
  .have:rd (D.cuts l) (j+1)<=rd (D.cuts l) i:=by
    rcases Bm (show j+1<=i from h) with e | e
    .grind
    .exact Int.le_of_lt (H1 hc e hi)
   grind
  .have:rd (D.cuts l) i<=rd (D.cuts l) j:=by
    rcases Bm h with e | e
    .grind
    .exact Int.le_of_lt (H1 hc e (by omega))
   grind
 unfold inn
 congr 1
 refine List.filter_congr fun r hr=> ?_
 grind
theorem inn_out (l m:List α) (hl: ∀r∈m,r∈l) {x:Int} (h: ∀j,j+1<(D.cuts l).length -> ¬(rd (D.cuts l) j<=x/\x<rd (D.cuts l) (j+1))):D.inn m x=[]:=by
 unfold inn;rw [List.map_eq_nil_iff,List.filter_eq_nil_iff];intro r hr hb;simp only [Ac,Ao] at hb;have hmem:D.lo r∈D.cuts l/\D.hi r∈D.cuts l:=by show D.lo r∈Kr (D.ends l)/\D.hi r∈Kr (D.ends l);rw [Fi,(Vi _).2,(Vi _).2];exact ⟨AM.2 ⟨r,hl r hr,by simp⟩,AM.2 ⟨r,hl r hr,by simp⟩⟩
 have hc:(D.cuts l).Pairwise (· < ·):=by show (Kr (D.ends l)).Pairwise (· < ·);rw [Fi];exact (Vi _).1
 obtain ⟨i,hi,e1⟩:=AQ hmem.1;obtain ⟨k,hk,e2⟩:=AQ hmem.2;rw [<-Xm hi] at e1;rw [<-Xm hk] at e2;have h0:rd (D.cuts l) 0<=rd (D.cuts l) i:=by
  rcases Bm (AA i) with e | e
  .grind
  .exact Int.le_of_lt (H1 hc e hi)
 obtain ⟨j,j1,j2,j3⟩:=w3u k hk x (by omega) (by omega)
 grind
theorem goJ_can (hD:D.Fair) (hs: ∀a b,D.same a b=true↔a=b) {γ:Type} (M:Sem β γ) (a b:List α) (J:List β->List β->List β) (hJ: ∀x,M.can (J (D.inn a x) (D.inn b x))) (h0:J [] []=[]):
  (D.sem hD M).can (D.goS (fun x=>J (D.inn a x) (D.inn b x)) (D.cuts (a++b)) ((D.cuts (a++b)).length - 1) 0 ⟨[],[],0,0⟩).out /\
  ∀x q,CQ (D.sem hD M).inB (D.goS (fun x=>J (D.inn a x) (D.inn b x)) (D.cuts (a++b)) ((D.cuts (a++b)).length - 1) 0 ⟨[],[],0,0⟩).out (x,q)↔CQ M.inB (J (D.inn a x) (D.inn b x)) q:=by
 have hc:(D.cuts (a++b)).Pairwise (· < ·):=by show (Kr (D.ends (a++b))).Pairwise (· < ·);rw [Fi];exact (Vi _).1
 obtain ⟨h1,h2⟩:=goS_can hD hs M (cs:=D.cuts (a++b)) hc hJ;refine ⟨h1,fun x q=> ?_⟩;rw [h2];constructor
 .grind [inn_slab]
 .intro hp;by_cases hx: ∃j,j+1<(D.cuts (a++b)).length /\rd (D.cuts (a++b)) j<=x/\x<rd (D.cuts (a++b)) (j+1)
  .grind [inn_slab]
  .have hx': ∀j,j+1<(D.cuts (a++b)).length -> ¬(rd (D.cuts (a++b)) j<=x/\x<rd (D.cuts (a++b)) (j+1)):=fun j j1 j2=>hx ⟨j,j1,j2⟩;rw [inn_out (a++b) a (fun r hr=>AJ.2 (.inl hr)) hx',inn_out (a++b) b (fun r hr=>AJ.2 (.inr hr)) hx',h0] at hp;exact absurd hp (Sm _ _)
theorem pt_inn {γ:Type} (inB:β->γ->Prop) (l:List α) (x:Int) (q:γ):CQ inB (D.inn l x) q↔CQ (D.inA inB) l (x,q):=by
 constructor
 .rintro ⟨b,hb,h⟩;obtain ⟨r,hr,rfl⟩:=A2.1 hb;obtain ⟨h1,h2⟩:=Bq.1 hr;simp only [Ac,Ao] at h2;exact ⟨r,h1,h2.1,h2.2,h⟩
 .rintro ⟨r,hr,h1,h2,h3⟩;refine ⟨D.pr r,A2.2 ⟨r,Bq.2 ⟨hr,?_⟩,rfl⟩,h3⟩
  grind
theorem out_goJ (l:List α):D.out l=(D.goS (fun x=>D.mak (D.inn l x)) (D.cuts (l++[])) ((D.cuts (l++[])).length - 1) 0 ⟨[],[],0,0⟩).out :=by rw [AG];unfold out;rw [go_goS];rfl
end CM
theorem y6o (a b:zu):D6.same a b=true↔a=b:=BS
theorem x5p (a b:zp):D4.same a b=true↔a=b:=BS
theorem QW {l:zu} (h: ∀r∈l,CW r=true) (x:Int):(D4.inn l x).all Ca=true:=As.2 fun s hs=>by
 grind [YR,CW,Ca]
theorem v3n {l:zp} (hv:l.all Ca=true) (hl:l.length<=400):Eb.can (Wk l)/\ ∀y,CQ Eb.inB (Wk l) y↔CQ Eb.inB l y:=by
 obtain ⟨c1,c2⟩:=x8t l hv;have e:Wk l=FT l:=by grind [Wk]
 rw [e];exact ⟨c1,c2⟩
theorem v0c {β γ:Type} (M:Sem β γ) {l:List β} (h:M.can l) (hp: ∀q,¬CQ M.inB l q):l=[]:=A9 fun hn=>by obtain ⟨q,hq⟩:=M.some l h hn;exact hp q hq
theorem j2p :Wk []=[]:=by
 grind [v3n,v0c,Sm]
theorem CM.out_nil {α β:Type} (D:CM α β):D.out []=[]:=by
 have h:(D.cuts []).length <=2*0:=D.cuts_length [];have e:(D.cuts []).length - 1=0:=by omega
 unfold CM.out;rw [e];rfl
theorem j4t :Za []=[]:=by
 grind [Za,CM.out_nil]
theorem M0 {l:zu} (hv: ∀r∈l,CW r=true) (hl:l.length<=400):C5.can (D4.out l)/\ ∀p,CQ C5.inB (D4.out l) p↔CQ C5.inB l p:=by rw [CM.out_goJ];have hs: ∀x,Eb.can (D4.mak (D4.inn l x))/\ ∀y,CQ Eb.inB (D4.mak (D4.inn l x)) y↔CQ Eb.inB (D4.inn l x) y:=fun x=>v3n (QW hv x) (AI (D4.inn_length l x) hl);obtain ⟨h1,h2⟩:=CM.goJ_can S9 x5p Eb l [] (fun s _=>D4.mak s) (fun x=>(hs x).1) j2p;refine ⟨h1,fun ⟨x,y⟩=> ?_⟩;rw [show CQ C5.inB _ (x,y)↔_ from h2 x y,(hs x).2,CM.pt_inn];rfl
theorem RE {l:zx} (hv: ∀r∈l,CX r=true) (z:Int): ∀r∈D6.inn l z,CW r=true:=fun r hr=>by
 obtain ⟨s,hs,rfl⟩:=A2.1 hr;have:=Mg (hv s (Bq.1 hs).1);show CW ⟨s.a,s.b,s.d,s.e⟩=true
 grind [CW]
def V5 (l:zx):Prop:= ∀z,(D4.out (D6.inn l z)).length <=400
theorem SF {l:zu} (hv: ∀r∈l,CW r=true) (hl:l.length<=400) (h:(D4.out l).length <=400):Za l=D4.out l/\Xx l=0:=by
 grind [Za,Xx]
theorem j2w {l:zx} (hv: ∀r∈l,CX r=true) (hl:l.length<=400) (hs:V5 l):Ch.can (D6.out l)/\ ∀p,CQ Ch.inB (D6.out l) p↔CQ Ch.inB l p:=by
 rw [CM.out_goJ];have hq: ∀z,C5.can (D6.mak (D6.inn l z))/\ ∀p,CQ C5.inB (D6.mak (D6.inn l z)) p↔CQ C5.inB (D6.inn l z) p:=fun z=>by show C5.can (Za (D6.inn l z))/\ ∀p,CQ C5.inB (Za (D6.inn l z)) p↔_;rw [(SF (RE hv z) (AI (D6.inn_length l z) hl) (hs z)).1];exact M0 (RE hv z) (AI (D6.inn_length l z) hl)
 obtain ⟨h1,h2⟩:=CM.goJ_can MN y6o C5 l [] (fun s _=>D6.mak s) (fun x=>(hq x).1) j4t;refine ⟨h1,fun ⟨z,p⟩=> ?_⟩;rw [show CQ Ch.inB _ (z,p)↔_ from h2 z p,(hq z).2,CM.pt_inn];rfl
end Go.Am
end
