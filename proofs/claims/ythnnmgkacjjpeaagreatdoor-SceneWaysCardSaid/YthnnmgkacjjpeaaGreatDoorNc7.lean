/- A part of a proof: several texts in one. -/
import Derived.Test.YthnnmgkacjjpeaaGreatDoorNc6
import Derived.ChangeArms
set_option maxRecDepth 1000000
set_option maxHeartbeats 8000000
set_option linter.unusedVariables false
set_option linter.unusedSimpArgs false
noncomputable section
namespace Go.Am
open IntKind (wrap)
open Go.Proofs Go.Sort Go.Shelf Go.RowKit Go.Lib
theorem v6t {l:List B4} {i:Nat}: ∀(k j:Nat),j<=i->i<j+k->(∀m,j<=m->m<i->Xa l (m:Int)≠Xa l (i:Int))->Na l (Xa l (i:Int)) k j=((i:Int),0)
 | 0,j,h1,h2,_=>by omega
 | k+1,j,h1,h2,h3=>by
  rw [Na];by_cases e:j=i
  .subst e;rw [Bl];rfl
  .rw [show (Xa l (j:Int) == Xa l (i:Int))=false by rw [Gi];exact Ah (h3 j (Ak _) (by omega)),Ab];exact v6t k (j+1) (by omega) (by omega) fun m hm hi=>h3 m (by omega) hi
theorem w6m {l:List B4} (ho:Yk l=true) (ht:(l.all fun x=>decide (0<=x.t))=true) (h:Ui l=0) {i:Nat} (hi:i<l.length):GN l (Xa l (i:Int))=((i:Int),0):=by
 obtain ⟨hT,hn,hok⟩:=x2p ho ht h;unfold GN;rw [Ut h,Ab,Ut (hT.path i hi).2.1,Ab];exact v6t l.length 0 (AG _) (by omega) fun m _ hm e=>by have:=(x3d (hok i hi) (fun a b hab hb=>hn a b hab (by omega)) hm).1 e;exact hn m i hm hi this
theorem w9z {M:List (List UInt8)} (h:M≠ []) (n:List UInt8):Lib.join (M++[n]) [47]=Lib.join M [47]++47::n:=by
 cases M with
 | nil=>exact absurd rfl h
 | cons x r=>rw [A3,join_cons,join_cons];simp [joinTail]
theorem u2d {l:List B4} {i:Nat} (h:FF l i) (ha:(rd l i).a <0):Xa l (i:Int)=(rd l i).n :=by have hj:Xa l (i:Int)=Lib.join (Cx l (i:Int)).reverse [47]:=rfl;rw [hj,Kg h.1 (Ak i),Pb l ha,BN];show Lib.join ([]++[(rd l i).n]) [47]=_;exact join_one _ _
theorem j1y {l:List B4} {i q:Nat} (h:FF l i) (ha:(rd l i).a =(q:Int)):Xa l (i:Int)=Xa l (q:Int)++47::(rd l i).n :=by have hb:=Kq h.1 (Ak i);have hj:Xa l (i:Int)=Lib.join (Cx l (i:Int)).reverse [47]:=rfl;have hq:Xa l (q:Int)=Lib.join (Cx l (q:Int)).reverse [47]:=rfl;have eq:=Kg h.1 (show q<=i by omega);rw [hj,hq,Kg h.1 (Ak i),ha,BN,w9z (by rw [eq];simp)]
abbrev Oq :Nat:=15
open Go.Proofs.Tryz
theorem v9p :Vv CR=0:=by rw [x4m];kernel_rfl
theorem v9q :Vv []=0:=by rw [x4m];kernel_rfl
theorem u9n {l:List B4} (h: ∀x∈l,Vv x.s=0):EL l=0:=by
 unfold EL;have:l.find? (fun x=>Vv x.s != 0)=none:=List.find?_eq_none.2 fun x hx=>by rw [h x hx];simp
 rw [this]
theorem MS {l:List B4} (hl:l.length<=200) (h:EL l=0):Ui l=bif (List.range l.length).any (DW l) then 8 else 0:=by unfold Ui;rw [Ah (by omega),Ab,Ut h,Ab]
theorem v9j :EL B9=0:=u9n fun x hx=>by
 rcases AN.1 hx with rfl | hx
 .exact v9p
 .rw [Bc.1 hx];exact v9q
theorem v9e :Yk B9=true:=rfl
theorem v9d :(B9.all fun x=>decide (0<=x.t))=true:=rfl
theorem x9q :Ui B9=0:=by rw [MS (by decide) v9j];rfl
theorem ito0 :itoa 0=[48]:=by rw [show (0:Int)=((0:Nat):Int) from rfl,itoa_nonneg,decDigits_one (by omega)];rfl
theorem ito1 :itoa 1=[49]:=by rw [show (1:Int)=((1:Nat):Int) from rfl,itoa_nonneg,decDigits_one (by omega)];rfl
theorem ito2 :itoa 2=[50]:=by rw [show (2:Int)=((2:Nat):Int) from rfl,itoa_nonneg,decDigits_one (by omega)];rfl
theorem ito9 :itoa 9=[57]:=by rw [show (9:Int)=((9:Nat):Int) from rfl,itoa_nonneg,decDigits_one (by omega)];rfl
theorem u1p :Xa B9 0=[97]:=rfl
theorem u1o :Xa B9 1=[97,47,98]:=rfl
theorem x2i :Dh B9 B9.length 0=C9:=by have e0:Fx B9 0=Fa (Xa B9 0) (B4.mk [97] (-1) 9 1 0 0 CR)++FT CR:=rfl;have e1:Fx B9 1=Fa (Xa B9 1) (B4.mk [98] 0 0 2 0 0 [])++[]:=rfl;show Fx B9 0++(Fx B9 1++[])=C9;rw [e0,e1,u1p,u1o];unfold Fa CR FT FT Fr;simp only [GA,ito0,ito1,ito2,ito9];rfl
theorem v2j :EM B9=C9/\EY B9=0:=by unfold EM EY;rw [Ut x9q,x2i];exact ⟨rfl,rfl⟩
theorem v4u :Dx C9=(B9,0):=by have:=v2k v9e v9d x9q (by rw [x2i];decide) (by decide);rwa [x2i] at this
theorem WC :Fs B9 1=0:=by unfold Fs;rw [Ut x9q];rfl
theorem j5y : ∃N,Yw w3y N RT=.ret [.bool true]:=⟨0,by
 show RT=_;have p0:Jp C9=B9:=by unfold Jp;rw [v4u]
 have p1:Ff C9=0:=by unfold Ff;rw [v4u]
 have a1:Em B9 1=0:=WC;have a0:Jc B9 1=[97,47,98]:=by unfold Jc;rw [Ut WC];rfl
 have q1:Qj B9 1=0:=by unfold Qj;rw [Ut WC];rfl
 have q0:Yr B9 1=⟨9,1,2,0⟩:=by unfold Yr;rw [Ut WC];rfl
 unfold RT;simp only [Yg,p0,p1,a0,a1,q0,q1,v2j.1,v2j.2,v3i];rw [Zp (show L7 B9=true from rfl),Zp (show L5 B9 1=true from rfl),Zp (show Kf B9 1=true from rfl),Zp (show UB C9=true from rfl),Zp (show PX B9 B9=true from rfl)];rfl⟩
abbrev Tm :Nat:=Oq
def Of :List B1->Option (B1×Bool)
 | []=>some (.bool true,true)
 | _=>none
theorem j5i {S:B3} (hS:Zv prog S):Zv prog (S.with Tm Of):=CP hS (by kernel_rfl) fun args v h=>by
 unfold Of at h;split at h
 .simp only [Ae,Ac,and_true] at h;subst h;obtain ⟨N,hN⟩:=j5y;exact ⟨_,_,.nil,rfl,u4y N _ hN,3,rfl⟩
 .cases h
def SYr :B3:=SYa.with Tm Of
theorem PB :Zv prog SYr:=j5i Ds
def SYw :B3:=(SYr.with T0 O5).with No IG
theorem Dt :Zv prog SYw:=v7f (j4z PB)
section
attribute [local irreducible] Ui Jp Ff EM EY Jc Em Yr Qj Li Lj u7s NT u7i NI
abbrev x3s (l0:List B4) (x1:Int):=(EG (rd l0 (tn x1)).t (rd l0 (tn x1)).x (rd l0 (tn x1)).y (rd l0 (tn x1)).z (Yr (B2 l0) (rd l0 (tn x1)).a).a (Yr (B2 l0) (rd l0 (tn x1)).a).b (Yr (B2 l0) (rd l0 (tn x1)).a).c (Yr (B2 l0) (rd l0 (tn x1)).a).d)
abbrev X4 (l0:List R7):=(u7i (u7s (B2 l0)))
abbrev X3 (l0:List B4):=(Jp (EM (B2 l0)))
inductive GJ where
def NW (l0:List B4) (x1:Int):GJ->CE
 :=nofun
def w1p (l0:List B4) (x1:Int):GJ->Xu GJ
 :=nofun
def Rb (l0:List B4) (x1:Int):Xu GJ:=(bif (!(Nb (B2 l0))) then (bif (decide ((l0.length:Int)<=12)) then (bif (Yk (B2 l0)) then (bif (!((Ui (B2 l0)) == 0)) then (.ret [(.bool true)]) else (bif (decide (x1<0)) then (.ret [(.bool true)]) else (bif (decide (x1>=(l0.length:Int))) then (.ret [(.bool true)]) else (bif (L5 (B2 l0) x1) then (bif (PT (B2 l0) (Jc (B2 l0) x1)) then (bif (Kf (B2 l0) x1) then (bif ((Em (B2 l0) x1) != 0) then (.ret [(.bool false)]) else (bif ((Lj (B2 l0) (Jc (B2 l0) x1)) != 0) then (.ret [(.bool false)]) else (bif ((Li (B2 l0) (Jc (B2 l0) x1)) != x1) then (.ret [(.bool false)]) else (bif ((decide (0<=x1/\x1<(l0.length:Int)))&&true) then (bif (decide ((rd l0 x1.toNat).a <0)) then (bif ((Jc (B2 l0) x1) == (rd l0 x1.toNat).n) then (bif ((Qj (B2 l0) x1) == 0) then (.ret [(.bool (((Yr (B2 l0) x1).a == (rd l0 x1.toNat).t)&&((((Yr (B2 l0) x1).b == (rd l0 x1.toNat).x)&&(((Yr (B2 l0) x1).c == (rd l0 x1.toNat).y)&&(((Yr (B2 l0) x1).d == (rd l0 x1.toNat).z)&&true)))&&true)))]) else (.ret [(.bool false)])) else (.ret [(.bool false)])) else (bif (L5 (B2 l0) (rd l0 x1.toNat).a) then (bif (Kf (B2 l0) (rd l0 x1.toNat).a) then (bif ((Em (B2 l0) (rd l0 x1.toNat).a) != 0) then (.ret [(.bool false)]) else (bif (JF (Jc (B2 l0) (rd l0 x1.toNat).a) ([47]:List UInt8)) then (bif (JF ((Jc (B2 l0) (rd l0 x1.toNat).a)++([47]:List UInt8)) (rd l0 x1.toNat).n) then (bif (!((Jc (B2 l0) x1) == (((Jc (B2 l0) (rd l0 x1.toNat).a)++([47]:List UInt8))++(rd l0 x1.toNat).n))) then (.ret [(.bool false)]) else (bif ((Qj (B2 l0) (rd l0 x1.toNat).a) != 0) then (bif ((Qj (B2 l0) (rd l0 x1.toNat).a) == 16) then (.ret [(.bool ((Qj (B2 l0) x1) == 16))]) else (.ret [(.bool false)])) else (bif (Km (rd l0 x1.toNat).t (rd l0 x1.toNat).x (rd l0 x1.toNat).y (rd l0 x1.toNat).z (Yr (B2 l0) (rd l0 x1.toNat).a).a (Yr (B2 l0) (rd l0 x1.toNat).a).b (Yr (B2 l0) (rd l0 x1.toNat).a).c (Yr (B2 l0) (rd l0 x1.toNat).a).d) then (bif ((Qj (B2 l0) x1) == (Fg (rd l0 x1.toNat).t (rd l0 x1.toNat).x (rd l0 x1.toNat).y (rd l0 x1.toNat).z (Yr (B2 l0) (rd l0 x1.toNat).a).a (Yr (B2 l0) (rd l0 x1.toNat).a).b (Yr (B2 l0) (rd l0 x1.toNat).a).c (Yr (B2 l0) (rd l0 x1.toNat).a).d)) then (.ret [(.bool (((Yr (B2 l0) x1).a == (EG (rd l0 x1.toNat).t (rd l0 x1.toNat).x (rd l0 x1.toNat).y (rd l0 x1.toNat).z (Yr (B2 l0) (rd l0 x1.toNat).a).a (Yr (B2 l0) (rd l0 x1.toNat).a).b (Yr (B2 l0) (rd l0 x1.toNat).a).c (Yr (B2 l0) (rd l0 x1.toNat).a).d).a)&&((((Yr (B2 l0) x1).b == (EG (rd l0 x1.toNat).t (rd l0 x1.toNat).x (rd l0 x1.toNat).y (rd l0 x1.toNat).z (Yr (B2 l0) (rd l0 x1.toNat).a).a (Yr (B2 l0) (rd l0 x1.toNat).a).b (Yr (B2 l0) (rd l0 x1.toNat).a).c (Yr (B2 l0) (rd l0 x1.toNat).a).d).b)&&(((Yr (B2 l0) x1).c == (EG (rd l0 x1.toNat).t (rd l0 x1.toNat).x (rd l0 x1.toNat).y (rd l0 x1.toNat).z (Yr (B2 l0) (rd l0 x1.toNat).a).a (Yr (B2 l0) (rd l0 x1.toNat).a).b (Yr (B2 l0) (rd l0 x1.toNat).a).c (Yr (B2 l0) (rd l0 x1.toNat).a).d).c)&&(((Yr (B2 l0) x1).d == (EG (rd l0 x1.toNat).t (rd l0 x1.toNat).x (rd l0 x1.toNat).y (rd l0 x1.toNat).z (Yr (B2 l0) (rd l0 x1.toNat).a).a (Yr (B2 l0) (rd l0 x1.toNat).a).b (Yr (B2 l0) (rd l0 x1.toNat).a).c (Yr (B2 l0) (rd l0 x1.toNat).a).d).d)&&true)))&&true)))]) else (.ret [(.bool false)])) else .stuck))) else .stuck) else .stuck)) else .stuck) else .stuck)) else .stuck)))) else .stuck) else .stuck) else .stuck)))) else .stuck) else (.ret [(.bool true)])) else (.ret [(.bool true)]))
theorem w9l (l0:List B4) (x1:Int): ∀s,Wj prog (Zy prog 5) (NW l0 x1) (NW l0 x1 s) (w1p l0 x1 s)
 :=nofun
theorem w1q (l0:List B4) (x1:Int):Wj prog (Zy prog 5) (NW l0 x1) (Zg prog 5 [(.dat l0.length (Zz l0)),(.int .i64 x1)] true []) (Rb l0 x1):=let p:=pp (xr l0) nn;(lb (fun k0=>(lb (fun k1=>(lo fun bH=>let g:=pp (pp (xr l0) (xw bH)) (tt k1 (tt k0 p));(lb (fun k2=>(lr 161 5 [1,1,0,1,0,0] 1 3 [(4,(.bool true))] (sl Dt 58 [] (b8 [4]) b7 (CA 15 []) (tt k2 g)))) (fun k2=>(lb (fun k3=>(lr 161 5 [1,1,0,1,0,0] 1 3 [(4,(.bool true))] (sl Dt 58 [] (b8 [4]) b7 (CA 6 (bl 9 508)) (tt k3 (tt k2 g))))) (fun k3=>let r:=tt k3 (tt k2 g);(lb (fun k4=>(lr 161 5 [1,1,0,1,0,0] 1 3 [(4,(.bool true))] (sl Dt 58 [] (b8 [4]) b7 (CA 6 (bl 9 448)) (tt k4 r)))) (fun k4=>(lo fun cW=>(lo fun dK=>(lo fun dU=>let e:=pp (pp (xr l0) (xw dU)) (pp (pp (xr l0) (xw dK)) (pp (pp (xr l0) (xw cW)) (tt k4 r)));(lb (fun k5=>(lr 161 5 [1,1,1,1,1,1,0,1,0,0] 1 3 [(4,(.bool false))] (sl Dt 108 [] (b8 [4]) b7 (CA 6 (bl 15 32256)) (tt k5 e)))) (fun k5=>(lb (fun k6=>(lr 161 5 [1,1,1,1,1,1,0,1,0,0] 1 3 [(4,(.bool false))] (sl Dt 108 [] (b8 [4]) b7 (CA 6 (bl 15 30720)) (tt k6 (tt k5 e))))) (fun k6=>let s:=tt k6 (tt k5 e);(lb (fun k7=>(lr 161 5 [1,1,1,1,1,1,0,1,0,0] 1 3 [(4,(.bool false))] (sl Dt 108 [] (b8 [4]) b7 (CA 6 (bl 15 16384)) (tt k7 s)))) (fun k7=>(lo fun cX=>let h:=ww cX (tt k7 s);let i:=Yr (B2 l0) x1;(lb (fun k8=>let n:=ww cX (tt k8 h);(lb (fun k9=>(lb (fun k10=>let l:=rd l0 (tn x1);(lr 161 5 [1,1,1,1,1,1,1,0,1,0,0] 1 3 [(4,(.bool ((i.a == l.t)&&(((i.b == l.x)&&((i.c == l.y)&&((i.d == l.z)&&true)))&&true))))] (sl Dt 118 [] (b8 [4]) b7 (CA 6 (bl 32 4294934528)) (ww cX (tt k10 (tt k9 n)))))) (fun k10=>(lr 161 5 [1,1,1,1,1,1,1,0,1,0,0] 1 3 [(4,(.bool false))] (sl Dt 118 [] (b8 [4]) b7 (CA 6 (bl 32 33521664)) (tt k10 (tt k9 n))))))) (fun k9=>(lr 161 5 [1,1,1,1,1,1,1,0,1,0,0] 1 3 [(4,(.bool false))] (sl Dt 118 [] (b8 [4]) b7 (CA 6 (bl 32 8355840)) (tt k9 n)))))) (fun k8=>(lo fun eB=>(lo fun eC=>let j:=pp (pp (xr l0) (xw eC)) (ww cX (pp (pp (xr l0) (xw eB)) (ww cX (tt k8 h))));(lb (fun k9=>(lr 161 5 [1,1,1,1,1,1,1,1,1,1,0,1,0,0] 1 3 [(4,(.bool false))] (sl Dt 171 [] (b8 [4]) b7 (CA 6 (bl 27 134152192)) (tt k9 j)))) (fun k9=>(lo fun dX=>(lo fun dY=>let f:=ww dY (ww cX (ww dX (tt k9 j)));(lb (fun k10=>(lr 161 5 [1,1,1,1,1,1,1,1,1,1,0,1,0,0] 1 3 [(4,(.bool false))] (sl Dt 171 [] (b8 [4]) b7 (CA 6 (bl 27 67108864)) (tt k10 f)))) (fun k10=>(lb (fun k11=>let q:=tt k11 (tt k10 f);(lb (fun k12=>(lr 161 5 [1,1,1,1,1,1,1,1,1,1,1,0,1,0,0] 1 3 [(4,(.bool ((Qj (B2 l0) x1) == 16)))] (sl Dt 188 [] (b8 [4]) b7 (CA 6 (bl 32 4160749568)) (tt k12 q)))) (fun k12=>(lr 161 5 [1,1,1,1,1,1,1,1,1,1,1,0,1,0,0] 1 3 [(4,(.bool false))] (sl Dt 188 [] (b8 [4]) b7 (CA 6 (bl 32 939524096)) (tt k12 q)))))) (fun k11=>(lo fun eE=>let m:=ww eE (ww cX (tt k11 (tt k10 f)));(lb (fun k12=>let o:=x3s l0 x1;(lr 161 3 [1,1,1,1,1,1,0] 1 3 [(4,(.bool ((i.a == o.a)&&(((i.b == o.b)&&((i.c == o.c)&&((i.d == o.d)&&true)))&&true))))] (sl Dt 193 [] (b8 [4]) b7 (CA 6 (bl 34 16911433728)) (tt k12 m)))) (fun k12=>(lr 161 3 [1,1,1,1,1,1,0] 1 3 [(4,(.bool false))] (sl Dt 193 [] (b8 [4]) b7 (CA 6 (bl 34 1879048192)) (tt k12 m)))))))))))))))))))))))))))))))))))) (fun k1=>(lr 161 5 [1,1,0,1,0,0] 1 3 [(4,(.bool true))] (sl Dt 58 [] (b8 [4]) b7 (CA 3 (bl 12 4088)) (tt k1 (tt k0 p))))))) (fun k0=>(lr 161 5 [1,1,0,1,0,0] 1 3 [(4,(.bool true))] (sl Dt 58 [] (b8 [4]) b7 (bl 15 32704) (tt k0 p)))))
theorem lwy_ends (l0:List B4) (x1:Int) (n:Nat) (vs:List B1) (h:Yw (w1p l0 x1) n (Rb l0 x1)=.ret vs):Js prog (Zy prog 5) (Zg prog 5 [(.dat l0.length (Zz l0)),(.int .i64 x1)] true []) vs:=by have:=Ze (w9l l0 x1) n _ (w1q l0 x1);rwa [h] at this
end
theorem v5b {l:List B4} (hN: ∀j,j<l.length->EZ (rd l j)) (hok: ∀j,j<l.length->FF l j): ∀(m j:Nat),j<m->j<l.length->((CT l (j:Int)).2=0/\Ce (CT l (j:Int)).1.a (CT l (j:Int)).1.b (CT l (j:Int)).1.c (CT l (j:Int)).1.d =0)\/(CT l (j:Int)).2=16
 | 0,j,h,_=>absurd h (AC _)
 | m+1,j,hm,hj=>by
  have hk:Ce (rd l j).t (rd l j).x (rd l j).y (rd l j).z =0:=by have h:=hN j hj;have ht:=h.t;unfold Ce;rw [Ah (show ¬24<=(rd l j).t by omega),Ab,(WH _ _ _).2 ⟨h.x,h.y,h.z⟩];rfl
  rw [QG (hok j hj).1 (Ak j)];have hb:=Kq (hok j hj).1 (Ak j);by_cases h:(rd l j).a <0
  .rw [Aa h];exact .inl ⟨rfl,hk⟩
  .obtain ⟨p,hp⟩: ∃p:Nat,(rd l j).a =(p:Int):=⟨(rd l j).a.toNat,by omega⟩
   rw [Ah h,Ab,hp];rcases v5b hN hok m p (by omega) (by omega) with ⟨e1,e2⟩ | e
   .rw [Ut e1,Ab];show ((HP (Gg (rd l j)) (CT l (p:Int)).1).2=0/\_)\/(HP (Gg (rd l j)) (CT l (p:Int)).1).2=16;unfold HP Gg;simp only [];unfold EG Fg;rw [Ut hk,Ab,Ut e2,Ab];generalize DY (rd l j).t (rd l j).x (rd l j).y (rd l j).z (CT l (p:Int)).1.a (CT l (p:Int)).1.b (CT l (p:Int)).1.c (CT l (p:Int)).1.d =w;by_cases e3:Ce w.a w.b w.c w.d=0
    .rw [Ut e3];exact .inl ⟨rfl,e3⟩
    .rw [Qv e3];exact .inr rfl
   .right;rw [show ((CT l (p:Int)).2 != 0)=true by rw [e];rfl,Af];exact e
theorem u8m {l:List B4} {i:Int} (h:Ui l=0) (h0: ¬i<0) (h1: ¬i>=(l.length:Int)):Fs l i=0:=by unfold Fs;rw [Ut h,Ab,Ah h0,Ab,Ah h1];rfl
theorem lwy_run (l:List B4) (x:Int) (ht:(l.all fun x=>decide (0<=x.t))=true): ∃N,Yw (w1p l x) N (Rb l x)=.ret [.bool true]:=⟨0,by
 show Rb l x=_;unfold Rb;simp only [Yg];cases g:Nb l with
 | true=>rfl
 | false=>
  rw [AD,Af];by_cases h12:l.length<=12
  .have ho:=u3p g;rw [Aa (show (l.length:Int)<=12 by omega),Af,Zp ho];by_cases h:Ui l=0
   .rw [Ld h,Ax,Ab];by_cases x0:x<0
    .rw [Aa x0];rfl
    .by_cases x1:x>=(l.length:Int)
     .rw [Ah x0,Ab,Aa x1];rfl
     .obtain ⟨i,rfl⟩: ∃i:Nat,x=(i:Int):=⟨x.toNat,by omega⟩
      have hi:i<l.length:=(by omega);obtain ⟨hT,hn,hok⟩:=x2p ho ht h;have hp:=(hT.path i hi).2.2;have hc:=u8m h x0 x1;have a0:Jc l (i:Int)=Xa l (i:Int):=by unfold Jc;rw [Ut hc];rfl
      have a1:Em l (i:Int)=0:=hc;have f0:Li l (Xa l (i:Int))=(i:Int):=by unfold Li;rw [w6m ho ht h hi]
      have f1:Lj l (Xa l (i:Int))=0:=by unfold Lj;rw [w6m ho ht h hi]
      have q0:Yr l (i:Int)=(CT l (i:Int)).1:=by unfold Yr;rw [Ut hc];rfl
      have q1:Qj l (i:Int)=(CT l (i:Int)).2:=by unfold Qj;rw [Ut hc];rfl
      have hb:=Kq (hok i hi).1 (Ak i);have hpo: ∀j:Int,L5 l j=true:=fun j=>ho;have hqo: ∀j:Int,Kf l j=true:=fun j=>by unfold Kf;rw [ho,ht];rfl
      rw [Ah x0,Ab,Ah x1,Ab,Zp (hpo _),a0,a1,q0,q1];rw [Zp (show PT l (Xa l (i:Int))=true by unfold PT;rw [ho,Aa hp];rfl),Zp (hqo _),f0,f1];rw [show ((0:Int) != 0)=false from rfl,Ab,Ab,show ((i:Int) != (i:Int))=false by simp,Ab,Ap,Zp (Ym (by omega)),Zj];by_cases ha:(rd l i).a <0
      .have eq:CT l (i:Int)=(Gg (rd l i),0):=by rw [QG (hok i hi).1 (Ak i),Aa ha];rfl
       rw [Aa ha,Af,u2d (hok i hi) ha,Bl,Af,eq];show (bif (0:Int) == 0 then (.ret [.bool (((rd l i).t == (rd l i).t)&&((((rd l i).x == (rd l i).x)&&(((rd l i).y == (rd l i).y)&&(((rd l i).z == (rd l i).z)&&true)))&&true))]:Xu GJ) else _)=_;simp
      .obtain ⟨q,hq⟩: ∃q:Nat,(rd l i).a =(q:Int):=⟨(rd l i).a.toNat,by omega⟩
       have hql:q<l.length:=(by omega);have hcq:=u8m (i:=(q:Int)) h (by omega) (by omega);have b0:Jc l (q:Int)=Xa l (q:Int):=by unfold Jc;rw [Ut hcq];rfl
       have b1:Em l (q:Int)=0:=hcq;have r0:Yr l (q:Int)=(CT l (q:Int)).1:=by unfold Yr;rw [Ut hcq];rfl
       have r1:Qj l (q:Int)=(CT l (q:Int)).2:=by unfold Qj;rw [Ut hcq];rfl
       have hpq:=(hT.path q hql).2.2;have hnm:(rd l i).n.length <=500:=by have:=(v6n g).2.2 _ (IW hi);omega
       have hpu:=j1y (hok i hi) hq;have eq:CT l (i:Int)=bif (CT l (q:Int)).2 != 0 then (z4,(CT l (q:Int)).2) else HP (Gg (rd l i)) (CT l (q:Int)).1:=(by rw [QG (hok i hi).1 (Ak i),Ah ha,Ab,hq]);rw [Ah ha,Ab,hq,Zp (hpo _),Zp (hqo _),b0,b1,r0,r1];rw [show ((0:Int) != 0)=false from rfl,Ab,Zp (SA (by simp only [AJ];omega)),Zp (SA (by simp only [As,AJ];omega))];rw [show (Xa l (i:Int) == Xa l (q:Int)++[47]++(rd l i).n)=true by rw [hpu,AU];simp,Ax,Ab];rcases v5b hT.node hok (q+1) q (BJ q) hql with ⟨e1,e2⟩ | e1
       .rw [Ut e1,Ab] at eq;have tq:=ZH (hok q hql).1 ht (q+1) q (BJ q) (Ak q);rw [Ut e1,Ab];rw [Zp (show Km (rd l i).t (rd l i).x (rd l i).y (rd l i).z (CT l (q:Int)).1.a (CT l (q:Int)).1.b (CT l (q:Int)).1.c (CT l (q:Int)).1.d =true by unfold Km;rw [Aa (RR ht i),Aa tq];rfl)];rw [eq];unfold HP Gg;simp
       .rw [show ((CT l (q:Int)).2 != 0)=true by rw [e1];rfl,Af] at eq;rw [show ((CT l (q:Int)).2 != 0)=true by rw [e1];rfl,Af,Ld e1,Af,eq,e1];rfl
   .rw [Pe h];rfl
  .rw [Ah (show ¬(l.length:Int)<=12 by omega)];rfl⟩
open Go.ChangeShapes Go.WideShapes Go.Deep
section
variable {P:Program}
def j3l (P:Program) (e:TypeId):List (TypeId×Nat):=match P.underlying e with
 | some (.struct fs)=>fs.toList.map fun f=>(f.type,f.offset)
 | _=>[]
theorem v6v {e t0 t1 t2 t3:TypeId} {a b c d:Nat} (h:j3l P e=[(t0,a),(t1,b),(t2,c),(t3,d)]): ∃fs:Array Field,P.underlying e=some (.struct fs)/\fs.size=4/\(∃f0,fs[0]? =some f0/\f0.type=t0/\f0.offset=a)/\(∃f1,fs[1]? =some f1/\f1.type=t1/\f1.offset=b)/\(∃f2,fs[2]? =some f2/\f2.type=t2/\f2.offset=c)/\ ∃f3,fs[3]? =some f3/\f3.type=t3/\f3.offset=d:=by
 unfold j3l at h;split at h
 .rename_i fs hu;refine ⟨fs,hu,?_⟩;obtain ⟨l⟩:=fs;simp only at h
  match l,h with
  | [f0,f1,f2,f3],h=>simp only [A2,List.map_nil,Bi,Ac,and_true] at h;exact ⟨rfl,⟨f0,rfl,h.1.1,h.1.2⟩,⟨f1,rfl,h.2.1.1,h.2.1.2⟩,⟨f2,rfl,h.2.2.1.1,h.2.2.1.2⟩,f3,rfl,h.2.2.2.1,h.2.2.2.2⟩
 .cases h
abbrev N1 :List IntKind:=[.i64,.i64,.i64,.i64,.i64,.i64]
abbrev ksF :List IntKind:=[.u8,.i64,.i64,.i64]
variable {HH:Type} {enc:TypeId×Value->HH} {w:World} {base:Nat} {gR:Bool}
theorem w9b {t e:TypeId} {ks:List IntKind} {cs:List Value} {x:DataW HH×List MemPlace} {fuel:Nat} (ht:P.underlying t=some (.slice e)) (hk:Ia P 30 e=some ks) (hks:1<=ks.length)
  (h:DataW.trod enc P w base (fun _=>true) gR fuel t cs=some x):
  ∃(v:Value) (n:Nat) (c:Nat->Nat->Int),cs=[v]/\Zr (DA fun k=>w.heap[k]?) (.dat n (fun i=>Ih ks (c i))) v:=by
 rcases open_slice ht h with ⟨h0,rfl⟩ | ⟨a,len,cap,m,fl,D,Pl,hcs,hb,hl,eR,hm,rfl,hi⟩
 .exact ⟨_,0,fun _ _=>0,h0,.datn _⟩
 .simp only [if_true] at hm;subst hm;by_cases hc0:m=0
  .subst hc0;obtain rfl:len=0:=by omega
   exact ⟨_,0,fun _ _=>0,hcs,.datz _ _ _⟩
  .have hspot:a.spot=none:=by
    obtain ⟨cs',hc',ht'⟩:=hi 0 (by omega);have I:=Q9 30 e ks hk _ _ _ ht';obtain ⟨_,eK,fD⟩:=World.cells?_some hc';have h1:=fD 0 (by rw [<-eK,I.length];exact hks);obtain ⟨blk,off,spot⟩:=a;have h2:cs'[0]? =some (cs'[0]'(by rw [I.length];exact hks)):=(by simp);rw [h2] at h1
    simpa [Addr.add] using World.cell?_spot h1
   obtain ⟨blk,off,spot⟩:=a;simp only at hspot;subst hspot;obtain ⟨c,h1,h2⟩:=u4n (w:=w) hk hl hl hi;exact ⟨_,len,c,hcs,h1⟩
def PD (x:B4):Prop:=(0<=x.t/\x.t<256)/\(-9223372036854775808<=x.a/\x.a<=9223372036854775807)/\(-9223372036854775808<=x.x/\x.x<=9223372036854775807)/\(-9223372036854775808<=x.y/\x.y<=9223372036854775807)/\(-9223372036854775808<=x.z/\x.z<=9223372036854775807)
theorem open_nodes {t e tS tI tF tL b:TypeId} {v:Value} {d:DataW HH} {p:List MemPlace} (ht:P.underlying t=some (.slice e)) (hs:j3l P e=[(tS,0),(tI,1),(tF,2),(tL,6)]) (ce:P.cellsOf e=7) (c0:P.cellsOf tS=1) (c1:P.cellsOf tI=1) (c2:P.cellsOf tF=4) (c3:P.cellsOf tL=1)
  (uS:P.underlying tS=some .string) (kI:Ia P 30 tI=some [.i64]) (kF:Ia P 30 tF=some ksF) (u1:P.underlying tL=some (.slice b)) (kb:Ia P 30 b=some N1) {b0:Nat} (hv:Value.okWide P w .any b0 t v) (h:DataW.Trod enc P w base (fun _=>true) gR t v d p):
  ∃X:List B4,Zr (DA fun k=>w.heap[k]?) (.dat X.length (Zz X)) v/\ ∀x∈X,PD x:=by
 obtain ⟨fuel,h⟩:=h;have hvc:v.cells.toList=[v]:=by
  unfold Value.okWide at hv;rw [ht] at hv;unfold Cell.okWide at hv;rw [ht] at hv;cases v <;> first | rfl | (simp [Cell.ok,ht] at hv)
 rcases open_slice ht h with ⟨h0,_⟩ | ⟨a,len,cap,m,fl,D,Pl,hcs,hb,hl,eR,hm,hx,hi⟩
 .rw [hvc] at h0;obtain rfl:v=.slice none 0 0:=by simpa using h0
  exact ⟨[],.datn _,fun x hx=>by cases hx⟩
 .rw [hvc] at hcs;obtain rfl:v=.slice (some a) len cap:=by simpa using hcs
  have hspot:a.spot=none:=by unfold Value.okWide at hv;rw [ht] at hv;unfold Cell.okWide at hv;rw [ht] at hv;simp only [Cell.ok,ht] at hv;exact hv.2.2.2.1
  obtain ⟨blk,off,spot⟩:=a;simp only at hspot;subst hspot;simp only [if_true] at hm;subst hm;obtain ⟨fs,hu,hsz,⟨f0,hf0,rfl,o0⟩,⟨f1,hf1,rfl,o1⟩,⟨f2,hf2,rfl,o2⟩,f3,hf3,rfl,o3⟩:=v6v hs;have key: ∀i,i<len-> ∃q:B4×(Nat->Value),(∀j,j<7->w.cell? ⟨blk,off+(i*7+j),none⟩=some (q.2 j))/\(∀j (hj:j<7),Zr (DA fun k=>w.heap[k]?) ((Xk.cells q.1)[j]'hj) (q.2 j))/\PD q.1:=by
   intro i hil;obtain ⟨cs',hc',ht'⟩:=hi i (by omega);obtain ⟨xs,n,_,hx',hcl,hxl,hf⟩:=DataW.trod_struct hu ht';have eK:cs'.length=7:=hcl.trans ce;have fD:=(World.cells?_some hc').2.2;have g0:=hf 0 f0 hf0;have g1:=hf 1 f1 hf1;have g2:=hf 2 f2 hf2;have g3:=hf 3 f3 hf3;rw [o0,c0,AQ] at g0;rw [o1,c1] at g1;rw [o2,c2] at g2;rw [o3,c3] at g3;rw [Ar (show 0<xs.length by omega)] at g0;rw [Ar (show 1<xs.length by omega)] at g1;rw [Ar (show 2<xs.length by omega)] at g2;rw [Ar (show 3<xs.length by omega)] at g3;obtain ⟨s,s1,_,_⟩:=DataW.trod_string uS g0;obtain ⟨ns,n1,n2,n3⟩:=Q9 30 _ _ kI _ _ _ g1;obtain ⟨ms,m1,m2,m3⟩:=Q9 30 _ _ kF _ _ _ g2;obtain ⟨u,n',c,e1,e2⟩:=w9b u1 kb (by decide) g3
   match ns,n1,ms,m1 with
   | [a],_,[q0,q1,q2,q3],_=>
    have ecs:cs'=[.string s,.int .i64 a,.int .u8 q0,.int .i64 q1,.int .i64 q2,.int .i64 q3,u]:=by
     have h1:cs'=cs'.take 1++((cs'.drop 1).take 1++((cs'.drop 2).take 4++(cs'.drop 6).take 1)):=by
      match cs',eK with
      | [_,_,_,_,_,_,_],_=>rfl
     rw [h1,s1,n2,m2,e1];rfl
    have hb: ∀(k:IntKind) (n:Int),k.has n->k.min<=n/\n<=k.max:=fun k n h=>h;have b1:=hb .i64 a (n3 (.i64,a) (by simp));have b2:=hb .u8 q0 (m3 (.u8,q0) (by simp));have b3:=hb .i64 q1 (m3 (.i64,q1) (by simp));have b4:=hb .i64 q2 (m3 (.i64,q2) (by simp));have b5:=hb .i64 q3 (m3 (.i64,q3) (by simp));rw [show IntKind.i64.min= -9223372036854775808 from rfl,show IntKind.i64.max=9223372036854775807 from rfl] at b1 b3 b4 b5;rw [show IntKind.u8.min=0 from rfl,show IntKind.u8.max=255 from rfl] at b2;refine ⟨(⟨s.data.toList,a,q0,q1,q2,q3,Cd R6 n' fun i=>Ih N1 (c i)⟩,fun j=>cs'.getD j undef),fun j hj=> ?_,fun j hj=> ?_,?_⟩
    .have:=fD j (by omega);rw [ce] at this;simp only [Xc] at this;rw [show off+(i*7+j)=off+i*7+j by omega,this];show cs'[j]? =some (cs'.getD j undef);rw [Bb,Ar (by omega)];rfl
    .have last:=(Xf (α:=R6) (v:=.dat n' fun i=>Ih N1 (c i)) rfl (Yh fun i _=>rfl)).sound e2;rw [ecs]
     match j,hj with
     | 0,_=>exact .str s.data.toList
     | 1,_=>exact .int _ _
     | 2,_=>exact .int _ _
     | 3,_=>exact .int _ _
     | 4,_=>exact .int _ _
     | 5,_=>exact .int _ _
     | 6,_=>exact last
    .exact ⟨⟨b2.1,Int.lt_of_le_of_lt b2.2 (by decide)⟩,b1,b3,b4,b5⟩
  let Q:Nat->B4×(Nat->Value):=fun i=>if hil:i<len then (key i hil).choose else (Xk.d,fun _=>undef)
  have hQ: ∀i,i<len->(∀j,j<7->w.cell? ⟨blk,off+(i*7+j),none⟩=some ((Q i).2 j))/\(∀j (hj:j<7),Zr (DA fun k=>w.heap[k]?) ((Xk.cells (Q i).1)[j]'hj) ((Q i).2 j))/\PD (Q i).1:=by intro i hil;have:=(key i hil).choose_spec;simp only [Q,hil,dif_pos];exact this
  have hXl:((List.range len).map fun i=>(Q i).1).length =len:=by simp
  have fV: ∀i,i<len->Zz ((List.range len).map fun i=>(Q i).1) i=Xk.cells (Q i).1:=fun i hi=>by show Xk.cells (rd _ i)=_;rw [Wf (by rw [hXl];exact hi)];simp only [BK,List.getElem_range]
  refine ⟨(List.range len).map fun i=>(Q i).1,?_,fun x hx2=> ?_⟩
  .rw [hXl];refine .dat len _ blk off 7 m (fun i j=>(Q i).2 j) hl (fun i hil=>by rw [fV i hil];rfl) (fun i j hil hj=> ?_) (fun i j hil hj=> ?_)
   .have hj7:j<7:=by rw [fV i hil] at hj;exact hj
    have:=(hQ i hil).2.1 j hj7;simp only [fV i hil];exact this
   .have e2:=(hQ i hil).1 j hj;unfold World.cell? at e2;split at e2
    .rename_i cl el fz hb2;simp only [Option.isSome_none,Bool.false_eq_true,if_false] at e2;exact ⟨cl,el,fz,hb2,e2⟩
    .cases e2
  .obtain ⟨i,hi2,rfl⟩:=BR.1 hx2;exact (hQ i (AZ.1 hi2)).2.2
end
end Go.Am
end
